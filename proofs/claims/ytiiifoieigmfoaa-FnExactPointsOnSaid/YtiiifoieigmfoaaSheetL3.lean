/- The laws of BlockText and PointsOn, walked out of the contracts. -/
import Derived.Test.YtiiifoieigmfoaaArgT
import Derived.Test.YtiiifoieigmfoaaTextB
import Derived.Deep.RegionHeld3
namespace Go.Proofs.Ytiiifoieigmfoaa
open Go.RowKit

set_option maxRecDepth 100000 in
set_option maxHeartbeats 8000000 in
theorem FnExactBlockText_walk {w : World} (x : Slc × List ByteArray) (hx : StrsIn w x.1 x.2) : Calls Try.prog 6 #[.agg #[x.1.val]] w fun e w' => e = .returned (.bool true) ∧ Below w.heap.size w w' := by
  obtain ⟨⟨adx, lenx, capx⟩, zx⟩ := x
  obtain ⟨hsx, hmx, hrx, hfx⟩ := hx
  simp only at hsx hmx hrx hfx
  subst hsx
  have HRx := Lib.hid hrx
  have HMx := Lib.hid hmx
  have HFx := Lib.hid hfx
  clear hrx
  have h1 := fun a c w hm hz hr => specText_any a c zx w hm hz hr
  have h2 := fun a c w hm hc hz hr => implText_any a c zx w hm hc hz hr
  generalize (if gridB zx 3 = true then joinB zx slashB else ⟨#[]⟩) = s at h1 h2
  generalize gridB zx 3 = r at h1 h2
  have H1 := Lib.hid h1
  have H2 := Lib.hid h2
  clear h1 h2
  rcases (show 1048576 < (totS zx : Int) ∨ (totS zx : Int) ≤ 1048576 by omega) with hbigx | hlex
  · go_enter Try.func6, Try.ntmps6
    go_wp2_with fail
    have B0 := Lib.hid (Go.Joins.below_alloc1 w (.cells #[.slice adx zx.length capx] 28))
    have Bx_0 : Hid (RowIs (w.alloc (.cells #[.slice adx zx.length capx] 28)) w.heap.size 28 [.slice adx zx.length capx]) := Lib.hid (by unfold RowIs; rw [heap_alloc_new])
    generalize (w.alloc (.cells #[.slice adx zx.length capx] 28)) = w0 at *
    have cx := Bx_0.out.cell (j := 0) rfl
    have HB0 := Lib.hid (Below.refl w0.heap.size w0)
    refine (szBlock_big _ _ zx 1048576 _ HMx.out (HRx.out.below (B0.out.trans (HB0.out.mono B0.out.size))) (by omega) (by omega) (by omega) HFx.out).mono ?_
    rintro e w1 ⟨rfl, hb⟩
    have HB1 := Lib.hid (HB0.out.trans (hb.mono HB0.out.size))
    have Bx_1 := Lib.hid (Bx_0.out.below hb)
    clear hb cx
    have cx := Bx_1.out.cell (j := 0) rfl
    go_wp2_with fail
    go_ret
    exact ⟨rfl, B0.out.trans (HB1.out.mono B0.out.size)⟩
  have hlx : zx.length ≤ 1048576 := by unfold totS at hlex; omega
  go_enter Try.func6, Try.ntmps6
  go_wp2_with fail
  have B0 := Lib.hid (Go.Joins.below_alloc1 w (.cells #[.slice adx zx.length capx] 28))
  have Bx_0 : Hid (RowIs (w.alloc (.cells #[.slice adx zx.length capx] 28)) w.heap.size 28 [.slice adx zx.length capx]) := Lib.hid (by unfold RowIs; rw [heap_alloc_new])
  generalize (w.alloc (.cells #[.slice adx zx.length capx] 28)) = w0 at *
  have HB0 := Lib.hid (Below.refl w0.heap.size w0)
  have cx := Bx_0.out.cell (j := 0) rfl
  refine (szBlock_ok _ _ zx 1048576 _ (HRx.out.below (B0.out.trans (HB0.out.mono B0.out.size))) (by omega) (by omega)).mono ?_
  rintro e w1 ⟨rfl, hb⟩
  have HB1 := Lib.hid (HB0.out.trans (hb.mono HB0.out.size))
  have Bx_1 := Lib.hid (Bx_0.out.below hb)
  clear HB0 Bx_0 cx hb
  have cx := Bx_1.out.cell (j := 0) rfl
  go_wp2_with fail
  refine (toBlock_any _ _ zx _ (by omega) (HRx.out.below (B0.out.trans (HB1.out.mono B0.out.size)))).mono ?_
  rintro e w2 ⟨g1, rfl, hgx, hrow, hb⟩
  have ge_S := HB1.out.size
  have HB2 := Lib.hid (HB1.out.trans (hb.mono HB1.out.size))
  have Bx_2 := Lib.hid (Bx_1.out.below hb)
  clear HB1 Bx_1 cx hb
  have cx := Bx_2.out.cell (j := 0) rfl
  have S_2 := Lib.hid (hrow.owns (base := w1.heap.size) (n := zx.length) (sz := 1) (by simp) (by unfold maxLen; omega) hgx)
  clear hrow hgx
  go_wp2_with fail
  refine (H1.out _ _ _ HMx.out HFx.out (own_reads S_2.out)).mono ?_
  rintro e w3 ⟨rfl, hb⟩
  have HB3 := Lib.hid (HB2.out.trans (hb.mono HB2.out.size))
  have S_3 := Lib.hid (own_below S_2.out hb)
  have Bx_3 := Lib.hid (Bx_2.out.below hb)
  clear HB2 S_2 Bx_2 cx hb
  have cx := Bx_3.out.cell (j := 0) rfl
  go_wp2_with fail
  refine (toBlock_any _ _ zx _ (by omega) (HRx.out.below (B0.out.trans (HB3.out.mono B0.out.size)))).mono ?_
  rintro e w4 ⟨g2, rfl, hgx, hrow, hb⟩
  have lt_S_X := Lib.hid (fun q (hq : _ = some q) => (S_3.out.lt q hq).2)
  have ge_X := HB3.out.size
  have HB4 := Lib.hid (HB3.out.trans (hb.mono HB3.out.size))
  have S_4 := Lib.hid (own_below S_3.out hb)
  have Bx_4 := Lib.hid (Bx_3.out.below hb)
  clear HB3 S_3 Bx_3 cx hb
  have cx := Bx_4.out.cell (j := 0) rfl
  have X_4 := Lib.hid (hrow.owns (base := w3.heap.size) (n := zx.length) (sz := 1) (by simp) (by unfold maxLen; omega) hgx)
  clear hrow hgx
  have dx := fun o => (Bx_4.out.alloc o).cell (j := 0) rfl
  go_wp2_with fail
  clear dx
  have HB5 := Lib.hid (HB4.out.alloc HB4.out.size (.cells #[.slice (some ⟨g2, 0, none⟩) zx.length zx.length] 31))
  have S_5 := Lib.hid (S_4.out.alloc (.cells #[.slice (some ⟨g2, 0, none⟩) zx.length zx.length] 31))
  have X_5 := Lib.hid (X_4.out.alloc (.cells #[.slice (some ⟨g2, 0, none⟩) zx.length zx.length] 31))
  have Bx_5 := Lib.hid (Bx_4.out.alloc (.cells #[.slice (some ⟨g2, 0, none⟩) zx.length zx.length] 31))
  have BX0_5 : Hid (RowIs (w4.alloc (.cells #[.slice (some ⟨g2, 0, none⟩) zx.length zx.length] 31)) w4.heap.size 31 [.slice (some ⟨g2, 0, none⟩) zx.length zx.length]) := Lib.hid (by unfold RowIs; rw [heap_alloc_new])
  generalize w4.alloc (.cells #[.slice (some ⟨g2, 0, none⟩) zx.length zx.length] 31) = w5 at *
  clear HB4 S_4 X_4 Bx_4 cx
  have cx := Bx_5.out.cell (j := 0) rfl
  have cX0 := BX0_5.out.cell (j := 0) rfl
  go_wp2_with fail
  refine (H2.out _ _ _ HMx.out (Nat.le_refl _) HFx.out (own_reads X_5.out)).mono ?_
  rintro e w6 ⟨rfl, hb⟩
  have HB6 := Lib.hid (HB5.out.trans (hb.mono HB5.out.size))
  have S_6 := Lib.hid (own_below S_5.out hb)
  have X_6 := Lib.hid (own_below X_5.out hb)
  have Bx_6 := Lib.hid (Bx_5.out.below hb)
  have BX0_6 := Lib.hid (BX0_5.out.below hb)
  clear HB5 S_5 X_5 Bx_5 BX0_5 cx cX0 hb
  have cx := Bx_6.out.cell (j := 0) rfl
  have cX0 := BX0_6.out.cell (j := 0) rfl
  go_wp2_with fail
  go_region_held3 (fun w' => w'.cell? ⟨w4.heap.size, 0, none⟩ = some (.slice (some ⟨g2, 0, none⟩) zx.length zx.length) ∧ w'.cell? ⟨w.heap.size, 0, none⟩ = some (.slice adx zx.length capx)) (first | exact ⟨cell_later (hb.trans (hb2.mono hb.size)) cX0, cell_later (hb.trans (hb2.mono hb.size)) cx⟩ | exact ⟨cell_later hb cX0, cell_later hb cx⟩ | exact ⟨cX0, cx⟩)
    (first | (go_at_call 17; refine (toBlock_any _ _ zx _ (by omega) (Reads.drew (HRx.out.below (B0.out.trans (HB6.out.mono B0.out.size))))).mono ?_; rintro e w7 ⟨g3, rfl, hgx, hrow, hb⟩) | (go_at_call 19; refine (eqBlock_any _ _ _ _ zx zx _ HMx.out HMx.out (own_reads (own_below X_6.out.drew hb)) hrow.reads).mono ?_; rintro e w8 ⟨rfl, hb2⟩))
  have hb3 := (Below.refl w6.heap.size w6).drew.trans (hb.mono (Nat.le_refl _)) |>.trans (hb2.mono hb.size)
  clear hb hb2 hrow hgx
  have hb := hb3
  clear hb3
  have HB8 := Lib.hid (HB6.out.trans (hb.mono HB6.out.size))
  have S_8 := Lib.hid (own_below S_6.out hb)
  have X_8 := Lib.hid (own_below X_6.out hb)
  have Bx_8 := Lib.hid (Bx_6.out.below hb)
  have BX0_8 := Lib.hid (BX0_6.out.below hb)
  clear HB6 S_6 X_6 Bx_6 BX0_6 cx cX0 hb
  have cx := Bx_8.out.cell (j := 0) rfl
  have cX0 := BX0_8.out.cell (j := 0) rfl
  try simp only [decide_true]
  go_wp2_with fail
  go_ret
  exact ⟨rfl, B0.out.trans (HB8.out.mono B0.out.size)⟩
set_option maxRecDepth 100000 in
set_option maxHeartbeats 8000000 in
theorem FnExactPointsOn_walk {w : World} (x : Slc × List ByteArray) (hx : StrsIn w x.1 x.2) : Calls Try.prog 9 #[x.1.val] w fun e w' => e = .returned (.bool true) ∧ Below w.heap.size w w' := by
  obtain ⟨⟨adx, lenx, capx⟩, zx⟩ := x
  obtain ⟨hsx, hmx, hrx, hfx⟩ := hx
  simp only at hsx hmx hrx hfx
  subst hsx
  have HRx := Lib.hid hrx
  have HMx := Lib.hid hmx
  have HFx := Lib.hid hfx
  clear hrx
  have hsz : ∀ z ∈ zx, z.size ≤ totS zx := fun z hz => totS_mem hz
  generalize hv : ptsR zx = r
  obtain ⟨r0, r1⟩ := r
  have h1 := fun a c w hm hz hr => specPts_any a c zx w hm hz hr
  have h2 := fun a c w hc hm hz hr => implPts_any a c zx w hc hm hz hr
  rw [hv] at h1 h2
  have H1 := Lib.hid h1
  have H2 := Lib.hid h2
  have HSZ := Lib.hid hsz
  clear h1 h2 hv hsz
  rcases (show 1048576 < (totS zx : Int) ∨ (totS zx : Int) ≤ 1048576 by omega) with hbigx | hlex
  · go_enter Try.func9, Try.ntmps9
    go_wp2_with fail
    have HB0 := Lib.hid (Below.refl w.heap.size w)
    refine (szStringS_big _ _ zx 1048576 _ HMx.out (HRx.out.below HB0.out) (by omega) (by omega) (by omega) HFx.out).mono ?_
    rintro e _ ⟨rfl, rfl⟩
    go_wp2_with fail
    go_ret
    exact ⟨rfl, HB0.out⟩
  have hlx : zx.length ≤ 1048576 := by unfold totS at hlex; omega
  go_enter Try.func9, Try.ntmps9
  go_wp2_with fail
  have HB0 := Lib.hid (Below.refl w.heap.size w)
  refine (szStringS_ok _ _ zx 1048576 _ (HRx.out.below HB0.out) (by omega) (by omega)).mono ?_
  rintro e _ ⟨rfl, rfl⟩
  go_wp2_with fail
  refine (toStringS_any _ _ zx _ (by omega) (HRx.out.below HB0.out)).mono ?_
  rintro e w1 ⟨g1, rfl, hgx, hrow, hb⟩
  have ge_S := HB0.out.size
  have HB1 := Lib.hid (HB0.out.trans (hb.mono HB0.out.size))
  clear HB0 hb
  have S_1 := Lib.hid (hrow.owns (base := w.heap.size) (n := zx.length) (sz := 1) (by simp) (by unfold maxLen; omega) hgx)
  clear hrow hgx
  go_wp2_with fail
  refine (H1.out _ _ _ hlx (fun z hz => by have := HSZ.out z hz; omega) (own_reads S_1.out)).mono ?_
  rintro e w2 ⟨rfl, hb⟩
  have HB2 := Lib.hid (HB1.out.trans (hb.mono HB1.out.size))
  have S_2 := Lib.hid (own_below S_1.out hb)
  clear HB1 S_1 hb
  go_wp2_with fail
  refine (toStringS_any _ _ zx _ (by omega) (HRx.out.below HB2.out)).mono ?_
  rintro e w3 ⟨g2, rfl, hgx, hrow, hb⟩
  have lt_S_X := Lib.hid (fun q (hq : _ = some q) => (S_2.out.lt q hq).2)
  have ge_X := HB2.out.size
  have HB3 := Lib.hid (HB2.out.trans (hb.mono HB2.out.size))
  have S_3 := Lib.hid (own_below S_2.out hb)
  clear HB2 S_2 hb
  have X_3 := Lib.hid (hrow.owns (base := w2.heap.size) (n := zx.length) (sz := 1) (by simp) (by unfold maxLen; omega) hgx)
  clear hrow hgx
  go_wp2_with fail
  refine (H2.out _ _ _ (Nat.le_refl _) hlx (fun z hz => by have := HSZ.out z hz; omega) (own_reads X_3.out)).mono ?_
  rintro e w4 ⟨rfl, hb⟩
  have HB4 := Lib.hid (HB3.out.trans (hb.mono HB3.out.size))
  have S_4 := Lib.hid (own_below S_3.out hb)
  have X_4 := Lib.hid (own_below X_3.out hb)
  clear HB3 S_3 X_3 hb
  go_wp2_with fail
  refine (toStringS_any _ _ zx _ (by omega) (HRx.out.below HB4.out)).mono ?_
  rintro e w5 ⟨g3, rfl, hgx, hrow, hb⟩
  have lt_S_Z := Lib.hid (fun q (hq : _ = some q) => (S_4.out.lt q hq).2)
  have lt_X_Z := Lib.hid (fun q (hq : _ = some q) => (X_4.out.lt q hq).2)
  have ge_Z := HB4.out.size
  have HB5 := Lib.hid (HB4.out.trans (hb.mono HB4.out.size))
  have S_5 := Lib.hid (own_below S_4.out hb)
  have X_5 := Lib.hid (own_below X_4.out hb)
  clear HB4 S_4 X_4 hb
  have Z_5 := Lib.hid (hrow.owns (base := w4.heap.size) (n := zx.length) (sz := 1) (by simp) (by unfold maxLen; omega) hgx)
  clear hrow hgx
  go_wp2_with fail
  refine (eqStringS_any _ _ _ _ zx zx _ HMx.out HMx.out (own_reads X_5.out) (own_reads Z_5.out)).mono ?_
  rintro e w6 ⟨rfl, hd⟩
  have HB6 := Lib.hid (HB5.out.trans (hd.below _))
  have S_6 := Lib.hid (own_dr S_5.out hd)
  have X_6 := Lib.hid (own_dr X_5.out hd)
  have Z_6 := Lib.hid (own_dr Z_5.out hd)
  clear HB5 S_5 X_5 Z_5 hd
  simp only [decide_true]
  go_wp2_with fail
  go_ret
  exact ⟨rfl, HB6.out⟩
end Go.Proofs.Ytiiifoieigmfoaa
