/- The law of DoAgree, walked out of the contracts. -/
import Derived.Test.YtiiifoieigmfoaaArgT
import Derived.Test.YtiiifoieigmfoaaBlockS
import Derived.Test.YtiiifoieigmfoaaAgreeS
import Derived.Test.YtiiifoieigmfoaaAgreeI
import Derived.Deep.RegionHeld3
namespace Go.Proofs.Ytiiifoieigmfoaa
open Go.RowKit

theorem below_drew2 {w a b c : World} (h1 : Below w.drew.heap.size w.drew a) (h2 : Below a.heap.size a b) (h3 : Below b.heap.size b c) : Below w.heap.size w c :=
  (((Below.refl w.heap.size w).drew.trans h1).trans (h2.mono h1.size)).trans (h3.mono (Nat.le_trans h1.size h2.size))

set_option maxRecDepth 100000 in
set_option maxHeartbeats 8000000 in
theorem FnExactDoAgree_walk {w : World} (x : Slc × List ByteArray) (y : Slc × List ByteArray) (d : Int) (r : Int) (hx : StrsIn w x.1 x.2) (hy : StrsIn w y.1 y.2) (_ : (Lit.int .i64 d).wf = true) (_ : (Lit.int .i64 r).wf = true) : Calls Try.prog 5 #[.agg #[x.1.val], .agg #[y.1.val], .int .i64 d, .int .i64 r] w fun e w' => e = .returned (.bool true) ∧ Below w.heap.size w w' := by
  obtain ⟨⟨adx, lenx, capx⟩, zx⟩ := x
  obtain ⟨hsx, hmx, hrx, hfx⟩ := hx
  simp only at hsx hmx hrx hfx
  subst hsx
  have HRx := Lib.hid hrx
  have HMx := Lib.hid hmx
  have HFx := Lib.hid hfx
  clear hrx
  obtain ⟨⟨ady, leny, capy⟩, zy⟩ := y
  obtain ⟨hsy, hmy, hry, hfy⟩ := hy
  simp only at hsy hmy hry hfy
  subst hsy
  have HRy := Lib.hid hry
  have HMy := Lib.hid hmy
  have HFy := Lib.hid hfy
  clear hry
  generalize hv : agF zx zy d r = v
  obtain ⟨v0, v1⟩ := v
  have h1 := fun a b c c2 w hm hm2 hz hz2 hr hr2 => specDoAgree_any a b c c2 zx zy d r w hm hm2 hz hz2 hr hr2
  have h2 := fun a b c c2 w hm hm2 hz hz2 hr hr2 => implDoAgree_any a b c c2 zx zy d r w hm hm2 hz hz2 hr hr2
  rw [hv] at h1 h2
  have H1 := Lib.hid h1
  have H2 := Lib.hid h2
  clear h1 h2 hv
  rcases (show 1048576 < (totS zx : Int) ∨ (totS zx : Int) ≤ 1048576 by omega) with hbigx | hlex
  · go_enter Try.func5, Try.ntmps5
    go_wp2_with fail
    have B0 := Lib.hid (Go.Joins.below_alloc2 w (.cells #[.slice adx zx.length capx] 28) (.cells #[.slice ady zy.length capy] 28))
    have Bx_0 : Hid (RowIs ((w.alloc (.cells #[.slice adx zx.length capx] 28)).alloc (.cells #[.slice ady zy.length capy] 28)) w.heap.size 28 [.slice adx zx.length capx]) := Lib.hid (two_new w _ _ _ _).1
    have By_0 : Hid (RowIs ((w.alloc (.cells #[.slice adx zx.length capx] 28)).alloc (.cells #[.slice ady zy.length capy] 28)) (w.heap.size + 1) 28 [.slice ady zy.length capy]) := Lib.hid (two_new w _ _ _ _).2
    generalize ((w.alloc (.cells #[.slice adx zx.length capx] 28)).alloc (.cells #[.slice ady zy.length capy] 28)) = w0 at *
    have cx := Bx_0.out.cell (j := 0) rfl
    have cy := By_0.out.cell (j := 0) rfl
    have HB0 := Lib.hid (Below.refl w0.heap.size w0)
    refine (szBlock_big _ _ zx 1048576 _ HMx.out (HRx.out.below (B0.out.trans (HB0.out.mono B0.out.size))) (by omega) (by omega) (by omega) HFx.out).mono ?_
    rintro e w1 ⟨rfl, hb⟩
    have HB1 := Lib.hid (HB0.out.trans (hb.mono HB0.out.size))
    have Bx_1 := Lib.hid (Bx_0.out.below hb)
    have By_1 := Lib.hid (By_0.out.below hb)
    clear hb cx cy
    have cx := Bx_1.out.cell (j := 0) rfl
    have cy := By_1.out.cell (j := 0) rfl
    go_wp2_with fail
    go_ret
    exact ⟨rfl, B0.out.trans (HB1.out.mono B0.out.size)⟩
  rcases (show (1048576 - (totS zx : Int)) < (totS zy : Int) ∨ (totS zy : Int) ≤ (1048576 - (totS zx : Int)) by omega) with hbigy | hley
  · go_enter Try.func5, Try.ntmps5
    go_wp2_with fail
    have B0 := Lib.hid (Go.Joins.below_alloc2 w (.cells #[.slice adx zx.length capx] 28) (.cells #[.slice ady zy.length capy] 28))
    have Bx_0 : Hid (RowIs ((w.alloc (.cells #[.slice adx zx.length capx] 28)).alloc (.cells #[.slice ady zy.length capy] 28)) w.heap.size 28 [.slice adx zx.length capx]) := Lib.hid (two_new w _ _ _ _).1
    have By_0 : Hid (RowIs ((w.alloc (.cells #[.slice adx zx.length capx] 28)).alloc (.cells #[.slice ady zy.length capy] 28)) (w.heap.size + 1) 28 [.slice ady zy.length capy]) := Lib.hid (two_new w _ _ _ _).2
    generalize ((w.alloc (.cells #[.slice adx zx.length capx] 28)).alloc (.cells #[.slice ady zy.length capy] 28)) = w0 at *
    have cx := Bx_0.out.cell (j := 0) rfl
    have cy := By_0.out.cell (j := 0) rfl
    have HB0 := Lib.hid (Below.refl w0.heap.size w0)
    refine (szBlock_ok _ _ zx 1048576 _ (HRx.out.below (B0.out.trans (HB0.out.mono B0.out.size))) (by omega) (by omega)).mono ?_
    rintro e w1 ⟨rfl, hb⟩
    have HB1 := Lib.hid (HB0.out.trans (hb.mono HB0.out.size))
    have Bx_1 := Lib.hid (Bx_0.out.below hb)
    have By_1 := Lib.hid (By_0.out.below hb)
    clear hb cx cy
    have cx := Bx_1.out.cell (j := 0) rfl
    have cy := By_1.out.cell (j := 0) rfl
    go_wp2_with fail
    refine (szBlock_big _ _ zy (1048576 - (totS zx : Int)) _ HMy.out (HRy.out.below (B0.out.trans (HB1.out.mono B0.out.size))) (by omega) (by omega) (by omega) HFy.out).mono ?_
    rintro e w2 ⟨rfl, hb⟩
    have HB2 := Lib.hid (HB1.out.trans (hb.mono HB1.out.size))
    have Bx_2 := Lib.hid (Bx_1.out.below hb)
    have By_2 := Lib.hid (By_1.out.below hb)
    clear hb cx cy
    have cx := Bx_2.out.cell (j := 0) rfl
    have cy := By_2.out.cell (j := 0) rfl
    go_wp2_with fail
    go_ret
    exact ⟨rfl, B0.out.trans (HB2.out.mono B0.out.size)⟩
  have hlx : zx.length ≤ 1048576 := by unfold totS at hlex; omega
  have hly : zy.length ≤ 1048576 := by unfold totS at hley; omega
  go_enter Try.func5, Try.ntmps5
  go_wp2_with fail
  have B0 := Lib.hid (Go.Joins.below_alloc2 w (.cells #[.slice adx zx.length capx] 28) (.cells #[.slice ady zy.length capy] 28))
  have Bx_0 : Hid (RowIs ((w.alloc (.cells #[.slice adx zx.length capx] 28)).alloc (.cells #[.slice ady zy.length capy] 28)) w.heap.size 28 [.slice adx zx.length capx]) := Lib.hid (two_new w _ _ _ _).1
  have By_0 : Hid (RowIs ((w.alloc (.cells #[.slice adx zx.length capx] 28)).alloc (.cells #[.slice ady zy.length capy] 28)) (w.heap.size + 1) 28 [.slice ady zy.length capy]) := Lib.hid (two_new w _ _ _ _).2
  generalize ((w.alloc (.cells #[.slice adx zx.length capx] 28)).alloc (.cells #[.slice ady zy.length capy] 28)) = w0 at *
  have HB0 := Lib.hid (Below.refl w0.heap.size w0)
  have cx := Bx_0.out.cell (j := 0) rfl
  have cy := By_0.out.cell (j := 0) rfl
  refine (szBlock_ok _ _ zx 1048576 _ (HRx.out.below (B0.out.trans (HB0.out.mono B0.out.size))) (by omega) (by omega)).mono ?_
  rintro e w1 ⟨rfl, hb⟩
  have HB1 := Lib.hid (HB0.out.trans (hb.mono HB0.out.size))
  have Bx_1 := Lib.hid (Bx_0.out.below hb)
  have By_1 := Lib.hid (By_0.out.below hb)
  clear HB0 Bx_0 By_0 cx cy hb
  have cx := Bx_1.out.cell (j := 0) rfl
  have cy := By_1.out.cell (j := 0) rfl
  go_wp2_with fail
  refine (szBlock_ok _ _ zy (1048576 - (totS zx : Int)) _ (HRy.out.below (B0.out.trans (HB1.out.mono B0.out.size))) (by omega) (by omega)).mono ?_
  rintro e w2 ⟨rfl, hb⟩
  have HB2 := Lib.hid (HB1.out.trans (hb.mono HB1.out.size))
  have Bx_2 := Lib.hid (Bx_1.out.below hb)
  have By_2 := Lib.hid (By_1.out.below hb)
  clear HB1 Bx_1 By_1 cx cy hb
  have cx := Bx_2.out.cell (j := 0) rfl
  have cy := By_2.out.cell (j := 0) rfl
  go_wp2_with fail
  go_region_held3 (fun w' => w'.cell? ⟨w.heap.size, 0, none⟩ = some (.slice adx zx.length capx) ∧ w'.cell? ⟨w.heap.size + 1, 0, none⟩ = some (.slice ady zy.length capy)) (first | exact ⟨cx, cy⟩ | exact ⟨cell_later hbA cx, cell_later hbA cy⟩ | exact ⟨cell_later hbB cx, cell_later hbB cy⟩ | exact ⟨cell_later hbB (cell_later hbA cx), cell_later hbB (cell_later hbA cy)⟩ | exact ⟨cell_later hbA (cell_later hbB cx), cell_later hbA (cell_later hbB cy)⟩ | exact ⟨cell_later hb2 (cell_later hbB (cell_later hbA cx)), cell_later hb2 (cell_later hbB (cell_later hbA cy))⟩ | exact ⟨cell_later hb2 (cell_later hbA (cell_later hbB cx)), cell_later hb2 (cell_later hbA (cell_later hbB cy))⟩)
    (first | (go_at_call_of 17 (Value.agg #[Value.slice adx zx.length capx]); refine (toBlock_any _ _ zx _ (by omega) ?_).mono ?_; (first | exact Reads.drew (HRx.out.below (B0.out.trans (HB2.out.mono B0.out.size))) | exact (Reads.drew (HRx.out.below (B0.out.trans (HB2.out.mono B0.out.size)))).below hbB); rintro e wA ⟨gA, rfl, hgA, hrowA, hbA⟩) | (go_at_call_of 17 (Value.agg #[Value.slice ady zy.length capy]); refine (toBlock_any _ _ zy _ (by omega) ?_).mono ?_; (first | exact Reads.drew (HRy.out.below (B0.out.trans (HB2.out.mono B0.out.size))) | exact (Reads.drew (HRy.out.below (B0.out.trans (HB2.out.mono B0.out.size)))).below hbA); rintro e wB ⟨gB, rfl, hgB, hrowB, hbB⟩) | (go_at_call 20; refine (H1.out _ _ _ _ _ HMx.out HMy.out HFx.out HFy.out ?_ ?_).mono ?_; (first | exact (hrowA.below hbB).reads | exact hrowA.reads); (first | exact (hrowB.below hbA).reads | exact hrowB.reads); rintro e w5 ⟨rfl, hb2⟩))
  all_goals
    have hb : Below w2.heap.size w2 w5 := by first | exact below_drew2 hbA hbB hb2 | exact below_drew2 hbB hbA hb2
    clear hbA hbB hb2 hrowA hrowB hgA hgB
    have HB5 := Lib.hid (HB2.out.trans (hb.mono HB2.out.size))
    have Bx_5 := Lib.hid (Bx_2.out.below hb)
    have By_5 := Lib.hid (By_2.out.below hb)
    clear HB2 Bx_2 By_2 cx cy hb
    have cx := Bx_5.out.cell (j := 0) rfl
    have cy := By_5.out.cell (j := 0) rfl
    go_wp2_with fail
    refine (toBlock_any _ _ zx _ (by omega) (HRx.out.below (B0.out.trans (HB5.out.mono B0.out.size)))).mono ?_
    rintro e w6 ⟨g1, rfl, hgx, hrow, hb⟩
    have ge_X := HB5.out.size
    have HB6 := Lib.hid (HB5.out.trans (hb.mono HB5.out.size))
    have Bx_6 := Lib.hid (Bx_5.out.below hb)
    have By_6 := Lib.hid (By_5.out.below hb)
    clear HB5 Bx_5 By_5 cx cy hb
    have cx := Bx_6.out.cell (j := 0) rfl
    have cy := By_6.out.cell (j := 0) rfl
    have X_6 := Lib.hid (hrow.owns (base := w5.heap.size) (n := zx.length) (sz := 1) (by simp) (by unfold maxLen; omega) hgx)
    clear hrow hgx
    have dx := fun o => (Bx_6.out.alloc o).cell (j := 0) rfl
    have dy := fun o => (By_6.out.alloc o).cell (j := 0) rfl
    go_wp2_with fail
    clear dx dy
    have HB7 := Lib.hid (HB6.out.alloc HB6.out.size (.cells #[.slice (some ⟨g1, 0, none⟩) zx.length zx.length] 31))
    have X_7 := Lib.hid (X_6.out.alloc (.cells #[.slice (some ⟨g1, 0, none⟩) zx.length zx.length] 31))
    have Bx_7 := Lib.hid (Bx_6.out.alloc (.cells #[.slice (some ⟨g1, 0, none⟩) zx.length zx.length] 31))
    have By_7 := Lib.hid (By_6.out.alloc (.cells #[.slice (some ⟨g1, 0, none⟩) zx.length zx.length] 31))
    have BX0_7 : Hid (RowIs (w6.alloc (.cells #[.slice (some ⟨g1, 0, none⟩) zx.length zx.length] 31)) w6.heap.size 31 [.slice (some ⟨g1, 0, none⟩) zx.length zx.length]) := Lib.hid (by unfold RowIs; rw [heap_alloc_new])
    generalize w6.alloc (.cells #[.slice (some ⟨g1, 0, none⟩) zx.length zx.length] 31) = w7 at *
    clear HB6 X_6 Bx_6 By_6 cx cy
    have cx := Bx_7.out.cell (j := 0) rfl
    have cy := By_7.out.cell (j := 0) rfl
    have cX0 := BX0_7.out.cell (j := 0) rfl
    go_wp2_with fail
    refine (toBlock_any _ _ zy _ (by omega) (HRy.out.below (B0.out.trans (HB7.out.mono B0.out.size)))).mono ?_
    rintro e w8 ⟨g2, rfl, hgx, hrow, hb⟩
    have lt_X_Y := Lib.hid (fun q (hq : _ = some q) => (X_7.out.lt q hq).2)
    have ge_Y := HB7.out.size
    have HB8 := Lib.hid (HB7.out.trans (hb.mono HB7.out.size))
    have X_8 := Lib.hid (own_below X_7.out hb)
    have Bx_8 := Lib.hid (Bx_7.out.below hb)
    have By_8 := Lib.hid (By_7.out.below hb)
    have BX0_8 := Lib.hid (BX0_7.out.below hb)
    clear HB7 X_7 Bx_7 By_7 BX0_7 cx cy cX0 hb
    have cx := Bx_8.out.cell (j := 0) rfl
    have cy := By_8.out.cell (j := 0) rfl
    have cX0 := BX0_8.out.cell (j := 0) rfl
    have Y_8 := Lib.hid (hrow.owns (base := w7.heap.size) (n := zy.length) (sz := 1) (by simp) (by unfold maxLen; omega) hgx)
    clear hrow hgx
    have dx := fun o => (Bx_8.out.alloc o).cell (j := 0) rfl
    have dy := fun o => (By_8.out.alloc o).cell (j := 0) rfl
    have dX0 := fun o => (BX0_8.out.alloc o).cell (j := 0) rfl
    go_wp2_with fail
    clear dx dy dX0
    have HB9 := Lib.hid (HB8.out.alloc HB8.out.size (.cells #[.slice (some ⟨g2, 0, none⟩) zy.length zy.length] 31))
    have X_9 := Lib.hid (X_8.out.alloc (.cells #[.slice (some ⟨g2, 0, none⟩) zy.length zy.length] 31))
    have Y_9 := Lib.hid (Y_8.out.alloc (.cells #[.slice (some ⟨g2, 0, none⟩) zy.length zy.length] 31))
    have Bx_9 := Lib.hid (Bx_8.out.alloc (.cells #[.slice (some ⟨g2, 0, none⟩) zy.length zy.length] 31))
    have By_9 := Lib.hid (By_8.out.alloc (.cells #[.slice (some ⟨g2, 0, none⟩) zy.length zy.length] 31))
    have BX0_9 := Lib.hid (BX0_8.out.alloc (.cells #[.slice (some ⟨g2, 0, none⟩) zy.length zy.length] 31))
    have BY0_9 : Hid (RowIs (w8.alloc (.cells #[.slice (some ⟨g2, 0, none⟩) zy.length zy.length] 31)) w8.heap.size 31 [.slice (some ⟨g2, 0, none⟩) zy.length zy.length]) := Lib.hid (by unfold RowIs; rw [heap_alloc_new])
    generalize w8.alloc (.cells #[.slice (some ⟨g2, 0, none⟩) zy.length zy.length] 31) = w9 at *
    clear HB8 X_8 Y_8 Bx_8 By_8 BX0_8 cx cy cX0
    have cx := Bx_9.out.cell (j := 0) rfl
    have cy := By_9.out.cell (j := 0) rfl
    have cX0 := BX0_9.out.cell (j := 0) rfl
    have cY0 := BY0_9.out.cell (j := 0) rfl
    go_wp2_with fail
    refine (H2.out _ _ _ _ _ HMx.out HMy.out HFx.out HFy.out (own_reads X_9.out) (own_reads Y_9.out)).mono ?_
    rintro e w10 ⟨rfl, hb⟩
    have HB10 := Lib.hid (HB9.out.trans (hb.mono HB9.out.size))
    have X_10 := Lib.hid (own_below X_9.out hb)
    have Y_10 := Lib.hid (own_below Y_9.out hb)
    have Bx_10 := Lib.hid (Bx_9.out.below hb)
    have By_10 := Lib.hid (By_9.out.below hb)
    have BX0_10 := Lib.hid (BX0_9.out.below hb)
    have BY0_10 := Lib.hid (BY0_9.out.below hb)
    clear HB9 X_9 Y_9 Bx_9 By_9 BX0_9 BY0_9 cx cy cX0 cY0 hb
    have cx := Bx_10.out.cell (j := 0) rfl
    have cy := By_10.out.cell (j := 0) rfl
    have cX0 := BX0_10.out.cell (j := 0) rfl
    have cY0 := BY0_10.out.cell (j := 0) rfl
    go_wp2_with fail
    go_region_held3 (fun w' => w'.cell? ⟨w6.heap.size, 0, none⟩ = some (.slice (some ⟨g1, 0, none⟩) zx.length zx.length) ∧ w'.cell? ⟨w.heap.size, 0, none⟩ = some (.slice adx zx.length capx)) (first | exact ⟨cell_later (hb.trans (hb2.mono hb.size)) cX0, cell_later (hb.trans (hb2.mono hb.size)) cx⟩ | exact ⟨cell_later hb cX0, cell_later hb cx⟩ | exact ⟨cX0, cx⟩)
      (first | (go_at_call 17; refine (toBlock_any _ _ zx _ (by omega) (Reads.drew (HRx.out.below (B0.out.trans (HB10.out.mono B0.out.size))))).mono ?_; rintro e w11 ⟨g3, rfl, hgx, hrow, hb⟩) | (go_at_call 19; refine (eqBlock_any _ _ _ _ zx zx _ HMx.out HMx.out (own_reads (own_below X_10.out.drew hb)) hrow.reads).mono ?_; rintro e w12 ⟨rfl, hb2⟩))
    have hb3 := (Below.refl w10.heap.size w10).drew.trans (hb.mono (Nat.le_refl _)) |>.trans (hb2.mono hb.size)
    clear hb hb2 hrow hgx
    have hb := hb3
    clear hb3
    have HB12 := Lib.hid (HB10.out.trans (hb.mono HB10.out.size))
    have X_12 := Lib.hid (own_below X_10.out hb)
    have Y_12 := Lib.hid (own_below Y_10.out hb)
    have Bx_12 := Lib.hid (Bx_10.out.below hb)
    have By_12 := Lib.hid (By_10.out.below hb)
    have BX0_12 := Lib.hid (BX0_10.out.below hb)
    have BY0_12 := Lib.hid (BY0_10.out.below hb)
    clear HB10 X_10 Y_10 Bx_10 By_10 BX0_10 BY0_10 cx cy cX0 cY0 hb
    have cx := Bx_12.out.cell (j := 0) rfl
    have cy := By_12.out.cell (j := 0) rfl
    have cX0 := BX0_12.out.cell (j := 0) rfl
    have cY0 := BY0_12.out.cell (j := 0) rfl
    try simp only [decide_true]
    go_wp2_with fail
    go_region_held3 (fun w' => w'.cell? ⟨w8.heap.size, 0, none⟩ = some (.slice (some ⟨g2, 0, none⟩) zy.length zy.length) ∧ w'.cell? ⟨w.heap.size + 1, 0, none⟩ = some (.slice ady zy.length capy)) (first | exact ⟨cell_later (hb.trans (hb2.mono hb.size)) cY0, cell_later (hb.trans (hb2.mono hb.size)) cy⟩ | exact ⟨cell_later hb cY0, cell_later hb cy⟩ | exact ⟨cY0, cy⟩)
      (first | (go_at_call 17; refine (toBlock_any _ _ zy _ (by omega) (Reads.drew (HRy.out.below (B0.out.trans (HB12.out.mono B0.out.size))))).mono ?_; rintro e w13 ⟨g4, rfl, hgx, hrow, hb⟩) | (go_at_call 19; refine (eqBlock_any _ _ _ _ zy zy _ HMy.out HMy.out (own_reads (own_below Y_12.out.drew hb)) hrow.reads).mono ?_; rintro e w14 ⟨rfl, hb2⟩))
    have hb3 := (Below.refl w12.heap.size w12).drew.trans (hb.mono (Nat.le_refl _)) |>.trans (hb2.mono hb.size)
    clear hb hb2 hrow hgx
    have hb := hb3
    clear hb3
    have HB14 := Lib.hid (HB12.out.trans (hb.mono HB12.out.size))
    have X_14 := Lib.hid (own_below X_12.out hb)
    have Y_14 := Lib.hid (own_below Y_12.out hb)
    have Bx_14 := Lib.hid (Bx_12.out.below hb)
    have By_14 := Lib.hid (By_12.out.below hb)
    have BX0_14 := Lib.hid (BX0_12.out.below hb)
    have BY0_14 := Lib.hid (BY0_12.out.below hb)
    clear HB12 X_12 Y_12 Bx_12 By_12 BX0_12 BY0_12 cx cy cX0 cY0 hb
    have cx := Bx_14.out.cell (j := 0) rfl
    have cy := By_14.out.cell (j := 0) rfl
    have cX0 := BX0_14.out.cell (j := 0) rfl
    have cY0 := BY0_14.out.cell (j := 0) rfl
    try simp only [decide_true]
    go_wp2_with fail
    go_ret
    exact ⟨rfl, B0.out.trans (HB14.out.mono B0.out.size)⟩
end Go.Proofs.Ytiiifoieigmfoaa
