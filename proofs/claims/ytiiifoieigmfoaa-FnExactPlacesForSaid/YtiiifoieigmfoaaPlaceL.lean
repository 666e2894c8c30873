/- The law of PlacesFor, walked out of the contracts. -/
import Derived.Test.YtiiifoieigmfoaaArgT
import Derived.Test.YtiiifoieigmfoaaPlaceW
import Derived.Test.YtiiifoieigmfoaaPairS
import Derived.Deep.RegionHeld3
namespace Go.Proofs.Ytiiifoieigmfoaa
open Go.RowKit

theorem below_drew2 {w a b c : World} (h1 : Below w.drew.heap.size w.drew a) (h2 : Below a.heap.size a b) (h3 : Below b.heap.size b c) : Below w.heap.size w c :=
  (((Below.refl w.heap.size w).drew.trans h1).trans (h2.mono h1.size)).trans (h3.mono (Nat.le_trans h1.size h2.size))

set_option maxRecDepth 100000 in
set_option maxHeartbeats 8000000 in
theorem FnExactPlacesFor_walk {w : World} (x : Slc × List ByteArray) (y : Slc × List ByteArray) (hx : StrsIn w x.1 x.2) (hy : StrsIn w y.1 y.2) : Calls Try.prog 8 #[x.1.val, .agg #[y.1.val]] w fun e w' => e = .returned (.bool true) ∧ Below w.heap.size w w' := by
  obtain ⟨⟨adx, lenx, capx⟩, zx⟩ := x
  obtain ⟨hsx, hmx, hrx, hfx⟩ := hx
  simp only at hsx hmx hrx hfx
  subst hsx
  have HRx := Lib.hid hrx
  have HMx := Lib.hid hmx
  have HFx := Lib.hid hfx
  clear hrx
  obtain ⟨⟨ady, leny, capy⟩, zy⟩ := y
  obtain ⟨hsy, hmy, hry, hfy⟩ := hy
  simp only at hsy hmy hry hfy
  subst hsy
  have HRy := Lib.hid hry
  have HMy := Lib.hid hmy
  have HFy := Lib.hid hfy
  clear hry
  have hpl := plR_len zx zy
  have h1 := fun a b c c2 w hm hm2 hz hz2 hr hr2 => specPlacesFor_any a b c c2 zx zy w hm hm2 hz hz2 hr hr2
  have h2 := fun a b c c2 w hm hm2 hz hz2 hr hr2 => implPlacesFor_any a b c c2 zx zy w hm hm2 hz hz2 hr hr2
  generalize plR zx zy = ps at h1 h2 hpl
  generalize okP zx zy = ok at h1 h2
  have H1 := Lib.hid h1
  have H2 := Lib.hid h2
  have HPM : Hid (ps.length ≤ maxLen) := Lib.hid (by unfold maxLen; omega)
  clear h1 h2
  rcases (show 1048576 < (totS zx : Int) ∨ (totS zx : Int) ≤ 1048576 by omega) with hbigx | hlex
  · go_enter Try.func8, Try.ntmps8
    go_wp2_with fail
    have B0 := Lib.hid (Go.Joins.below_alloc1 w (.cells #[.slice ady zy.length capy] 28))
    have By_0 : Hid (RowIs (w.alloc (.cells #[.slice ady zy.length capy] 28)) w.heap.size 28 [.slice ady zy.length capy]) := Lib.hid (by unfold RowIs; rw [heap_alloc_new])
    generalize (w.alloc (.cells #[.slice ady zy.length capy] 28)) = w0 at *
    have cy := By_0.out.cell (j := 0) rfl
    have HB0 := Lib.hid (Below.refl w0.heap.size w0)
    refine (szStringS_big _ _ zx 1048576 _ HMx.out (HRx.out.below (B0.out.trans (HB0.out.mono B0.out.size))) (by omega) (by omega) (by omega) HFx.out).mono ?_
    rintro e _ ⟨rfl, rfl⟩
    go_wp2_with fail
    go_ret
    exact ⟨rfl, B0.out.trans (HB0.out.mono B0.out.size)⟩
  rcases (show (1048576 - (totS zx : Int)) < (totS zy : Int) ∨ (totS zy : Int) ≤ (1048576 - (totS zx : Int)) by omega) with hbigy | hley
  · go_enter Try.func8, Try.ntmps8
    go_wp2_with fail
    have B0 := Lib.hid (Go.Joins.below_alloc1 w (.cells #[.slice ady zy.length capy] 28))
    have By_0 : Hid (RowIs (w.alloc (.cells #[.slice ady zy.length capy] 28)) w.heap.size 28 [.slice ady zy.length capy]) := Lib.hid (by unfold RowIs; rw [heap_alloc_new])
    generalize (w.alloc (.cells #[.slice ady zy.length capy] 28)) = w0 at *
    have cy := By_0.out.cell (j := 0) rfl
    have HB0 := Lib.hid (Below.refl w0.heap.size w0)
    refine (szStringS_ok _ _ zx 1048576 _ (HRx.out.below (B0.out.trans (HB0.out.mono B0.out.size))) (by omega) (by omega)).mono ?_
    rintro e _ ⟨rfl, rfl⟩
    go_wp2_with fail
    refine (szBlock_big _ _ zy (1048576 - (totS zx : Int)) _ HMy.out (HRy.out.below (B0.out.trans (HB0.out.mono B0.out.size))) (by omega) (by omega) (by omega) HFy.out).mono ?_
    rintro e w1 ⟨rfl, hb⟩
    have HB1 := Lib.hid (HB0.out.trans (hb.mono HB0.out.size))
    have By_1 := Lib.hid (By_0.out.below hb)
    clear hb cy
    have cy := By_1.out.cell (j := 0) rfl
    go_wp2_with fail
    go_ret
    exact ⟨rfl, B0.out.trans (HB1.out.mono B0.out.size)⟩
  have hlx : zx.length ≤ 1048576 := by unfold totS at hlex; omega
  have hly : zy.length ≤ 1048576 := by unfold totS at hley; omega
  go_enter Try.func8, Try.ntmps8
  go_wp2_with fail
  have B0 := Lib.hid (Go.Joins.below_alloc1 w (.cells #[.slice ady zy.length capy] 28))
  have By_0 : Hid (RowIs (w.alloc (.cells #[.slice ady zy.length capy] 28)) w.heap.size 28 [.slice ady zy.length capy]) := Lib.hid (by unfold RowIs; rw [heap_alloc_new])
  generalize (w.alloc (.cells #[.slice ady zy.length capy] 28)) = w0 at *
  have HB0 := Lib.hid (Below.refl w0.heap.size w0)
  have cy := By_0.out.cell (j := 0) rfl
  refine (szStringS_ok _ _ zx 1048576 _ (HRx.out.below (B0.out.trans (HB0.out.mono B0.out.size))) (by omega) (by omega)).mono ?_
  rintro e _ ⟨rfl, rfl⟩
  go_wp2_with fail
  refine (szBlock_ok _ _ zy (1048576 - (totS zx : Int)) _ (HRy.out.below (B0.out.trans (HB0.out.mono B0.out.size))) (by omega) (by omega)).mono ?_
  rintro e w1 ⟨rfl, hb⟩
  have HB1 := Lib.hid (HB0.out.trans (hb.mono HB0.out.size))
  have By_1 := Lib.hid (By_0.out.below hb)
  clear HB0 By_0 cy hb
  have cy := By_1.out.cell (j := 0) rfl
  go_wp2_with fail
  go_region_held3 (fun w' => w'.cell? ⟨w.heap.size, 0, none⟩ = some (.slice ady zy.length capy)) (first | exact cy | exact cell_later hbA cy | exact cell_later hbB cy | exact cell_later hbB (cell_later hbA cy) | exact cell_later hbA (cell_later hbB cy) | exact cell_later hb2 (cell_later hbB (cell_later hbA cy)) | exact cell_later hb2 (cell_later hbA (cell_later hbB cy)))
    (first | (go_at_call 12; refine (toStringS_any _ _ zx _ (by omega) ?_).mono ?_; (first | exact Reads.drew (HRx.out.below (B0.out.trans (HB1.out.mono B0.out.size))) | exact (Reads.drew (HRx.out.below (B0.out.trans (HB1.out.mono B0.out.size)))).below hbB); rintro e wA ⟨gA, rfl, hgA, hrowA, hbA⟩) | (go_at_call 17; refine (toBlock_any _ _ zy _ (by omega) ?_).mono ?_; (first | exact Reads.drew (HRy.out.below (B0.out.trans (HB1.out.mono B0.out.size))) | exact (Reads.drew (HRy.out.below (B0.out.trans (HB1.out.mono B0.out.size)))).below hbA); rintro e wB ⟨gB, rfl, hgB, hrowB, hbB⟩) | (go_at_call 29; refine (H1.out _ _ _ _ _ HMx.out HMy.out HFx.out HFy.out ?_ ?_).mono ?_; (first | exact (hrowA.below hbB).reads | exact hrowA.reads); (first | exact (hrowB.below hbA).reads | exact hrowB.reads); rintro e w4 ⟨adR, cpR, rfl, hown, hb2⟩))
  all_goals
    have hb : Below w1.heap.size w1 w4 := by first | exact below_drew2 hbA hbB hb2 | exact below_drew2 hbB hbA hb2
    have hown9 : w4.ownsRow w1.heap.size 61 2 (.slice adR ps.length cpR) ps.length (pairs ps) := World.ownsRow.mono hown (by first | exact Nat.le_trans hbA.size hbB.size | exact Nat.le_trans hbB.size hbA.size)
    clear hbA hbB hb2 hrowA hrowB hgA hgB hown
    have ge_R := HB1.out.size
    have HB4 := Lib.hid (HB1.out.trans (hb.mono HB1.out.size))
    have By_4 := Lib.hid (By_1.out.below hb)
    clear HB1 By_1 cy hb
    have cy := By_4.out.cell (j := 0) rfl
    have R_4 := Lib.hid hown9
    clear hown9
    go_wp2_with fail
    refine (toStringS_any _ _ zx _ (by omega) (HRx.out.below (B0.out.trans (HB4.out.mono B0.out.size)))).mono ?_
    rintro e w5 ⟨g1, rfl, hgx, hrow, hb⟩
    have lt_R_X := Lib.hid (fun q (hq : _ = some q) => (R_4.out.lt q hq).2)
    have ge_X := HB4.out.size
    have HB5 := Lib.hid (HB4.out.trans (hb.mono HB4.out.size))
    have R_5 := Lib.hid (own_below R_4.out hb)
    have By_5 := Lib.hid (By_4.out.below hb)
    clear HB4 R_4 By_4 cy hb
    have cy := By_5.out.cell (j := 0) rfl
    have X_5 := Lib.hid (hrow.owns (base := w4.heap.size) (n := zx.length) (sz := 1) (by simp) (by unfold maxLen; omega) hgx)
    clear hrow hgx
    go_wp2_with fail
    refine (toBlock_any _ _ zy _ (by omega) (HRy.out.below (B0.out.trans (HB5.out.mono B0.out.size)))).mono ?_
    rintro e w6 ⟨g2, rfl, hgx, hrow, hb⟩
    have lt_R_Y := Lib.hid (fun q (hq : _ = some q) => (R_5.out.lt q hq).2)
    have lt_X_Y := Lib.hid (fun q (hq : _ = some q) => (X_5.out.lt q hq).2)
    have ge_Y := HB5.out.size
    have HB6 := Lib.hid (HB5.out.trans (hb.mono HB5.out.size))
    have R_6 := Lib.hid (own_below R_5.out hb)
    have X_6 := Lib.hid (own_below X_5.out hb)
    have By_6 := Lib.hid (By_5.out.below hb)
    clear HB5 R_5 X_5 By_5 cy hb
    have cy := By_6.out.cell (j := 0) rfl
    have Y_6 := Lib.hid (hrow.owns (base := w5.heap.size) (n := zy.length) (sz := 1) (by simp) (by unfold maxLen; omega) hgx)
    clear hrow hgx
    have dy := fun o => (By_6.out.alloc o).cell (j := 0) rfl
    go_wp2_with fail
    clear dy
    have HB7 := Lib.hid (HB6.out.alloc HB6.out.size (.cells #[.slice (some ⟨g2, 0, none⟩) zy.length zy.length] 31))
    have R_7 := Lib.hid (R_6.out.alloc (.cells #[.slice (some ⟨g2, 0, none⟩) zy.length zy.length] 31))
    have X_7 := Lib.hid (X_6.out.alloc (.cells #[.slice (some ⟨g2, 0, none⟩) zy.length zy.length] 31))
    have Y_7 := Lib.hid (Y_6.out.alloc (.cells #[.slice (some ⟨g2, 0, none⟩) zy.length zy.length] 31))
    have By_7 := Lib.hid (By_6.out.alloc (.cells #[.slice (some ⟨g2, 0, none⟩) zy.length zy.length] 31))
    have BY0_7 : Hid (RowIs (w6.alloc (.cells #[.slice (some ⟨g2, 0, none⟩) zy.length zy.length] 31)) w6.heap.size 31 [.slice (some ⟨g2, 0, none⟩) zy.length zy.length]) := Lib.hid (by unfold RowIs; rw [heap_alloc_new])
    generalize w6.alloc (.cells #[.slice (some ⟨g2, 0, none⟩) zy.length zy.length] 31) = w7 at *
    clear HB6 R_6 X_6 Y_6 By_6 cy
    have cy := By_7.out.cell (j := 0) rfl
    have cY0 := BY0_7.out.cell (j := 0) rfl
    go_wp2_with fail
    refine (H2.out _ _ _ _ _ HMx.out HMy.out HFx.out HFy.out (own_reads X_7.out) (own_reads Y_7.out)).mono ?_
    rintro e w8 ⟨adG, cpG, rfl, hown, hb⟩
    have lt_R_G := Lib.hid (fun q (hq : _ = some q) => (R_7.out.lt q hq).2)
    have lt_X_G := Lib.hid (fun q (hq : _ = some q) => (X_7.out.lt q hq).2)
    have lt_Y_G := Lib.hid (fun q (hq : _ = some q) => (Y_7.out.lt q hq).2)
    have ge_G := HB7.out.size
    have HB8 := Lib.hid (HB7.out.trans (hb.mono HB7.out.size))
    have R_8 := Lib.hid (own_below R_7.out hb)
    have X_8 := Lib.hid (own_below X_7.out hb)
    have Y_8 := Lib.hid (own_below Y_7.out hb)
    have By_8 := Lib.hid (By_7.out.below hb)
    have BY0_8 := Lib.hid (BY0_7.out.below hb)
    clear HB7 R_7 X_7 Y_7 By_7 BY0_7 cy cY0 hb
    have cy := By_8.out.cell (j := 0) rfl
    have cY0 := BY0_8.out.cell (j := 0) rfl
    have G_8 := Lib.hid hown
    clear hown
    go_wp2_with fail
    refine (eqIntA2S_same _ _ _ _ ps _ HPM.out (own_reads G_8.out) (own_reads R_8.out)).mono ?_
    rintro e w9 ⟨rfl, hb⟩
    have HB9 := Lib.hid (HB8.out.trans (hb.mono HB8.out.size))
    have R_9 := Lib.hid (own_below R_8.out hb)
    have X_9 := Lib.hid (own_below X_8.out hb)
    have Y_9 := Lib.hid (own_below Y_8.out hb)
    have G_9 := Lib.hid (own_below G_8.out hb)
    have By_9 := Lib.hid (By_8.out.below hb)
    have BY0_9 := Lib.hid (BY0_8.out.below hb)
    clear HB8 R_8 X_8 Y_8 G_8 By_8 BY0_8 cy cY0 hb
    have cy := By_9.out.cell (j := 0) rfl
    have cY0 := BY0_9.out.cell (j := 0) rfl
    go_wp2_with fail
    refine (toStringS_any _ _ zx _ (by omega) (HRx.out.below (B0.out.trans (HB9.out.mono B0.out.size)))).mono ?_
    rintro e w10 ⟨g3, rfl, hgx, hrow, hb⟩
    have lt_R_Z := Lib.hid (fun q (hq : _ = some q) => (R_9.out.lt q hq).2)
    have lt_X_Z := Lib.hid (fun q (hq : _ = some q) => (X_9.out.lt q hq).2)
    have lt_Y_Z := Lib.hid (fun q (hq : _ = some q) => (Y_9.out.lt q hq).2)
    have lt_G_Z := Lib.hid (fun q (hq : _ = some q) => (G_9.out.lt q hq).2)
    have ge_Z := HB9.out.size
    have HB10 := Lib.hid (HB9.out.trans (hb.mono HB9.out.size))
    have R_10 := Lib.hid (own_below R_9.out hb)
    have X_10 := Lib.hid (own_below X_9.out hb)
    have Y_10 := Lib.hid (own_below Y_9.out hb)
    have G_10 := Lib.hid (own_below G_9.out hb)
    have By_10 := Lib.hid (By_9.out.below hb)
    have BY0_10 := Lib.hid (BY0_9.out.below hb)
    clear HB9 R_9 X_9 Y_9 G_9 By_9 BY0_9 cy cY0 hb
    have cy := By_10.out.cell (j := 0) rfl
    have cY0 := BY0_10.out.cell (j := 0) rfl
    have Z_10 := Lib.hid (hrow.owns (base := w9.heap.size) (n := zx.length) (sz := 1) (by simp) (by unfold maxLen; omega) hgx)
    clear hrow hgx
    go_wp2_with fail
    refine (eqStringS_any _ _ _ _ zx zx _ HMx.out HMx.out (own_reads X_10.out) (own_reads Z_10.out)).mono ?_
    rintro e w11 ⟨rfl, hd⟩
    have HB11 := Lib.hid (HB10.out.trans (hd.below _))
    have R_11 := Lib.hid (own_dr R_10.out hd)
    have X_11 := Lib.hid (own_dr X_10.out hd)
    have Y_11 := Lib.hid (own_dr Y_10.out hd)
    have G_11 := Lib.hid (own_dr G_10.out hd)
    have Z_11 := Lib.hid (own_dr Z_10.out hd)
    have By_11 := Lib.hid (By_10.out.dr hd)
    have BY0_11 := Lib.hid (BY0_10.out.dr hd)
    clear HB10 R_10 X_10 Y_10 G_10 Z_10 By_10 BY0_10 cy cY0 hd
    have cy := By_11.out.cell (j := 0) rfl
    have cY0 := BY0_11.out.cell (j := 0) rfl
    simp only [decide_true]
    go_wp2_with fail
    go_region_held3 (fun w' => w'.cell? ⟨w6.heap.size, 0, none⟩ = some (.slice (some ⟨g2, 0, none⟩) zy.length zy.length) ∧ w'.cell? ⟨w.heap.size, 0, none⟩ = some (.slice ady zy.length capy)) (first | exact ⟨cell_later (hb.trans (hb2.mono hb.size)) cY0, cell_later (hb.trans (hb2.mono hb.size)) cy⟩ | exact ⟨cell_later hb cY0, cell_later hb cy⟩ | exact ⟨cY0, cy⟩)
      (first | (go_at_call 17; refine (toBlock_any _ _ zy _ (by omega) (Reads.drew (HRy.out.below (B0.out.trans (HB11.out.mono B0.out.size))))).mono ?_; rintro e w12 ⟨g4, rfl, hgx, hrow, hb⟩) | (go_at_call 19; refine (eqBlock_any _ _ _ _ zy zy _ HMy.out HMy.out (own_reads (own_below Y_11.out.drew hb)) hrow.reads).mono ?_; rintro e w13 ⟨rfl, hb2⟩))
    have hb3 := (Below.refl w11.heap.size w11).drew.trans (hb.mono (Nat.le_refl _)) |>.trans (hb2.mono hb.size)
    clear hb hb2 hrow hgx
    have hb := hb3
    clear hb3
    have HB13 := Lib.hid (HB11.out.trans (hb.mono HB11.out.size))
    have R_13 := Lib.hid (own_below R_11.out hb)
    have X_13 := Lib.hid (own_below X_11.out hb)
    have Y_13 := Lib.hid (own_below Y_11.out hb)
    have G_13 := Lib.hid (own_below G_11.out hb)
    have Z_13 := Lib.hid (own_below Z_11.out hb)
    have By_13 := Lib.hid (By_11.out.below hb)
    have BY0_13 := Lib.hid (BY0_11.out.below hb)
    clear HB11 R_11 X_11 Y_11 G_11 Z_11 By_11 BY0_11 cy cY0 hb
    have cy := By_13.out.cell (j := 0) rfl
    have cY0 := BY0_13.out.cell (j := 0) rfl
    try simp only [decide_true]
    go_wp2_with fail
    refine (markStringS_any _ _ _ _ _ 1 1 _ rfl (by omega) (by omega) (by omega) X_13.out).mono ?_
    rintro e w14 ⟨rfl, _, hg⟩
    have HB14 := Lib.hid (HB13.out.grown hg HB13.out.size (fun q hq => Nat.le_trans ge_X (X_13.out.lt q hq).1))
    have R_14 := Lib.hid (own_kept R_13.out hg (ne_earlier lt_R_X.out X_13.out))
    have Y_14 := Lib.hid (own_kept Y_13.out hg (ne_later lt_X_Y.out Y_13.out))
    have G_14 := Lib.hid (own_kept G_13.out hg (ne_later lt_X_G.out G_13.out))
    have Z_14 := Lib.hid (own_kept Z_13.out hg (ne_later lt_X_Z.out Z_13.out))
    have By_14 := Lib.hid (By_13.out.grown hg (fun e => own_row_ne X_13.out By_13.out (by decide) e.symm))
    have BY0_14 := Lib.hid (BY0_13.out.grown hg (fun e => own_row_ne X_13.out BY0_13.out (by decide) e.symm))
    clear HB13 R_13 X_13 Y_13 G_13 Z_13 By_13 BY0_13 cy cY0 hg
    have cy := By_14.out.cell (j := 0) rfl
    have cY0 := BY0_14.out.cell (j := 0) rfl
    go_wp2_with fail
    refine (markBlock_any _ _ _ _ _ _ (1 + zx.length) _ (by omega) (by omega) (by omega) (by omega) Y_14.out).mono ?_
    rintro e w15 ⟨rfl, hg⟩
    have HB15 := Lib.hid (HB14.out.grown hg HB14.out.size (fun q hq => Nat.le_trans ge_Y (Y_14.out.lt q hq).1))
    have R_15 := Lib.hid (own_kept R_14.out hg (ne_earlier lt_R_Y.out Y_14.out))
    have G_15 := Lib.hid (own_kept G_14.out hg (ne_later lt_Y_G.out G_14.out))
    have Z_15 := Lib.hid (own_kept Z_14.out hg (ne_later lt_Y_Z.out Z_14.out))
    have By_15 := Lib.hid (By_14.out.grown hg (fun e => own_row_ne Y_14.out By_14.out (by decide) e.symm))
    have BY0_15 := Lib.hid (BY0_14.out.grown hg (fun e => own_row_ne Y_14.out BY0_14.out (by decide) e.symm))
    clear HB14 R_14 Y_14 G_14 Z_14 By_14 BY0_14 cy cY0 hg
    have cy := By_15.out.cell (j := 0) rfl
    have cY0 := BY0_15.out.cell (j := 0) rfl
    go_wp2_with fail
    refine (eqIntA2S_same _ _ _ _ ps _ HPM.out (own_reads G_15.out) (own_reads R_15.out)).mono ?_
    rintro e w16 ⟨rfl, hb⟩
    have HB16 := Lib.hid (HB15.out.trans (hb.mono HB15.out.size))
    have R_16 := Lib.hid (own_below R_15.out hb)
    have G_16 := Lib.hid (own_below G_15.out hb)
    have Z_16 := Lib.hid (own_below Z_15.out hb)
    have By_16 := Lib.hid (By_15.out.below hb)
    have BY0_16 := Lib.hid (BY0_15.out.below hb)
    clear HB15 R_15 G_15 Z_15 By_15 BY0_15 cy cY0 hb
    have cy := By_16.out.cell (j := 0) rfl
    have cY0 := BY0_16.out.cell (j := 0) rfl
    go_wp2_with fail
    refine (markIntA2S_any _ _ _ _ _ 1 _ (by omega) (by omega) (by omega) G_16.out).mono ?_
    rintro e w17 ⟨rfl, hown, hg⟩
    have HB17 := Lib.hid (HB16.out.grown hg HB16.out.size (fun q hq => Nat.le_trans ge_G (G_16.out.lt q hq).1))
    have R_17 := Lib.hid (own_kept R_16.out hg (ne_earlier lt_R_G.out G_16.out))
    have Z_17 := Lib.hid (own_kept Z_16.out hg (ne_later lt_G_Z.out Z_16.out))
    have By_17 := Lib.hid (By_16.out.grown hg (fun e => own_row_ne G_16.out By_16.out (by decide) e.symm))
    have BY0_17 := Lib.hid (BY0_16.out.grown hg (fun e => own_row_ne G_16.out BY0_16.out (by decide) e.symm))
    have G_17 := Lib.hid hown
    clear HB16 R_16 G_16 Z_16 By_16 BY0_16 cy cY0 hg hown
    have cy := By_17.out.cell (j := 0) rfl
    have cY0 := BY0_17.out.cell (j := 0) rfl
    go_wp2_with fail
    refine (heldIntA2S_any _ _ _ 1 _ (by omega) (by omega) (by omega) (own_reads G_17.out)).mono ?_
    rintro e _ ⟨rfl, rfl⟩
    go_wp2_with fail
    go_region_held3 (fun w' => w'.cell? ⟨w.heap.size, 0, none⟩ = some (.slice ady zy.length capy)) (first | exact cy | exact cell_later hbA cy | exact cell_later hbB cy | exact cell_later hbB (cell_later hbA cy) | exact cell_later hbA (cell_later hbB cy) | exact cell_later hb2 (cell_later hbB (cell_later hbA cy)) | exact cell_later hb2 (cell_later hbA (cell_later hbB cy)))
      (first | (go_at_call 12; refine (toStringS_any _ _ zx _ (by omega) ?_).mono ?_; (first | exact Reads.drew (HRx.out.below (B0.out.trans (HB17.out.mono B0.out.size))) | exact (Reads.drew (HRx.out.below (B0.out.trans (HB17.out.mono B0.out.size)))).below hbB); rintro e wA ⟨gA, rfl, hgA, hrowA, hbA⟩) | (go_at_call 17; refine (toBlock_any _ _ zy _ (by omega) ?_).mono ?_; (first | exact Reads.drew (HRy.out.below (B0.out.trans (HB17.out.mono B0.out.size))) | exact (Reads.drew (HRy.out.below (B0.out.trans (HB17.out.mono B0.out.size)))).below hbA); rintro e wB ⟨gB, rfl, hgB, hrowB, hbB⟩) | (go_at_call 30; refine (H2.out _ _ _ _ _ HMx.out HMy.out HFx.out HFy.out ?_ ?_).mono ?_; (first | exact (hrowA.below hbB).reads | exact hrowA.reads); (first | exact (hrowB.below hbA).reads | exact hrowB.reads); rintro e w20 ⟨adK, cpK, rfl, hown, hb2⟩))
    all_goals
      have hb : Below w17.heap.size w17 w20 := by first | exact below_drew2 hbA hbB hb2 | exact below_drew2 hbB hbA hb2
      have hown9 : w20.ownsRow w17.heap.size 61 2 (.slice adK ps.length cpK) ps.length (pairs ps) := World.ownsRow.mono hown (by first | exact Nat.le_trans hbA.size hbB.size | exact Nat.le_trans hbB.size hbA.size)
      clear hbA hbB hb2 hrowA hrowB hgA hgB hown
      have lt_R_K := Lib.hid (fun q (hq : _ = some q) => (R_17.out.lt q hq).2)
      have lt_G_K := Lib.hid (fun q (hq : _ = some q) => (G_17.out.lt q hq).2)
      have lt_Z_K := Lib.hid (fun q (hq : _ = some q) => (Z_17.out.lt q hq).2)
      have ge_K := HB17.out.size
      have HB20 := Lib.hid (HB17.out.trans (hb.mono HB17.out.size))
      have R_20 := Lib.hid (own_below R_17.out hb)
      have G_20 := Lib.hid (own_below G_17.out hb)
      have Z_20 := Lib.hid (own_below Z_17.out hb)
      have By_20 := Lib.hid (By_17.out.below hb)
      have BY0_20 := Lib.hid (BY0_17.out.below hb)
      clear HB17 R_17 G_17 Z_17 By_17 BY0_17 cy cY0 hb
      have cy := By_20.out.cell (j := 0) rfl
      have cY0 := BY0_20.out.cell (j := 0) rfl
      have K_20 := Lib.hid hown9
      clear hown9
      go_wp2_with fail
      refine (eqIntA2S_same _ _ _ _ ps _ HPM.out (own_reads K_20.out) (own_reads R_20.out)).mono ?_
      rintro e w21 ⟨rfl, hb⟩
      have HB21 := Lib.hid (HB20.out.trans (hb.mono HB20.out.size))
      have R_21 := Lib.hid (own_below R_20.out hb)
      have G_21 := Lib.hid (own_below G_20.out hb)
      have Z_21 := Lib.hid (own_below Z_20.out hb)
      have K_21 := Lib.hid (own_below K_20.out hb)
      have By_21 := Lib.hid (By_20.out.below hb)
      have BY0_21 := Lib.hid (BY0_20.out.below hb)
      clear HB20 R_20 G_20 Z_20 K_20 By_20 BY0_20 cy cY0 hb
      have cy := By_21.out.cell (j := 0) rfl
      have cY0 := BY0_21.out.cell (j := 0) rfl
      go_wp2_with fail
      refine (heldIntA2S_any _ _ _ 1 _ (by omega) (by omega) (by omega) (own_reads G_21.out)).mono ?_
      rintro e _ ⟨rfl, rfl⟩
      go_wp2_with fail
      go_ret
      exact ⟨rfl, B0.out.trans (HB21.out.mono B0.out.size)⟩
end Go.Proofs.Ytiiifoieigmfoaa
