/- The law of SplitString, walked out of the contracts. -/
import Derived.Test.YtbgfdhghhaoabaaDoorSplitL
namespace Go.Proofs.YtbgfdhghhaoabaaDoor
open Go.ChangeShapes Go.WideShapes Go.ChangeAt Go.RowKit

set_option maxRecDepth 100000 in
set_option maxHeartbeats 2000000 in
theorem FnExactSplitString_walk {w : World} (_ : laidMet Tryd.prog Rows.fnExactSplitStringRow.laid w) (hsh : w.ShapedOpen Tryd.prog) (s sep : ByteArray) (hm : s.size ≤ maxLen) (hm2 : sep.size ≤ maxLen) : Calls Tryd.prog 4 #[.string s, .string sep] w fun e w' => e = .returned (.bool true) ∧ Below w.heap.size w w' := by
  have HX := Lib.hid (maxCell_of hsh)
  clear hsh
  unfold maxLen at hm hm2
  by_cases l1 : 1048576 < s.size
  · go_enter Tryd.func4, Tryd.ntmps4
    go_wp2_with fail
    go_ret
    exact ⟨rfl, Below.refl _ _⟩
  by_cases l2 : 1048576 < sep.size
  · go_enter Tryd.func4, Tryd.ntmps4
    go_wp2_with fail
    go_ret
    exact ⟨rfl, Below.refl _ _⟩
  have H1 := Lib.hid (fun w => specSplit_any s sep w (by omega) (by omega))
  have H2 := Lib.hid (fun w hx => implSplit_any s sep w (by omega) (by omega) hx)
  have hle := cutR_le s sep
  generalize cutR s sep = r at H1 H2 hle
  generalize cutOk s sep = b at H1 H2
  have HI := Lib.hid (show r.length ≤ maxLen by unfold maxLen; omega)
  have HB0 := Lib.hid (Below.refl w.heap.size w)
  go_enter Tryd.func4, Tryd.ntmps4
  go_wp2_with fail
  refine (H1.out _).mono ?_
  rintro e w1 ⟨adR, cpR, rfl, hown, hb⟩
  have ge_R := HB0.out.size
  have HB1 := Lib.hid (HB0.out.trans (hb.mono HB0.out.size))
  clear HB0 hb
  have R_1 := Lib.hid hown
  clear hown
  go_wp2_with fail
  refine (H2.out _ (HX.out.below HB1.out)).mono ?_
  rintro e w2 ⟨adG, cpG, rfl, hown, hb⟩
  have lt_R_G := Lib.hid (fun q (hq : _ = some q) => (R_1.out.lt q hq).2)
  have ge_G := HB1.out.size
  have HB2 := Lib.hid (HB1.out.trans (hb.mono HB1.out.size))
  have R_2 := Lib.hid (own_below R_1.out hb)
  clear HB1 R_1 hb
  have G_2 := Lib.hid hown
  clear hown
  go_wp2_with fail
  refine (eqStringS_any _ _ _ _ r r _ HI.out HI.out (own_reads G_2.out) (own_reads R_2.out)).mono ?_
  rintro e w3 ⟨rfl, hd⟩
  have HB3 := Lib.hid (HB2.out.trans (hd.below _))
  have R_3 := Lib.hid (own_dr R_2.out hd)
  have G_3 := Lib.hid (own_dr G_2.out hd)
  clear HB2 R_2 G_2 hd
  simp only [decide_true]
  go_wp2_with fail
  refine (markStringS_any _ _ _ _ _ 1 1 _ rfl (by omega) (by omega) (by omega) G_3.out).mono ?_
  rintro e w4 ⟨rfl, hown, hg⟩
  have HB4 := Lib.hid (HB3.out.grown hg HB3.out.size (fun q hq => Nat.le_trans ge_G (G_3.out.lt q hq).1))
  have R_4 := Lib.hid (own_kept R_3.out hg (ne_earlier lt_R_G.out G_3.out))
  have G_4 := Lib.hid hown
  clear HB3 R_3 G_3 hg hown
  go_wp2_with fail
  refine (heldStringS_any _ _ _ 1 1 _ rfl (by omega) (by omega) (by omega) (own_reads G_4.out)).mono ?_
  rintro e w5 ⟨rfl, hb⟩
  have HB5 := Lib.hid (HB4.out.trans (hb.mono HB4.out.size))
  have R_5 := Lib.hid (own_below R_4.out hb)
  have G_5 := Lib.hid (own_below G_4.out hb)
  clear HB4 R_4 G_4 hb
  go_wp2_with fail
  refine (H2.out _ (HX.out.below HB5.out)).mono ?_
  rintro e w6 ⟨adK, cpK, rfl, hown, hb⟩
  have lt_R_K := Lib.hid (fun q (hq : _ = some q) => (R_5.out.lt q hq).2)
  have lt_G_K := Lib.hid (fun q (hq : _ = some q) => (G_5.out.lt q hq).2)
  have ge_K := HB5.out.size
  have HB6 := Lib.hid (HB5.out.trans (hb.mono HB5.out.size))
  have R_6 := Lib.hid (own_below R_5.out hb)
  have G_6 := Lib.hid (own_below G_5.out hb)
  clear HB5 R_5 G_5 hb
  have K_6 := Lib.hid hown
  clear hown
  go_wp2_with fail
  refine (eqStringS_any _ _ _ _ r r _ HI.out HI.out (own_reads K_6.out) (own_reads R_6.out)).mono ?_
  rintro e w7 ⟨rfl, hd⟩
  have HB7 := Lib.hid (HB6.out.trans (hd.below _))
  have R_7 := Lib.hid (own_dr R_6.out hd)
  have G_7 := Lib.hid (own_dr G_6.out hd)
  have K_7 := Lib.hid (own_dr K_6.out hd)
  clear HB6 R_6 G_6 K_6 hd
  simp only [decide_true]
  go_wp2_with fail
  refine (heldStringS_any _ _ _ 1 1 _ rfl (by omega) (by omega) (by omega) (own_reads G_7.out)).mono ?_
  rintro e w8 ⟨rfl, hb⟩
  have HB8 := Lib.hid (HB7.out.trans (hb.mono HB7.out.size))
  have R_8 := Lib.hid (own_below R_7.out hb)
  have G_8 := Lib.hid (own_below G_7.out hb)
  have K_8 := Lib.hid (own_below K_7.out hb)
  clear HB7 R_7 G_7 K_7 hb
  go_wp2_with fail
  go_ret
  exact ⟨rfl, HB8.out⟩
end Go.Proofs.YtbgfdhghhaoabaaDoor
