/- The law of ValueOf, walked out of the contracts. -/
import Derived.Test.YtilmgpjbampcaaaStampA
import Derived.Test.YtilmgpjbampcaaaStampV
import Derived.Test.YtilmgpjbampcaaaOwn
namespace Go.Proofs.Ytilmgpjbampcaaa
open Go.ChangeShapes Go.WideShapes Go.ChangeAt Go.RowKit

set_option maxHeartbeats 4000000 in
theorem FnExactValueOf_walk {w : World} (x : Slc × List StampT) (y : Slc × List Int) (h : StampsIn w x.1 x.2) (hy : IntsIn w y.1 y.2) : Calls Try.prog 5 #[x.1.val, y.1.val] w fun e w' => e = .returned (.bool true) ∧ Below w.heap.size w w' := by
  obtain ⟨⟨ad, len, cap⟩, zs⟩ := x
  obtain ⟨⟨ad2, len2, cap2⟩, fr⟩ := y
  obtain ⟨hs, hm, hr, _⟩ := h
  obtain ⟨hs2, hm2, hr2, _⟩ := hy
  simp only at hs hm hr hs2 hm2 hr2
  subst hs
  subst hs2
  have HR := Lib.hid hr
  have HM := Lib.hid hm
  have HR2 := Lib.hid hr2
  have HM2 := Lib.hid hm2
  clear hr hr2
  generalize hf : valF zs fr = r
  obtain ⟨r0, r1⟩ := r
  have h1 := fun a a2 c c2 w hm hm2 hr hr2 => specValueOf_any a a2 c c2 zs fr w hm hm2 hr hr2
  have h2 := fun a a2 c c2 w hm hm2 hr hr2 => implValueOf_any a a2 c c2 zs fr w hm hm2 hr hr2
  rw [hf] at h1 h2
  have H1 := Lib.hid h1
  have H2 := Lib.hid h2
  clear h1 h2 hf
  rcases Nat.lt_or_ge 1048576 fr.length with hbig | hle2
  · unfold maxLen at hm2
    go_enter Try.func5, Try.ntmps5
    go_wp2_with fail
    go_ret
    exact ⟨rfl, Below.refl _ _⟩
  rcases Nat.lt_or_ge 1048576 zs.length with hbig | hle
  · have HS := Lib.hid (szStampS_big ad zs.length cap 1048576 w (by omega) (by omega) hm)
    unfold maxLen at hm
    go_enter Try.func5, Try.ntmps5
    go_wp2_with fail
    refine HS.out.mono ?_
    rintro e _ ⟨rfl, rfl⟩
    go_wp2_with fail
    go_ret
    exact ⟨rfl, Below.refl _ _⟩
  have HS := Lib.hid (szStampS_ok ad zs.length cap 1048576 w (by omega) (by omega))
  unfold maxLen at hm
  have HB0 := Lib.hid (Below.refl w.heap.size w)
  go_enter Try.func5, Try.ntmps5
  go_wp2_with fail
  refine (HS.out).mono ?_
  rintro e _ ⟨rfl, rfl⟩
  go_wp2_with fail
  refine (toStampS_any _ _ zs _ (by omega) (HR.out.below HB0.out)).mono ?_
  rintro e w1 ⟨g1, rfl, hg1, hrow1, hb1⟩
  have ge_S := HB0.out.size
  have HB1 := Lib.hid (HB0.out.trans (hb1.mono HB0.out.size))
  clear HB0  hb1
  have S_1 := Lib.hid (hrow1.owns (base := w.heap.size) (n := zs.length) (sz := 4) (by rw [stamps_length]) (by unfold maxLen; omega) hg1)
  clear hrow1 hg1
  go_wp2_with fail
  refine (toIntS_any _ _ fr _ (by omega) (HR2.out.below HB1.out)).mono ?_
  rintro e w2 ⟨g2, rfl, hg2, hrow2, hb2⟩
  have lt_S_T := Lib.hid (fun q (hq : _ = some q) => (S_1.out.lt q hq).2)
  have ge_T := HB1.out.size
  have HB2 := Lib.hid (HB1.out.trans (hb2.mono HB1.out.size))
  have S_2 := Lib.hid (own_below S_1.out hb2)
  clear HB1 S_1 hb2
  have T_2 := Lib.hid (hrow2.owns (base := w1.heap.size) (n := fr.length) (sz := 1) (by simp) (by unfold maxLen; omega) hg2)
  clear hrow2 hg2
  go_wp2_with fail
  refine (H1.out _ _ _ _ _ HM.out HM2.out (own_reads S_2.out) (own_reads T_2.out)).mono ?_
  rintro e w3 ⟨rfl, hb3⟩
  have HB3 := Lib.hid (HB2.out.trans (hb3.mono HB2.out.size))
  have S_3 := Lib.hid (own_below S_2.out hb3)
  have T_3 := Lib.hid (own_below T_2.out hb3)
  clear HB2 S_2 T_2 hb3
  go_wp2_with fail
  refine (toStampS_any _ _ zs _ (by omega) (HR.out.below HB3.out)).mono ?_
  rintro e w4 ⟨g3, rfl, hg4, hrow4, hb4⟩
  have lt_S_X := Lib.hid (fun q (hq : _ = some q) => (S_3.out.lt q hq).2)
  have lt_T_X := Lib.hid (fun q (hq : _ = some q) => (T_3.out.lt q hq).2)
  have ge_X := HB3.out.size
  have HB4 := Lib.hid (HB3.out.trans (hb4.mono HB3.out.size))
  have S_4 := Lib.hid (own_below S_3.out hb4)
  have T_4 := Lib.hid (own_below T_3.out hb4)
  clear HB3 S_3 T_3 hb4
  have X_4 := Lib.hid (hrow4.owns (base := w3.heap.size) (n := zs.length) (sz := 4) (by rw [stamps_length]) (by unfold maxLen; omega) hg4)
  clear hrow4 hg4
  go_wp2_with fail
  refine (toIntS_any _ _ fr _ (by omega) (HR2.out.below HB4.out)).mono ?_
  rintro e w5 ⟨g4, rfl, hg5, hrow5, hb5⟩
  have lt_S_Y := Lib.hid (fun q (hq : _ = some q) => (S_4.out.lt q hq).2)
  have lt_T_Y := Lib.hid (fun q (hq : _ = some q) => (T_4.out.lt q hq).2)
  have lt_X_Y := Lib.hid (fun q (hq : _ = some q) => (X_4.out.lt q hq).2)
  have ge_Y := HB4.out.size
  have HB5 := Lib.hid (HB4.out.trans (hb5.mono HB4.out.size))
  have S_5 := Lib.hid (own_below S_4.out hb5)
  have T_5 := Lib.hid (own_below T_4.out hb5)
  have X_5 := Lib.hid (own_below X_4.out hb5)
  clear HB4 S_4 T_4 X_4 hb5
  have Y_5 := Lib.hid (hrow5.owns (base := w4.heap.size) (n := fr.length) (sz := 1) (by simp) (by unfold maxLen; omega) hg5)
  clear hrow5 hg5
  go_wp2_with fail
  refine (H2.out _ _ _ _ _ HM.out HM2.out (own_reads X_5.out) (own_reads Y_5.out)).mono ?_
  rintro e w6 ⟨rfl, hb6⟩
  have HB6 := Lib.hid (HB5.out.trans (hb6.mono HB5.out.size))
  have S_6 := Lib.hid (own_below S_5.out hb6)
  have T_6 := Lib.hid (own_below T_5.out hb6)
  have X_6 := Lib.hid (own_below X_5.out hb6)
  have Y_6 := Lib.hid (own_below Y_5.out hb6)
  clear HB5 S_5 T_5 X_5 Y_5 hb6
  go_wp2_with fail
  refine (toStampS_any _ _ zs _ (by omega) (HR.out.below HB6.out)).mono ?_
  rintro e w7 ⟨g5, rfl, hg7, hrow7, hb7⟩
  have lt_S_Z := Lib.hid (fun q (hq : _ = some q) => (S_6.out.lt q hq).2)
  have lt_T_Z := Lib.hid (fun q (hq : _ = some q) => (T_6.out.lt q hq).2)
  have lt_X_Z := Lib.hid (fun q (hq : _ = some q) => (X_6.out.lt q hq).2)
  have lt_Y_Z := Lib.hid (fun q (hq : _ = some q) => (Y_6.out.lt q hq).2)
  have ge_Z := HB6.out.size
  have HB7 := Lib.hid (HB6.out.trans (hb7.mono HB6.out.size))
  have S_7 := Lib.hid (own_below S_6.out hb7)
  have T_7 := Lib.hid (own_below T_6.out hb7)
  have X_7 := Lib.hid (own_below X_6.out hb7)
  have Y_7 := Lib.hid (own_below Y_6.out hb7)
  clear HB6 S_6 T_6 X_6 Y_6 hb7
  have Z_7 := Lib.hid (hrow7.owns (base := w6.heap.size) (n := zs.length) (sz := 4) (by rw [stamps_length]) (by unfold maxLen; omega) hg7)
  clear hrow7 hg7
  go_wp2_with fail
  refine (eqStampS_any _ _ _ _ zs zs _ HM.out HM.out (own_reads X_7.out) (own_reads Z_7.out)).mono ?_
  rintro e w8 ⟨rfl, hb8⟩
  have HB8 := Lib.hid (HB7.out.trans (hb8.mono HB7.out.size))
  have S_8 := Lib.hid (own_below S_7.out hb8)
  have T_8 := Lib.hid (own_below T_7.out hb8)
  have X_8 := Lib.hid (own_below X_7.out hb8)
  have Y_8 := Lib.hid (own_below Y_7.out hb8)
  have Z_8 := Lib.hid (own_below Z_7.out hb8)
  clear HB7 S_7 T_7 X_7 Y_7 Z_7 hb8
  simp only [decide_true]
  go_wp2_with fail
  refine (toIntS_any _ _ fr _ (by omega) (HR2.out.below HB8.out)).mono ?_
  rintro e w9 ⟨g6, rfl, hg9, hrow9, hb9⟩
  have lt_S_U := Lib.hid (fun q (hq : _ = some q) => (S_8.out.lt q hq).2)
  have lt_T_U := Lib.hid (fun q (hq : _ = some q) => (T_8.out.lt q hq).2)
  have lt_X_U := Lib.hid (fun q (hq : _ = some q) => (X_8.out.lt q hq).2)
  have lt_Y_U := Lib.hid (fun q (hq : _ = some q) => (Y_8.out.lt q hq).2)
  have lt_Z_U := Lib.hid (fun q (hq : _ = some q) => (Z_8.out.lt q hq).2)
  have ge_U := HB8.out.size
  have HB9 := Lib.hid (HB8.out.trans (hb9.mono HB8.out.size))
  have S_9 := Lib.hid (own_below S_8.out hb9)
  have T_9 := Lib.hid (own_below T_8.out hb9)
  have X_9 := Lib.hid (own_below X_8.out hb9)
  have Y_9 := Lib.hid (own_below Y_8.out hb9)
  have Z_9 := Lib.hid (own_below Z_8.out hb9)
  clear HB8 S_8 T_8 X_8 Y_8 Z_8 hb9
  have U_9 := Lib.hid (hrow9.owns (base := w8.heap.size) (n := fr.length) (sz := 1) (by simp) (by unfold maxLen; omega) hg9)
  clear hrow9 hg9
  go_wp2_with fail
  refine (eqIntS_any _ _ _ _ fr fr _ HM2.out HM2.out (own_reads Y_9.out) (own_reads U_9.out)).mono ?_
  rintro e w10 ⟨rfl, hd10⟩
  have HB10 := Lib.hid (HB9.out.trans (hd10.below _))
  have S_10 := Lib.hid (own_dr S_9.out hd10)
  have T_10 := Lib.hid (own_dr T_9.out hd10)
  have X_10 := Lib.hid (own_dr X_9.out hd10)
  have Y_10 := Lib.hid (own_dr Y_9.out hd10)
  have Z_10 := Lib.hid (own_dr Z_9.out hd10)
  have U_10 := Lib.hid (own_dr U_9.out hd10)
  clear HB9 S_9 T_9 X_9 Y_9 Z_9 U_9 hd10
  simp only [decide_true]
  go_wp2_with fail
  go_ret
  exact ⟨rfl, HB10.out⟩
end Go.Proofs.Ytilmgpjbampcaaa
