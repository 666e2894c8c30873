/- The laws of GaugeOf, MissingHoles, AreEven, IsPair, walked out of the contracts. -/
import Derived.Test.YtocjkgcbpgmhiaaArgs
import Derived.Test.YtocjkgcbpgmhiaaOwn
import Derived.Test.YtocjkgcbpgmhiaaTeethC
import Derived.Test.YtocjkgcbpgmhiaaTeethD
namespace Go.Proofs.Ytocjkgcbpgmhiaa
open Go.RowKit

set_option maxHeartbeats 1000000 in
theorem FnExactGaugeOf_walk {w : World} (x : Slc × List Int) (h : IntsIn w x.1 x.2) : Calls Try.prog 5 #[x.1.val] w fun e w' => e = .returned (.bool true) ∧ Below w.heap.size w w' := by
  obtain ⟨⟨ad, len, cap⟩, zs⟩ := x
  obtain ⟨hs, hm, hr, _⟩ := h
  simp only at hs hm hr
  subst hs
  have HR := Lib.hid hr
  have HM := Lib.hid hm
  unfold maxLen at hm
  generalize hf : gaugeOfF zs = r
  obtain ⟨r0, r1⟩ := r
  have h1 := fun a c w hm hr => specGaugeOf_any a c zs w hm hr
  have h2 := fun a c w hm hr => implGaugeOf_any a c zs w hm hr
  rw [hf] at h1 h2
  have H1 := Lib.hid h1
  have H2 := Lib.hid h2
  clear h1 h2 hf hr
  by_cases hbig : 1048576 < zs.length
  · go_enter Try.func5, Try.ntmps5
    go_wp2_with fail
    go_ret
    exact ⟨rfl, Below.refl _ _⟩
  · have hle : zs.length ≤ 1048576 := by omega
    clear hbig
    have HB0 := Lib.hid (Below.refl w.heap.size w)
    go_enter Try.func5, Try.ntmps5
    go_wp2_with fail
    refine (toIntS_any _ _ zs _ (by omega) (HR.out.below HB0.out)).mono ?_
    rintro e w1 ⟨g1, rfl, hg1, hrow1, hb1⟩
    have HB1 := Lib.hid (HB0.out.trans (hb1.mono HB0.out.size))
    clear HB0  hb1
    have X_1 := Lib.hid (hrow1.owns (base := w.heap.size) (n := zs.length) (sz := 1) (by simp) (by unfold maxLen; omega) hg1)
    clear hrow1 hg1
    go_wp2_with fail
    refine (H1.out _ _ _ HM.out (own_reads X_1.out)).mono ?_
    rintro e w2 ⟨rfl, hd2⟩
    have HB2 := Lib.hid (HB1.out.trans (hd2.below _))
    have X_2 := Lib.hid (own_dr X_1.out hd2)
    clear HB1 X_1 hd2
    go_wp2_with fail
    refine (toIntS_any _ _ zs _ (by omega) (HR.out.below HB2.out)).mono ?_
    rintro e w3 ⟨g2, rfl, hg3, hrow3, hb3⟩
    have lt_X_Y := Lib.hid (fun q (hq : _ = some q) => (X_2.out.lt q hq).2)
    have HB3 := Lib.hid (HB2.out.trans (hb3.mono HB2.out.size))
    have X_3 := Lib.hid (own_below X_2.out hb3)
    clear HB2 X_2 hb3
    have Y_3 := Lib.hid (hrow3.owns (base := w2.heap.size) (n := zs.length) (sz := 1) (by simp) (by unfold maxLen; omega) hg3)
    clear hrow3 hg3
    go_wp2_with fail
    refine (H2.out _ _ _ HM.out (own_reads Y_3.out)).mono ?_
    rintro e w4 ⟨rfl, hd4⟩
    have HB4 := Lib.hid (HB3.out.trans (hd4.below _))
    have X_4 := Lib.hid (own_dr X_3.out hd4)
    have Y_4 := Lib.hid (own_dr Y_3.out hd4)
    clear HB3 X_3 Y_3 hd4
    go_wp2_with fail
    refine (toIntS_any _ _ zs _ (by omega) (HR.out.below HB4.out)).mono ?_
    rintro e w5 ⟨g3, rfl, hg5, hrow5, hb5⟩
    have lt_X_Z := Lib.hid (fun q (hq : _ = some q) => (X_4.out.lt q hq).2)
    have lt_Y_Z := Lib.hid (fun q (hq : _ = some q) => (Y_4.out.lt q hq).2)
    have HB5 := Lib.hid (HB4.out.trans (hb5.mono HB4.out.size))
    have X_5 := Lib.hid (own_below X_4.out hb5)
    have Y_5 := Lib.hid (own_below Y_4.out hb5)
    clear HB4 X_4 Y_4 hb5
    have Z_5 := Lib.hid (hrow5.owns (base := w4.heap.size) (n := zs.length) (sz := 1) (by simp) (by unfold maxLen; omega) hg5)
    clear hrow5 hg5
    go_wp2_with fail
    refine (eqIntS_any _ _ _ _ zs zs _ HM.out HM.out (own_reads Y_5.out) (own_reads Z_5.out)).mono ?_
    rintro e w6 ⟨rfl, hd6⟩
    have HB6 := Lib.hid (HB5.out.trans (hd6.below _))
    have X_6 := Lib.hid (own_dr X_5.out hd6)
    have Y_6 := Lib.hid (own_dr Y_5.out hd6)
    have Z_6 := Lib.hid (own_dr Z_5.out hd6)
    clear HB5 X_5 Y_5 Z_5 hd6
    simp only [decide_true]
    go_wp2_with fail
    go_ret
    exact ⟨rfl, HB6.out⟩
set_option maxHeartbeats 1000000 in
theorem FnExactMissingHoles_walk {w : World} (x : Slc × List Int) (q : Int) (h : IntsIn w x.1 x.2) (_ : (Lit.int .i64 q).wf = true) : Calls Try.prog 6 #[x.1.val, .int .i64 q] w fun e w' => e = .returned (.bool true) ∧ Below w.heap.size w w' := by
  obtain ⟨⟨ad, len, cap⟩, zs⟩ := x
  obtain ⟨hs, hm, hr, _⟩ := h
  simp only at hs hm hr
  subst hs
  have HR := Lib.hid hr
  have HM := Lib.hid hm
  unfold maxLen at hm
  generalize hf : missF zs q = r
  obtain ⟨r0, r1⟩ := r
  have h1 := fun a c w hm hr => specMissing_any a c zs q w hm hr
  have h2 := fun a c w hm hr => implMissing_any a c zs q w hm hr
  rw [hf] at h1 h2
  have H1 := Lib.hid h1
  have H2 := Lib.hid h2
  clear h1 h2 hf hr
  by_cases hbig : 1048576 < zs.length
  · go_enter Try.func6, Try.ntmps6
    go_wp2_with fail
    go_ret
    exact ⟨rfl, Below.refl _ _⟩
  · have hle : zs.length ≤ 1048576 := by omega
    clear hbig
    have HB0 := Lib.hid (Below.refl w.heap.size w)
    go_enter Try.func6, Try.ntmps6
    go_wp2_with fail
    refine (toIntS_any _ _ zs _ (by omega) (HR.out.below HB0.out)).mono ?_
    rintro e w1 ⟨g1, rfl, hg1, hrow1, hb1⟩
    have HB1 := Lib.hid (HB0.out.trans (hb1.mono HB0.out.size))
    clear HB0  hb1
    have X_1 := Lib.hid (hrow1.owns (base := w.heap.size) (n := zs.length) (sz := 1) (by simp) (by unfold maxLen; omega) hg1)
    clear hrow1 hg1
    go_wp2_with fail
    refine (H1.out _ _ _ HM.out (own_reads X_1.out)).mono ?_
    rintro e w2 ⟨rfl, hd2⟩
    have HB2 := Lib.hid (HB1.out.trans (hd2.below _))
    have X_2 := Lib.hid (own_dr X_1.out hd2)
    clear HB1 X_1 hd2
    go_wp2_with fail
    refine (toIntS_any _ _ zs _ (by omega) (HR.out.below HB2.out)).mono ?_
    rintro e w3 ⟨g2, rfl, hg3, hrow3, hb3⟩
    have lt_X_Y := Lib.hid (fun q (hq : _ = some q) => (X_2.out.lt q hq).2)
    have HB3 := Lib.hid (HB2.out.trans (hb3.mono HB2.out.size))
    have X_3 := Lib.hid (own_below X_2.out hb3)
    clear HB2 X_2 hb3
    have Y_3 := Lib.hid (hrow3.owns (base := w2.heap.size) (n := zs.length) (sz := 1) (by simp) (by unfold maxLen; omega) hg3)
    clear hrow3 hg3
    go_wp2_with fail
    refine (H2.out _ _ _ HM.out (own_reads Y_3.out)).mono ?_
    rintro e w4 ⟨rfl, hd4⟩
    have HB4 := Lib.hid (HB3.out.trans (hd4.below _))
    have X_4 := Lib.hid (own_dr X_3.out hd4)
    have Y_4 := Lib.hid (own_dr Y_3.out hd4)
    clear HB3 X_3 Y_3 hd4
    go_wp2_with fail
    refine (toIntS_any _ _ zs _ (by omega) (HR.out.below HB4.out)).mono ?_
    rintro e w5 ⟨g3, rfl, hg5, hrow5, hb5⟩
    have lt_X_Z := Lib.hid (fun q (hq : _ = some q) => (X_4.out.lt q hq).2)
    have lt_Y_Z := Lib.hid (fun q (hq : _ = some q) => (Y_4.out.lt q hq).2)
    have HB5 := Lib.hid (HB4.out.trans (hb5.mono HB4.out.size))
    have X_5 := Lib.hid (own_below X_4.out hb5)
    have Y_5 := Lib.hid (own_below Y_4.out hb5)
    clear HB4 X_4 Y_4 hb5
    have Z_5 := Lib.hid (hrow5.owns (base := w4.heap.size) (n := zs.length) (sz := 1) (by simp) (by unfold maxLen; omega) hg5)
    clear hrow5 hg5
    go_wp2_with fail
    refine (eqIntS_any _ _ _ _ zs zs _ HM.out HM.out (own_reads Y_5.out) (own_reads Z_5.out)).mono ?_
    rintro e w6 ⟨rfl, hd6⟩
    have HB6 := Lib.hid (HB5.out.trans (hd6.below _))
    have X_6 := Lib.hid (own_dr X_5.out hd6)
    have Y_6 := Lib.hid (own_dr Y_5.out hd6)
    have Z_6 := Lib.hid (own_dr Z_5.out hd6)
    clear HB5 X_5 Y_5 Z_5 hd6
    simp only [decide_true]
    go_wp2_with fail
    go_ret
    exact ⟨rfl, HB6.out⟩
set_option maxHeartbeats 1000000 in
theorem FnExactAreEven_walk {w : World} (x : Slc × List Int) (h : IntsIn w x.1 x.2) : Calls Try.prog 8 #[x.1.val] w fun e w' => e = .returned (.bool true) ∧ Below w.heap.size w w' := by
  obtain ⟨⟨ad, len, cap⟩, zs⟩ := x
  obtain ⟨hs, hm, hr, _⟩ := h
  simp only at hs hm hr
  subst hs
  have HR := Lib.hid hr
  have HM := Lib.hid hm
  unfold maxLen at hm
  generalize hf : evenF zs = r
  obtain ⟨r0, r1⟩ := r
  have h1 := fun a c w hm hr => specEven_any a c zs w hm hr
  have h2 := fun a c w hm hr => implEven_any a c zs w hm hr
  rw [hf] at h1 h2
  have H1 := Lib.hid h1
  have H2 := Lib.hid h2
  clear h1 h2 hf hr
  by_cases hbig : 1048576 < zs.length
  · go_enter Try.func8, Try.ntmps8
    go_wp2_with fail
    go_ret
    exact ⟨rfl, Below.refl _ _⟩
  · have hle : zs.length ≤ 1048576 := by omega
    clear hbig
    have HB0 := Lib.hid (Below.refl w.heap.size w)
    go_enter Try.func8, Try.ntmps8
    go_wp2_with fail
    refine (toIntS_any _ _ zs _ (by omega) (HR.out.below HB0.out)).mono ?_
    rintro e w1 ⟨g1, rfl, hg1, hrow1, hb1⟩
    have HB1 := Lib.hid (HB0.out.trans (hb1.mono HB0.out.size))
    clear HB0  hb1
    have X_1 := Lib.hid (hrow1.owns (base := w.heap.size) (n := zs.length) (sz := 1) (by simp) (by unfold maxLen; omega) hg1)
    clear hrow1 hg1
    go_wp2_with fail
    refine (H1.out _ _ _ HM.out (own_reads X_1.out)).mono ?_
    rintro e w2 ⟨rfl, hd2⟩
    have HB2 := Lib.hid (HB1.out.trans (hd2.below _))
    have X_2 := Lib.hid (own_dr X_1.out hd2)
    clear HB1 X_1 hd2
    go_wp2_with fail
    refine (toIntS_any _ _ zs _ (by omega) (HR.out.below HB2.out)).mono ?_
    rintro e w3 ⟨g2, rfl, hg3, hrow3, hb3⟩
    have lt_X_Y := Lib.hid (fun q (hq : _ = some q) => (X_2.out.lt q hq).2)
    have HB3 := Lib.hid (HB2.out.trans (hb3.mono HB2.out.size))
    have X_3 := Lib.hid (own_below X_2.out hb3)
    clear HB2 X_2 hb3
    have Y_3 := Lib.hid (hrow3.owns (base := w2.heap.size) (n := zs.length) (sz := 1) (by simp) (by unfold maxLen; omega) hg3)
    clear hrow3 hg3
    go_wp2_with fail
    refine (H2.out _ _ _ HM.out (own_reads Y_3.out)).mono ?_
    rintro e w4 ⟨rfl, hb4⟩
    have HB4 := Lib.hid (HB3.out.trans (hb4.mono HB3.out.size))
    have X_4 := Lib.hid (own_below X_3.out hb4)
    have Y_4 := Lib.hid (own_below Y_3.out hb4)
    clear HB3 X_3 Y_3 hb4
    go_wp2_with fail
    refine (toIntS_any _ _ zs _ (by omega) (HR.out.below HB4.out)).mono ?_
    rintro e w5 ⟨g3, rfl, hg5, hrow5, hb5⟩
    have lt_X_Z := Lib.hid (fun q (hq : _ = some q) => (X_4.out.lt q hq).2)
    have lt_Y_Z := Lib.hid (fun q (hq : _ = some q) => (Y_4.out.lt q hq).2)
    have HB5 := Lib.hid (HB4.out.trans (hb5.mono HB4.out.size))
    have X_5 := Lib.hid (own_below X_4.out hb5)
    have Y_5 := Lib.hid (own_below Y_4.out hb5)
    clear HB4 X_4 Y_4 hb5
    have Z_5 := Lib.hid (hrow5.owns (base := w4.heap.size) (n := zs.length) (sz := 1) (by simp) (by unfold maxLen; omega) hg5)
    clear hrow5 hg5
    go_wp2_with fail
    refine (eqIntS_any _ _ _ _ zs zs _ HM.out HM.out (own_reads Y_5.out) (own_reads Z_5.out)).mono ?_
    rintro e w6 ⟨rfl, hd6⟩
    have HB6 := Lib.hid (HB5.out.trans (hd6.below _))
    have X_6 := Lib.hid (own_dr X_5.out hd6)
    have Y_6 := Lib.hid (own_dr Y_5.out hd6)
    have Z_6 := Lib.hid (own_dr Z_5.out hd6)
    clear HB5 X_5 Y_5 Z_5 hd6
    simp only [decide_true]
    go_wp2_with fail
    go_ret
    exact ⟨rfl, HB6.out⟩
set_option maxHeartbeats 1000000 in
theorem FnExactIsPair_walk {w : World} (x y : Slc × List Int) (q : Int) (h : IntsIn w x.1 x.2) (h2 : IntsIn w y.1 y.2) (_ : (Lit.int .i64 q).wf = true) : Calls Try.prog 4 #[x.1.val, y.1.val, .int .i64 q] w fun e w' => e = .returned (.bool true) ∧ Below w.heap.size w w' := by
  obtain ⟨⟨ad, len, cap⟩, zs⟩ := x
  obtain ⟨hs, hm, hr, _⟩ := h
  obtain ⟨⟨ad2, len2, cap2⟩, ys⟩ := y
  obtain ⟨hs2, hm2, hr2, _⟩ := h2
  simp only at hs hm hr hs2 hm2 hr2
  subst hs hs2
  have HR := Lib.hid hr
  have HM := Lib.hid hm
  have HR2 := Lib.hid hr2
  have HM2 := Lib.hid hm2
  unfold maxLen at hm hm2
  generalize hf : pairF zs ys q = r
  obtain ⟨r0, r1⟩ := r
  have h1 := fun a b ca cb w hm hm2 hr hr2 => specPair_any a b ca cb zs ys q w hm hm2 hr hr2
  have h2 := fun a b ca cb w hm hm2 hr hr2 => implPair_any a b ca cb zs ys q w hm hm2 hr hr2
  rw [hf] at h1 h2
  have H1 := Lib.hid h1
  have H2 := Lib.hid h2
  clear h1 h2 hf hr hr2
  by_cases hbig : 1048576 < zs.length
  · go_enter Try.func4, Try.ntmps4
    go_wp2_with fail
    go_ret
    exact ⟨rfl, Below.refl _ _⟩
  by_cases hbig2 : 1048576 < ys.length
  · go_enter Try.func4, Try.ntmps4
    go_wp2_with fail
    go_ret
    exact ⟨rfl, Below.refl _ _⟩
  · have hle : zs.length ≤ 1048576 := by omega
    have hle2 : ys.length ≤ 1048576 := by omega
    clear hbig hbig2
    have HB0 := Lib.hid (Below.refl w.heap.size w)
    go_enter Try.func4, Try.ntmps4
    go_wp2_with fail
    refine (toIntS_any _ _ zs _ (by omega) (HR.out.below HB0.out)).mono ?_
    rintro e w1 ⟨g1, rfl, hg1, hrow1, hb1⟩
    have HB1 := Lib.hid (HB0.out.trans (hb1.mono HB0.out.size))
    clear HB0  hb1
    have X_1 := Lib.hid (hrow1.owns (base := w.heap.size) (n := zs.length) (sz := 1) (by simp) (by unfold maxLen; omega) hg1)
    clear hrow1 hg1
    go_wp2_with fail
    refine (toIntS_any _ _ ys _ (by omega) (HR2.out.below HB1.out)).mono ?_
    rintro e w2 ⟨g2, rfl, hg2, hrow2, hb2⟩
    have lt_X_X2 := Lib.hid (fun q (hq : _ = some q) => (X_1.out.lt q hq).2)
    have HB2 := Lib.hid (HB1.out.trans (hb2.mono HB1.out.size))
    have X_2 := Lib.hid (own_below X_1.out hb2)
    clear HB1 X_1 hb2
    have X2_2 := Lib.hid (hrow2.owns (base := w1.heap.size) (n := ys.length) (sz := 1) (by simp) (by unfold maxLen; omega) hg2)
    clear hrow2 hg2
    go_wp2_with fail
    refine (H1.out _ _ _ _ _ HM.out HM2.out (own_reads X_2.out) (own_reads X2_2.out)).mono ?_
    rintro e w3 ⟨rfl, hd3⟩
    have HB3 := Lib.hid (HB2.out.trans (hd3.below _))
    have X_3 := Lib.hid (own_dr X_2.out hd3)
    have X2_3 := Lib.hid (own_dr X2_2.out hd3)
    clear HB2 X_2 X2_2 hd3
    go_wp2_with fail
    refine (toIntS_any _ _ zs _ (by omega) (HR.out.below HB3.out)).mono ?_
    rintro e w4 ⟨g3, rfl, hg4, hrow4, hb4⟩
    have lt_X_Y := Lib.hid (fun q (hq : _ = some q) => (X_3.out.lt q hq).2)
    have lt_X2_Y := Lib.hid (fun q (hq : _ = some q) => (X2_3.out.lt q hq).2)
    have HB4 := Lib.hid (HB3.out.trans (hb4.mono HB3.out.size))
    have X_4 := Lib.hid (own_below X_3.out hb4)
    have X2_4 := Lib.hid (own_below X2_3.out hb4)
    clear HB3 X_3 X2_3 hb4
    have Y_4 := Lib.hid (hrow4.owns (base := w3.heap.size) (n := zs.length) (sz := 1) (by simp) (by unfold maxLen; omega) hg4)
    clear hrow4 hg4
    go_wp2_with fail
    refine (toIntS_any _ _ ys _ (by omega) (HR2.out.below HB4.out)).mono ?_
    rintro e w5 ⟨g4, rfl, hg5, hrow5, hb5⟩
    have lt_X_Y2 := Lib.hid (fun q (hq : _ = some q) => (X_4.out.lt q hq).2)
    have lt_X2_Y2 := Lib.hid (fun q (hq : _ = some q) => (X2_4.out.lt q hq).2)
    have lt_Y_Y2 := Lib.hid (fun q (hq : _ = some q) => (Y_4.out.lt q hq).2)
    have HB5 := Lib.hid (HB4.out.trans (hb5.mono HB4.out.size))
    have X_5 := Lib.hid (own_below X_4.out hb5)
    have X2_5 := Lib.hid (own_below X2_4.out hb5)
    have Y_5 := Lib.hid (own_below Y_4.out hb5)
    clear HB4 X_4 X2_4 Y_4 hb5
    have Y2_5 := Lib.hid (hrow5.owns (base := w4.heap.size) (n := ys.length) (sz := 1) (by simp) (by unfold maxLen; omega) hg5)
    clear hrow5 hg5
    go_wp2_with fail
    refine (H2.out _ _ _ _ _ HM.out HM2.out (own_reads Y_5.out) (own_reads Y2_5.out)).mono ?_
    rintro e w6 ⟨rfl, hd6⟩
    have HB6 := Lib.hid (HB5.out.trans (hd6.below _))
    have X_6 := Lib.hid (own_dr X_5.out hd6)
    have X2_6 := Lib.hid (own_dr X2_5.out hd6)
    have Y_6 := Lib.hid (own_dr Y_5.out hd6)
    have Y2_6 := Lib.hid (own_dr Y2_5.out hd6)
    clear HB5 X_5 X2_5 Y_5 Y2_5 hd6
    go_wp2_with fail
    refine (toIntS_any _ _ zs _ (by omega) (HR.out.below HB6.out)).mono ?_
    rintro e w7 ⟨g5, rfl, hg7, hrow7, hb7⟩
    have lt_X_Z := Lib.hid (fun q (hq : _ = some q) => (X_6.out.lt q hq).2)
    have lt_X2_Z := Lib.hid (fun q (hq : _ = some q) => (X2_6.out.lt q hq).2)
    have lt_Y_Z := Lib.hid (fun q (hq : _ = some q) => (Y_6.out.lt q hq).2)
    have lt_Y2_Z := Lib.hid (fun q (hq : _ = some q) => (Y2_6.out.lt q hq).2)
    have HB7 := Lib.hid (HB6.out.trans (hb7.mono HB6.out.size))
    have X_7 := Lib.hid (own_below X_6.out hb7)
    have X2_7 := Lib.hid (own_below X2_6.out hb7)
    have Y_7 := Lib.hid (own_below Y_6.out hb7)
    have Y2_7 := Lib.hid (own_below Y2_6.out hb7)
    clear HB6 X_6 X2_6 Y_6 Y2_6 hb7
    have Z_7 := Lib.hid (hrow7.owns (base := w6.heap.size) (n := zs.length) (sz := 1) (by simp) (by unfold maxLen; omega) hg7)
    clear hrow7 hg7
    go_wp2_with fail
    refine (eqIntS_any _ _ _ _ zs zs _ HM.out HM.out (own_reads Y_7.out) (own_reads Z_7.out)).mono ?_
    rintro e w8 ⟨rfl, hd8⟩
    have HB8 := Lib.hid (HB7.out.trans (hd8.below _))
    have X_8 := Lib.hid (own_dr X_7.out hd8)
    have X2_8 := Lib.hid (own_dr X2_7.out hd8)
    have Y_8 := Lib.hid (own_dr Y_7.out hd8)
    have Y2_8 := Lib.hid (own_dr Y2_7.out hd8)
    have Z_8 := Lib.hid (own_dr Z_7.out hd8)
    clear HB7 X_7 X2_7 Y_7 Y2_7 Z_7 hd8
    simp only [decide_true]
    go_wp2_with fail
    refine (toIntS_any _ _ ys _ (by omega) (HR2.out.below HB8.out)).mono ?_
    rintro e w9 ⟨g6, rfl, hg9, hrow9, hb9⟩
    have lt_X_Z2 := Lib.hid (fun q (hq : _ = some q) => (X_8.out.lt q hq).2)
    have lt_X2_Z2 := Lib.hid (fun q (hq : _ = some q) => (X2_8.out.lt q hq).2)
    have lt_Y_Z2 := Lib.hid (fun q (hq : _ = some q) => (Y_8.out.lt q hq).2)
    have lt_Y2_Z2 := Lib.hid (fun q (hq : _ = some q) => (Y2_8.out.lt q hq).2)
    have lt_Z_Z2 := Lib.hid (fun q (hq : _ = some q) => (Z_8.out.lt q hq).2)
    have HB9 := Lib.hid (HB8.out.trans (hb9.mono HB8.out.size))
    have X_9 := Lib.hid (own_below X_8.out hb9)
    have X2_9 := Lib.hid (own_below X2_8.out hb9)
    have Y_9 := Lib.hid (own_below Y_8.out hb9)
    have Y2_9 := Lib.hid (own_below Y2_8.out hb9)
    have Z_9 := Lib.hid (own_below Z_8.out hb9)
    clear HB8 X_8 X2_8 Y_8 Y2_8 Z_8 hb9
    have Z2_9 := Lib.hid (hrow9.owns (base := w8.heap.size) (n := ys.length) (sz := 1) (by simp) (by unfold maxLen; omega) hg9)
    clear hrow9 hg9
    go_wp2_with fail
    refine (eqIntS_any _ _ _ _ ys ys _ HM2.out HM2.out (own_reads Y2_9.out) (own_reads Z2_9.out)).mono ?_
    rintro e w10 ⟨rfl, hd10⟩
    have HB10 := Lib.hid (HB9.out.trans (hd10.below _))
    have X_10 := Lib.hid (own_dr X_9.out hd10)
    have X2_10 := Lib.hid (own_dr X2_9.out hd10)
    have Y_10 := Lib.hid (own_dr Y_9.out hd10)
    have Y2_10 := Lib.hid (own_dr Y2_9.out hd10)
    have Z_10 := Lib.hid (own_dr Z_9.out hd10)
    have Z2_10 := Lib.hid (own_dr Z2_9.out hd10)
    clear HB9 X_9 X2_9 Y_9 Y2_9 Z_9 Z2_9 hd10
    simp only [decide_true]
    go_wp2_with fail
    go_ret
    exact ⟨rfl, HB10.out⟩
end Go.Proofs.Ytocjkgcbpgmhiaa
