/- The law of NearestPaper, walked out of the contracts. -/
import Derived.Test.YtcmocibhamfgoaaPaperL
import Derived.Test.YtcmocibhamfgoaaNear
namespace Go.Proofs.Ytcmocibhamfgoaa
open Go.ChangeShapes Go.WideShapes Go.ChangeAt Go.RowKit

set_option maxHeartbeats 4000000 in
theorem FnExactNearestPaper_walk {w : World} (x : Slc × List PaperT) (th : Int) (h : PapersIn w x.1 x.2) (_ : (Lit.int .i64 th).wf = true) : Calls Try.prog 9 #[x.1.val, .int .i64 th] w fun e w' => e = .returned (.bool true) ∧ Below w.heap.size w w' := by
  obtain ⟨⟨ad, len, cap⟩, zs⟩ := x
  obtain ⟨hs, hm, hr, hfit0⟩ := h
  simp only at hs hm hr hfit0
  subst hs
  have HR := Lib.hid hr
  have HM := Lib.hid hm
  have HF : Hid (∀ z ∈ zs, z.mark.size ≤ maxLen) := Lib.hid (fun z hz => (hfit0 z hz).2.2.2.2.2.2)
  clear hr hfit0
  generalize hf : nearF zs th = r
  have h1 := fun a c w hm hr => specNear_any a c zs th w hm hr HF.out
  have h2 := fun a c w hm hr => implNear_any a c zs th w hm hr HF.out
  rw [hf] at h1 h2
  obtain ⟨r0, r1, r2⟩ := r
  have H1 := Lib.hid h1
  have H2 := Lib.hid h2
  clear h1 h2 hf
  have HS := Lib.hid (fun w hr => szPaperS_any ad cap zs w hm hr HF.out)
  unfold maxLen at hm
  have HB0 := Lib.hid (Below.refl w.heap.size w)
  go_enter Try.func9, Try.ntmps9
  go_wp2_with fail
  refine (HS.out _ (HR.out.below HB0.out)).mono ?_
  rintro e w1 ⟨q, rfl, hq, hb1⟩
  have HB1 := Lib.hid (HB0.out.trans (hb1.mono HB0.out.size))
  clear HB0  hb1
  rcases hq with rfl | ⟨hq1, hq2, hle⟩
  · go_wp2_with fail
    go_ret
    exact ⟨rfl, HB1.out⟩
  go_wp2_with fail
  refine (toPaperS_any _ _ zs _ (by omega) (HR.out.below HB1.out)).mono ?_
  rintro e w2 ⟨g1, rfl, hg2, hrow2, hb2⟩
  have ge_S := HB1.out.size
  have HB2 := Lib.hid (HB1.out.trans (hb2.mono HB1.out.size))
  clear HB1  hb2
  have S_2 := Lib.hid (hrow2.owns (base := w1.heap.size) (n := zs.length) (sz := 5) (by rw [papers_length]) (by unfold maxLen; omega) hg2)
  clear hrow2 hg2
  go_wp2_with fail
  refine (H1.out _ _ _ HM.out (own_reads S_2.out)).mono ?_
  rintro e w3 ⟨rfl, hb3⟩
  have HB3 := Lib.hid (HB2.out.trans (hb3.mono HB2.out.size))
  have S_3 := Lib.hid (own_below S_2.out hb3)
  clear HB2 S_2 hb3
  go_wp2_with fail
  refine (toPaperS_any _ _ zs _ (by omega) (HR.out.below HB3.out)).mono ?_
  rintro e w4 ⟨g2, rfl, hg4, hrow4, hb4⟩
  have lt_S_X := Lib.hid (fun q (hq : _ = some q) => (S_3.out.lt q hq).2)
  have ge_X := HB3.out.size
  have HB4 := Lib.hid (HB3.out.trans (hb4.mono HB3.out.size))
  have S_4 := Lib.hid (own_below S_3.out hb4)
  clear HB3 S_3 hb4
  have X_4 := Lib.hid (hrow4.owns (base := w3.heap.size) (n := zs.length) (sz := 5) (by rw [papers_length]) (by unfold maxLen; omega) hg4)
  clear hrow4 hg4
  go_wp2_with fail
  refine (H2.out _ _ _ HM.out (own_reads X_4.out)).mono ?_
  rintro e w5 ⟨rfl, hb5⟩
  have HB5 := Lib.hid (HB4.out.trans (hb5.mono HB4.out.size))
  have S_5 := Lib.hid (own_below S_4.out hb5)
  have X_5 := Lib.hid (own_below X_4.out hb5)
  clear HB4 S_4 X_4 hb5
  go_wp2_with fail
  refine (toPaperS_any _ _ zs _ (by omega) (HR.out.below HB5.out)).mono ?_
  rintro e w6 ⟨g3, rfl, hg6, hrow6, hb6⟩
  have lt_S_Z := Lib.hid (fun q (hq : _ = some q) => (S_5.out.lt q hq).2)
  have lt_X_Z := Lib.hid (fun q (hq : _ = some q) => (X_5.out.lt q hq).2)
  have ge_Z := HB5.out.size
  have HB6 := Lib.hid (HB5.out.trans (hb6.mono HB5.out.size))
  have S_6 := Lib.hid (own_below S_5.out hb6)
  have X_6 := Lib.hid (own_below X_5.out hb6)
  clear HB5 S_5 X_5 hb6
  have Z_6 := Lib.hid (hrow6.owns (base := w5.heap.size) (n := zs.length) (sz := 5) (by rw [papers_length]) (by unfold maxLen; omega) hg6)
  clear hrow6 hg6
  go_wp2_with fail
  refine (eqPaperS_any _ _ _ _ zs zs _ HM.out HM.out (own_reads X_6.out) (own_reads Z_6.out)).mono ?_
  rintro e w7 ⟨rfl, hb7⟩
  have HB7 := Lib.hid (HB6.out.trans (hb7.mono HB6.out.size))
  have S_7 := Lib.hid (own_below S_6.out hb7)
  have X_7 := Lib.hid (own_below X_6.out hb7)
  have Z_7 := Lib.hid (own_below Z_6.out hb7)
  clear HB6 S_6 X_6 Z_6 hb7
  simp only [decide_true]
  go_wp2_with fail
  go_ret
  exact ⟨rfl, HB7.out⟩
end Go.Proofs.Ytcmocibhamfgoaa
