/- The law of MarkNames, walked out of the contracts. -/
import Derived.Test.YtolajlkijeaacaaPaperL
import Derived.Test.YtolajlkijeaacaaNameI
import Derived.Test.YtolajlkijeaacaaHeldT
namespace Go.Proofs.Ytolajlkijeaacaa
open Go.ChangeShapes Go.WideShapes Go.ChangeAt Go.RowKit

set_option maxHeartbeats 4000000 in
theorem FnExactMarkNames_walk {w : World} (x : Slc × List PaperT) (h : PapersIn w x.1 x.2) : Calls Try.prog 4 #[x.1.val] w fun e w' => e = .returned (.bool true) ∧ Below w.heap.size w w' := by
  obtain ⟨⟨ad, len, cap⟩, zs⟩ := x
  obtain ⟨hs, hm, hr, hfit0⟩ := h
  simp only at hs hm hr hfit0
  subst hs
  have HR := Lib.hid hr
  have HM := Lib.hid hm
  have HF : Hid (∀ z ∈ zs, z.mark.size ≤ maxLen) := Lib.hid (fun z hz => (hfit0 z hz).2.2.2.2.2.2)
  clear hr hfit0
  have hil := namR_len zs
  have h1 := fun a c w hm hr => specNames_any a c zs w hm hr HF.out
  have h2 := fun a c w hm hr => implNames_any a c zs w hm hr HF.out
  generalize hi : namR zs = ids at h1 h2 hil
  generalize hf : papersOk zs = r at h1 h2
  have H1 := Lib.hid h1
  have H2 := Lib.hid h2
  clear h1 h2 hf hi
  have HS := Lib.hid (fun w hr => szPaperS_any ad cap zs w hm hr HF.out)
  unfold maxLen at hm
  have HB0 := Lib.hid (Below.refl w.heap.size w)
  go_enter Try.func4, Try.ntmps4
  go_wp2_with fail
  refine (HS.out _ (HR.out.below HB0.out)).mono ?_
  rintro e w1 ⟨q, rfl, hq, hb1⟩
  have HB1 := Lib.hid (HB0.out.trans (hb1.mono HB0.out.size))
  clear HB0  hb1
  rcases hq with rfl | ⟨hq1, hq2, hle⟩
  · go_wp2_with fail
    go_ret
    exact ⟨rfl, HB1.out⟩
  go_wp2_with fail
  refine (toPaperS_any _ _ zs _ (by omega) (HR.out.below HB1.out)).mono ?_
  rintro e w2 ⟨g1, rfl, hg2, hrow2, hb2⟩
  have ge_S := HB1.out.size
  have HB2 := Lib.hid (HB1.out.trans (hb2.mono HB1.out.size))
  clear HB1  hb2
  have S_2 := Lib.hid (hrow2.owns (base := w1.heap.size) (n := zs.length) (sz := 5) (by rw [papers_length]) (by unfold maxLen; omega) hg2)
  clear hrow2 hg2
  go_wp2_with fail
  refine (H1.out _ _ _ HM.out (own_reads S_2.out)).mono ?_
  rintro e w3 ⟨adR, cpR, rfl, hown3, hb3⟩
  have lt_S_R := Lib.hid (fun q (hq : _ = some q) => (S_2.out.lt q hq).2)
  have ge_R := HB2.out.size
  have HB3 := Lib.hid (HB2.out.trans (hb3.mono HB2.out.size))
  have S_3 := Lib.hid (own_below S_2.out hb3)
  clear HB2 S_2 hb3
  have R_3 := Lib.hid hown3
  clear hown3
  go_wp2_with fail
  refine (toPaperS_any _ _ zs _ (by omega) (HR.out.below HB3.out)).mono ?_
  rintro e w4 ⟨g2, rfl, hg4, hrow4, hb4⟩
  have lt_S_X := Lib.hid (fun q (hq : _ = some q) => (S_3.out.lt q hq).2)
  have lt_R_X := Lib.hid (fun q (hq : _ = some q) => (R_3.out.lt q hq).2)
  have ge_X := HB3.out.size
  have HB4 := Lib.hid (HB3.out.trans (hb4.mono HB3.out.size))
  have S_4 := Lib.hid (own_below S_3.out hb4)
  have R_4 := Lib.hid (own_below R_3.out hb4)
  clear HB3 S_3 R_3 hb4
  have X_4 := Lib.hid (hrow4.owns (base := w3.heap.size) (n := zs.length) (sz := 5) (by rw [papers_length]) (by unfold maxLen; omega) hg4)
  clear hrow4 hg4
  go_wp2_with fail
  refine (H2.out _ _ _ HM.out (own_reads X_4.out)).mono ?_
  rintro e w5 ⟨adG, cpG, rfl, hown5, hb5⟩
  have lt_S_G := Lib.hid (fun q (hq : _ = some q) => (S_4.out.lt q hq).2)
  have lt_R_G := Lib.hid (fun q (hq : _ = some q) => (R_4.out.lt q hq).2)
  have lt_X_G := Lib.hid (fun q (hq : _ = some q) => (X_4.out.lt q hq).2)
  have ge_G := HB4.out.size
  have HB5 := Lib.hid (HB4.out.trans (hb5.mono HB4.out.size))
  have S_5 := Lib.hid (own_below S_4.out hb5)
  have R_5 := Lib.hid (own_below R_4.out hb5)
  have X_5 := Lib.hid (own_below X_4.out hb5)
  clear HB4 S_4 R_4 X_4 hb5
  have G_5 := Lib.hid hown5
  clear hown5
  have HI := Lib.hid (show ids.length ≤ maxLen by unfold maxLen; omega)
  go_wp2_with fail
  refine (eqStringS_any _ _ _ _ ids ids _ HI.out HI.out (own_reads G_5.out) (own_reads R_5.out)).mono ?_
  rintro e w6 ⟨rfl, hd6⟩
  have HB6 := Lib.hid (HB5.out.trans (hd6.below _))
  have S_6 := Lib.hid (own_dr S_5.out hd6)
  have R_6 := Lib.hid (own_dr R_5.out hd6)
  have X_6 := Lib.hid (own_dr X_5.out hd6)
  have G_6 := Lib.hid (own_dr G_5.out hd6)
  clear HB5 S_5 R_5 X_5 G_5 hd6
  simp only [decide_true]
  go_wp2_with fail
  refine (toPaperS_any _ _ zs _ (by omega) (HR.out.below HB6.out)).mono ?_
  rintro e w7 ⟨g3, rfl, hg7, hrow7, hb7⟩
  have lt_S_Z := Lib.hid (fun q (hq : _ = some q) => (S_6.out.lt q hq).2)
  have lt_R_Z := Lib.hid (fun q (hq : _ = some q) => (R_6.out.lt q hq).2)
  have lt_X_Z := Lib.hid (fun q (hq : _ = some q) => (X_6.out.lt q hq).2)
  have lt_G_Z := Lib.hid (fun q (hq : _ = some q) => (G_6.out.lt q hq).2)
  have ge_Z := HB6.out.size
  have HB7 := Lib.hid (HB6.out.trans (hb7.mono HB6.out.size))
  have S_7 := Lib.hid (own_below S_6.out hb7)
  have R_7 := Lib.hid (own_below R_6.out hb7)
  have X_7 := Lib.hid (own_below X_6.out hb7)
  have G_7 := Lib.hid (own_below G_6.out hb7)
  clear HB6 S_6 R_6 X_6 G_6 hb7
  have Z_7 := Lib.hid (hrow7.owns (base := w6.heap.size) (n := zs.length) (sz := 5) (by rw [papers_length]) (by unfold maxLen; omega) hg7)
  clear hrow7 hg7
  go_wp2_with fail
  refine (eqPaperS_any _ _ _ _ zs zs _ HM.out HM.out (own_reads X_7.out) (own_reads Z_7.out)).mono ?_
  rintro e w8 ⟨rfl, hb8⟩
  have HB8 := Lib.hid (HB7.out.trans (hb8.mono HB7.out.size))
  have S_8 := Lib.hid (own_below S_7.out hb8)
  have R_8 := Lib.hid (own_below R_7.out hb8)
  have X_8 := Lib.hid (own_below X_7.out hb8)
  have G_8 := Lib.hid (own_below G_7.out hb8)
  have Z_8 := Lib.hid (own_below Z_7.out hb8)
  clear HB7 S_7 R_7 X_7 G_7 Z_7 hb8
  simp only [decide_true]
  go_wp2_with fail
  refine (markPaperS_any _ _ _ _ _ 1 1 _ rfl (by omega) (by omega) (by omega) X_8.out).mono ?_
  rintro e w9 ⟨rfl, hg⟩
  have HB9 := Lib.hid (HB8.out.grown hg HB8.out.size (fun q hq => Nat.le_trans ge_X (X_8.out.lt q hq).1))
  have S_9 := Lib.hid (own_kept S_8.out hg (ne_earlier lt_S_X.out X_8.out))
  have R_9 := Lib.hid (own_kept R_8.out hg (ne_earlier lt_R_X.out X_8.out))
  have G_9 := Lib.hid (own_kept G_8.out hg (ne_later lt_X_G.out G_8.out))
  have Z_9 := Lib.hid (own_kept Z_8.out hg (ne_later lt_X_Z.out Z_8.out))
  clear HB8 S_8 R_8 X_8 G_8 Z_8 hg
  go_wp2_with fail
  refine (eqStringS_any _ _ _ _ ids ids _ HI.out HI.out (own_reads G_9.out) (own_reads R_9.out)).mono ?_
  rintro e w10 ⟨rfl, hd10⟩
  have HB10 := Lib.hid (HB9.out.trans (hd10.below _))
  have S_10 := Lib.hid (own_dr S_9.out hd10)
  have R_10 := Lib.hid (own_dr R_9.out hd10)
  have G_10 := Lib.hid (own_dr G_9.out hd10)
  have Z_10 := Lib.hid (own_dr Z_9.out hd10)
  clear HB9 S_9 R_9 G_9 Z_9 hd10
  simp only [decide_true]
  go_wp2_with fail
  refine (markStringS_any _ _ _ _ _ 1 1 _ rfl (by omega) (by omega) (by omega) G_10.out).mono ?_
  rintro e w11 ⟨rfl, hown, hg⟩
  have HB11 := Lib.hid (HB10.out.grown hg HB10.out.size (fun q hq => Nat.le_trans ge_G (G_10.out.lt q hq).1))
  have S_11 := Lib.hid (own_kept S_10.out hg (ne_earlier lt_S_G.out G_10.out))
  have R_11 := Lib.hid (own_kept R_10.out hg (ne_earlier lt_R_G.out G_10.out))
  have Z_11 := Lib.hid (own_kept Z_10.out hg (ne_later lt_G_Z.out Z_10.out))
  have G_11 := Lib.hid hown
  clear HB10 S_10 R_10 G_10 Z_10 hg hown
  go_wp2_with fail
  refine (heldStringS_any _ _ _ 1 1 _ rfl (by omega) (by omega) (by omega) (own_reads G_11.out)).mono ?_
  rintro e w12 ⟨rfl, hb12⟩
  have HB12 := Lib.hid (HB11.out.trans (hb12.mono HB11.out.size))
  have S_12 := Lib.hid (own_below S_11.out hb12)
  have R_12 := Lib.hid (own_below R_11.out hb12)
  have G_12 := Lib.hid (own_below G_11.out hb12)
  have Z_12 := Lib.hid (own_below Z_11.out hb12)
  clear HB11 S_11 R_11 G_11 Z_11 hb12
  go_wp2_with fail
  refine (toPaperS_any _ _ zs _ (by omega) (HR.out.below HB12.out)).mono ?_
  rintro e w13 ⟨g4, rfl, hg13, hrow13, hb13⟩
  have lt_S_Y := Lib.hid (fun q (hq : _ = some q) => (S_12.out.lt q hq).2)
  have lt_R_Y := Lib.hid (fun q (hq : _ = some q) => (R_12.out.lt q hq).2)
  have lt_G_Y := Lib.hid (fun q (hq : _ = some q) => (G_12.out.lt q hq).2)
  have lt_Z_Y := Lib.hid (fun q (hq : _ = some q) => (Z_12.out.lt q hq).2)
  have ge_Y := HB12.out.size
  have HB13 := Lib.hid (HB12.out.trans (hb13.mono HB12.out.size))
  have S_13 := Lib.hid (own_below S_12.out hb13)
  have R_13 := Lib.hid (own_below R_12.out hb13)
  have G_13 := Lib.hid (own_below G_12.out hb13)
  have Z_13 := Lib.hid (own_below Z_12.out hb13)
  clear HB12 S_12 R_12 G_12 Z_12 hb13
  have Y_13 := Lib.hid (hrow13.owns (base := w12.heap.size) (n := zs.length) (sz := 5) (by rw [papers_length]) (by unfold maxLen; omega) hg13)
  clear hrow13 hg13
  go_wp2_with fail
  refine (H2.out _ _ _ HM.out (own_reads Y_13.out)).mono ?_
  rintro e w14 ⟨adK, cpK, rfl, hown14, hb14⟩
  have lt_S_K := Lib.hid (fun q (hq : _ = some q) => (S_13.out.lt q hq).2)
  have lt_R_K := Lib.hid (fun q (hq : _ = some q) => (R_13.out.lt q hq).2)
  have lt_G_K := Lib.hid (fun q (hq : _ = some q) => (G_13.out.lt q hq).2)
  have lt_Z_K := Lib.hid (fun q (hq : _ = some q) => (Z_13.out.lt q hq).2)
  have lt_Y_K := Lib.hid (fun q (hq : _ = some q) => (Y_13.out.lt q hq).2)
  have ge_K := HB13.out.size
  have HB14 := Lib.hid (HB13.out.trans (hb14.mono HB13.out.size))
  have S_14 := Lib.hid (own_below S_13.out hb14)
  have R_14 := Lib.hid (own_below R_13.out hb14)
  have G_14 := Lib.hid (own_below G_13.out hb14)
  have Z_14 := Lib.hid (own_below Z_13.out hb14)
  have Y_14 := Lib.hid (own_below Y_13.out hb14)
  clear HB13 S_13 R_13 G_13 Z_13 Y_13 hb14
  have K_14 := Lib.hid hown14
  clear hown14
  go_wp2_with fail
  refine (eqStringS_any _ _ _ _ ids ids _ HI.out HI.out (own_reads K_14.out) (own_reads R_14.out)).mono ?_
  rintro e w15 ⟨rfl, hd15⟩
  have HB15 := Lib.hid (HB14.out.trans (hd15.below _))
  have S_15 := Lib.hid (own_dr S_14.out hd15)
  have R_15 := Lib.hid (own_dr R_14.out hd15)
  have G_15 := Lib.hid (own_dr G_14.out hd15)
  have Z_15 := Lib.hid (own_dr Z_14.out hd15)
  have Y_15 := Lib.hid (own_dr Y_14.out hd15)
  have K_15 := Lib.hid (own_dr K_14.out hd15)
  clear HB14 S_14 R_14 G_14 Z_14 Y_14 K_14 hd15
  simp only [decide_true]
  go_wp2_with fail
  refine (heldStringS_any _ _ _ 1 1 _ rfl (by omega) (by omega) (by omega) (own_reads G_15.out)).mono ?_
  rintro e w16 ⟨rfl, hb16⟩
  have HB16 := Lib.hid (HB15.out.trans (hb16.mono HB15.out.size))
  have S_16 := Lib.hid (own_below S_15.out hb16)
  have R_16 := Lib.hid (own_below R_15.out hb16)
  have G_16 := Lib.hid (own_below G_15.out hb16)
  have Z_16 := Lib.hid (own_below Z_15.out hb16)
  have Y_16 := Lib.hid (own_below Y_15.out hb16)
  have K_16 := Lib.hid (own_below K_15.out hb16)
  clear HB15 S_15 R_15 G_15 Z_15 Y_15 K_15 hb16
  go_wp2_with fail
  go_ret
  exact ⟨rfl, HB16.out⟩
end Go.Proofs.Ytolajlkijeaacaa
