/- The law of LeastOver, walked out of the contracts. -/
import Derived.Test.YtieopadbbciciaaStampA
import Derived.Test.YtieopadbbciciaaLeastN
import Derived.Test.YtieopadbbciciaaOwn
namespace Go.Proofs.Ytieopadbbciciaa
open Go.ChangeShapes Go.WideShapes Go.ChangeAt Go.RowKit

theorem leastR_len (zs : List StampT) (q y : Int) : (leastR zs q y).1.1.length ≤ 6 := by
  unfold leastR
  split
  · rename_i h
    simp only [leastOk, Bool.and_eq_true, inB_true] at h
    split
    · simp
    · exact foldB_len (by simp) (fun x hx => by have := lv_len _ _ _ _ _ _ _ x hx; simp at this; omega)
  · simp
theorem specLeast2 {zs : List StampT} {q y : Int} {ids : List Int} {nn : Int} {r : Bool} (h : leastR zs q y = ((ids, nn), r)) (a : Option Addr) (cap : Nat) (w : World) (hm : zs.length ≤ maxLen) (hr : Reads w a (stamps zs)) :
    Calls Try.prog 6 #[.slice a zs.length cap, .int .i64 q, .int .i64 y] w fun e w' => ∃ ad cp, e = .returned (.tuple #[.slice ad ids.length cp, .int .i64 nn, .bool r]) ∧ w'.ownsRow w.heap.size 3 1 (.slice ad ids.length cp) ids.length (ints ids) ∧ Below w.heap.size w w' := by
  have := specLeast_any a cap zs q y w hm hr
  rw [h] at this; exact this
theorem implLeast2 {zs : List StampT} {q y : Int} {ids : List Int} {nn : Int} {r : Bool} (h : leastR zs q y = ((ids, nn), r)) (a : Option Addr) (cap : Nat) (w : World) (hm : zs.length ≤ maxLen) (hr : Reads w a (stamps zs)) :
    Calls Try.prog 8 #[.slice a zs.length cap, .int .i64 q, .int .i64 y] w fun e w' => ∃ ad cp, e = .returned (.tuple #[.slice ad ids.length cp, .int .i64 nn, .bool r]) ∧ w'.ownsRow w.heap.size 3 1 (.slice ad ids.length cp) ids.length (ints ids) ∧ Below w.heap.size w w' := by
  have := implLeast_any a cap zs q y w hm hr
  rw [h] at this; exact this

set_option maxHeartbeats 4000000 in
theorem FnExactLeastOver_walk {w : World} (x : Slc × List StampT) (q : Int) (yr : Int) (h : StampsIn w x.1 x.2) (_ : (Lit.int .i64 q).wf = true) (_ : (Lit.int .i64 yr).wf = true) : Calls Try.prog 3 #[x.1.val, .int .i64 q, .int .i64 yr] w fun e w' => e = .returned (.bool true) ∧ Below w.heap.size w w' := by
  obtain ⟨⟨ad, len, cap⟩, zs⟩ := x
  obtain ⟨hs, hm, hr, _⟩ := h
  simp only at hs hm hr
  subst hs
  have HR := Lib.hid hr
  have HM := Lib.hid hm
  clear hr
  obtain ⟨⟨⟨ids, nn⟩, r⟩, hres⟩ : ∃ x, x = leastR zs q yr := ⟨_, rfl⟩
  have hil : ids.length ≤ 1048576 := by
    have := leastR_len zs q yr
    rw [← hres] at this
    simp only at this
    omega
  have H1 := Lib.hid (fun a c w hm hr => specLeast2 hres.symm a c w hm hr)
  have H2 := Lib.hid (fun a c w hm hr => implLeast2 hres.symm a c w hm hr)
  clear hres
  rcases Nat.lt_or_ge 1048576 zs.length with hbig | hle
  · have HS := Lib.hid (szStampS_big ad zs.length cap 1048576 w (by omega) (by omega) hm)
    unfold maxLen at hm
    go_enter Try.func3, Try.ntmps3
    go_wp2_with fail
    refine HS.out.mono ?_
    rintro e _ ⟨rfl, rfl⟩
    go_wp2_with fail
    go_ret
    exact ⟨rfl, Below.refl _ _⟩
  have HS := Lib.hid (szStampS_ok ad zs.length cap 1048576 w (by omega) (by omega))
  unfold maxLen at hm
  have HB0 := Lib.hid (Below.refl w.heap.size w)
  go_enter Try.func3, Try.ntmps3
  go_wp2_with fail
  refine (HS.out).mono ?_
  rintro e _ ⟨rfl, rfl⟩
  go_wp2_with fail
  refine (toStampS_any _ _ zs _ (by omega) (HR.out.below HB0.out)).mono ?_
  rintro e w1 ⟨g1, rfl, hg1, hrow1, hb1⟩
  have ge_S := HB0.out.size
  have HB1 := Lib.hid (HB0.out.trans (hb1.mono HB0.out.size))
  clear HB0  hb1
  have S_1 := Lib.hid (hrow1.owns (base := w.heap.size) (n := zs.length) (sz := 4) (by rw [stamps_length]) (by unfold maxLen; omega) hg1)
  clear hrow1 hg1
  go_wp2_with fail
  refine (H1.out _ _ _ HM.out (own_reads S_1.out)).mono ?_
  rintro e w2 ⟨adR, cpR, rfl, hown2, hb2⟩
  have lt_S_R := Lib.hid (fun q (hq : _ = some q) => (S_1.out.lt q hq).2)
  have ge_R := HB1.out.size
  have HB2 := Lib.hid (HB1.out.trans (hb2.mono HB1.out.size))
  have S_2 := Lib.hid (own_below S_1.out hb2)
  clear HB1 S_1 hb2
  have R_2 := Lib.hid hown2
  clear hown2
  go_wp2_with fail
  refine (toStampS_any _ _ zs _ (by omega) (HR.out.below HB2.out)).mono ?_
  rintro e w3 ⟨g2, rfl, hg3, hrow3, hb3⟩
  have lt_S_X := Lib.hid (fun q (hq : _ = some q) => (S_2.out.lt q hq).2)
  have lt_R_X := Lib.hid (fun q (hq : _ = some q) => (R_2.out.lt q hq).2)
  have ge_X := HB2.out.size
  have HB3 := Lib.hid (HB2.out.trans (hb3.mono HB2.out.size))
  have S_3 := Lib.hid (own_below S_2.out hb3)
  have R_3 := Lib.hid (own_below R_2.out hb3)
  clear HB2 S_2 R_2 hb3
  have X_3 := Lib.hid (hrow3.owns (base := w2.heap.size) (n := zs.length) (sz := 4) (by rw [stamps_length]) (by unfold maxLen; omega) hg3)
  clear hrow3 hg3
  go_wp2_with fail
  refine (H2.out _ _ _ HM.out (own_reads X_3.out)).mono ?_
  rintro e w4 ⟨adG, cpG, rfl, hown4, hb4⟩
  have lt_S_G := Lib.hid (fun q (hq : _ = some q) => (S_3.out.lt q hq).2)
  have lt_R_G := Lib.hid (fun q (hq : _ = some q) => (R_3.out.lt q hq).2)
  have lt_X_G := Lib.hid (fun q (hq : _ = some q) => (X_3.out.lt q hq).2)
  have ge_G := HB3.out.size
  have HB4 := Lib.hid (HB3.out.trans (hb4.mono HB3.out.size))
  have S_4 := Lib.hid (own_below S_3.out hb4)
  have R_4 := Lib.hid (own_below R_3.out hb4)
  have X_4 := Lib.hid (own_below X_3.out hb4)
  clear HB3 S_3 R_3 X_3 hb4
  have G_4 := Lib.hid hown4
  clear hown4
  have HI := Lib.hid (show ids.length ≤ maxLen by unfold maxLen; omega)
  go_wp2_with fail
  refine (eqIntS_any _ _ _ _ ids ids _ HI.out HI.out (own_reads G_4.out) (own_reads R_4.out)).mono ?_
  rintro e w5 ⟨rfl, hd5⟩
  have HB5 := Lib.hid (HB4.out.trans (hd5.below _))
  have S_5 := Lib.hid (own_dr S_4.out hd5)
  have R_5 := Lib.hid (own_dr R_4.out hd5)
  have X_5 := Lib.hid (own_dr X_4.out hd5)
  have G_5 := Lib.hid (own_dr G_4.out hd5)
  clear HB4 S_4 R_4 X_4 G_4 hd5
  simp only [decide_true]
  go_wp2_with fail
  refine (toStampS_any _ _ zs _ (by omega) (HR.out.below HB5.out)).mono ?_
  rintro e w6 ⟨g3, rfl, hg6, hrow6, hb6⟩
  have lt_S_Z := Lib.hid (fun q (hq : _ = some q) => (S_5.out.lt q hq).2)
  have lt_R_Z := Lib.hid (fun q (hq : _ = some q) => (R_5.out.lt q hq).2)
  have lt_X_Z := Lib.hid (fun q (hq : _ = some q) => (X_5.out.lt q hq).2)
  have lt_G_Z := Lib.hid (fun q (hq : _ = some q) => (G_5.out.lt q hq).2)
  have ge_Z := HB5.out.size
  have HB6 := Lib.hid (HB5.out.trans (hb6.mono HB5.out.size))
  have S_6 := Lib.hid (own_below S_5.out hb6)
  have R_6 := Lib.hid (own_below R_5.out hb6)
  have X_6 := Lib.hid (own_below X_5.out hb6)
  have G_6 := Lib.hid (own_below G_5.out hb6)
  clear HB5 S_5 R_5 X_5 G_5 hb6
  have Z_6 := Lib.hid (hrow6.owns (base := w5.heap.size) (n := zs.length) (sz := 4) (by rw [stamps_length]) (by unfold maxLen; omega) hg6)
  clear hrow6 hg6
  go_wp2_with fail
  refine (eqStampS_any _ _ _ _ zs zs _ HM.out HM.out (own_reads X_6.out) (own_reads Z_6.out)).mono ?_
  rintro e w7 ⟨rfl, hb7⟩
  have HB7 := Lib.hid (HB6.out.trans (hb7.mono HB6.out.size))
  have S_7 := Lib.hid (own_below S_6.out hb7)
  have R_7 := Lib.hid (own_below R_6.out hb7)
  have X_7 := Lib.hid (own_below X_6.out hb7)
  have G_7 := Lib.hid (own_below G_6.out hb7)
  have Z_7 := Lib.hid (own_below Z_6.out hb7)
  clear HB6 S_6 R_6 X_6 G_6 Z_6 hb7
  simp only [decide_true]
  go_wp2_with fail
  refine (markStampS_any _ _ _ _ _ 1 _ (by omega) (by omega) (by omega) X_7.out).mono ?_
  rintro e w8 ⟨rfl, hg⟩
  have HB8 := Lib.hid (HB7.out.grown hg HB7.out.size (fun q hq => Nat.le_trans ge_X (X_7.out.lt q hq).1))
  have S_8 := Lib.hid (own_kept S_7.out hg (ne_earlier lt_S_X.out X_7.out))
  have R_8 := Lib.hid (own_kept R_7.out hg (ne_earlier lt_R_X.out X_7.out))
  have G_8 := Lib.hid (own_kept G_7.out hg (ne_later lt_X_G.out G_7.out))
  have Z_8 := Lib.hid (own_kept Z_7.out hg (ne_later lt_X_Z.out Z_7.out))
  clear HB7 S_7 R_7 X_7 G_7 Z_7 hg
  go_wp2_with fail
  refine (eqIntS_any _ _ _ _ ids ids _ HI.out HI.out (own_reads G_8.out) (own_reads R_8.out)).mono ?_
  rintro e w9 ⟨rfl, hd9⟩
  have HB9 := Lib.hid (HB8.out.trans (hd9.below _))
  have S_9 := Lib.hid (own_dr S_8.out hd9)
  have R_9 := Lib.hid (own_dr R_8.out hd9)
  have G_9 := Lib.hid (own_dr G_8.out hd9)
  have Z_9 := Lib.hid (own_dr Z_8.out hd9)
  clear HB8 S_8 R_8 G_8 Z_8 hd9
  simp only [decide_true]
  go_wp2_with fail
  refine (markIntS_any _ _ _ _ _ 1 _ (by omega) (by omega) (by omega) G_9.out).mono ?_
  rintro e w10 ⟨rfl, hown, hg⟩
  have HB10 := Lib.hid (HB9.out.grown hg HB9.out.size (fun q hq => Nat.le_trans ge_G (G_9.out.lt q hq).1))
  have S_10 := Lib.hid (own_kept S_9.out hg (ne_earlier lt_S_G.out G_9.out))
  have R_10 := Lib.hid (own_kept R_9.out hg (ne_earlier lt_R_G.out G_9.out))
  have Z_10 := Lib.hid (own_kept Z_9.out hg (ne_later lt_G_Z.out Z_9.out))
  have G_10 := Lib.hid hown
  clear HB9 S_9 R_9 G_9 Z_9 hg hown
  go_wp2_with fail
  refine (heldIntS_any _ _ _ 1 _ (by omega) (by omega) (by omega) (own_reads G_10.out)).mono ?_
  rintro e _ ⟨rfl, rfl⟩
  go_wp2_with fail
  refine (toStampS_any _ _ zs _ (by omega) (HR.out.below HB10.out)).mono ?_
  rintro e w11 ⟨g4, rfl, hg11, hrow11, hb11⟩
  have lt_S_Y := Lib.hid (fun q (hq : _ = some q) => (S_10.out.lt q hq).2)
  have lt_R_Y := Lib.hid (fun q (hq : _ = some q) => (R_10.out.lt q hq).2)
  have lt_G_Y := Lib.hid (fun q (hq : _ = some q) => (G_10.out.lt q hq).2)
  have lt_Z_Y := Lib.hid (fun q (hq : _ = some q) => (Z_10.out.lt q hq).2)
  have ge_Y := HB10.out.size
  have HB11 := Lib.hid (HB10.out.trans (hb11.mono HB10.out.size))
  have S_11 := Lib.hid (own_below S_10.out hb11)
  have R_11 := Lib.hid (own_below R_10.out hb11)
  have G_11 := Lib.hid (own_below G_10.out hb11)
  have Z_11 := Lib.hid (own_below Z_10.out hb11)
  clear HB10 S_10 R_10 G_10 Z_10 hb11
  have Y_11 := Lib.hid (hrow11.owns (base := w10.heap.size) (n := zs.length) (sz := 4) (by rw [stamps_length]) (by unfold maxLen; omega) hg11)
  clear hrow11 hg11
  go_wp2_with fail
  refine (H2.out _ _ _ HM.out (own_reads Y_11.out)).mono ?_
  rintro e w12 ⟨adK, cpK, rfl, hown12, hb12⟩
  have lt_S_K := Lib.hid (fun q (hq : _ = some q) => (S_11.out.lt q hq).2)
  have lt_R_K := Lib.hid (fun q (hq : _ = some q) => (R_11.out.lt q hq).2)
  have lt_G_K := Lib.hid (fun q (hq : _ = some q) => (G_11.out.lt q hq).2)
  have lt_Z_K := Lib.hid (fun q (hq : _ = some q) => (Z_11.out.lt q hq).2)
  have lt_Y_K := Lib.hid (fun q (hq : _ = some q) => (Y_11.out.lt q hq).2)
  have ge_K := HB11.out.size
  have HB12 := Lib.hid (HB11.out.trans (hb12.mono HB11.out.size))
  have S_12 := Lib.hid (own_below S_11.out hb12)
  have R_12 := Lib.hid (own_below R_11.out hb12)
  have G_12 := Lib.hid (own_below G_11.out hb12)
  have Z_12 := Lib.hid (own_below Z_11.out hb12)
  have Y_12 := Lib.hid (own_below Y_11.out hb12)
  clear HB11 S_11 R_11 G_11 Z_11 Y_11 hb12
  have K_12 := Lib.hid hown12
  clear hown12
  go_wp2_with fail
  refine (eqIntS_any _ _ _ _ ids ids _ HI.out HI.out (own_reads K_12.out) (own_reads R_12.out)).mono ?_
  rintro e w13 ⟨rfl, hd13⟩
  have HB13 := Lib.hid (HB12.out.trans (hd13.below _))
  have S_13 := Lib.hid (own_dr S_12.out hd13)
  have R_13 := Lib.hid (own_dr R_12.out hd13)
  have G_13 := Lib.hid (own_dr G_12.out hd13)
  have Z_13 := Lib.hid (own_dr Z_12.out hd13)
  have Y_13 := Lib.hid (own_dr Y_12.out hd13)
  have K_13 := Lib.hid (own_dr K_12.out hd13)
  clear HB12 S_12 R_12 G_12 Z_12 Y_12 K_12 hd13
  simp only [decide_true]
  go_wp2_with fail
  refine (heldIntS_any _ _ _ 1 _ (by omega) (by omega) (by omega) (own_reads G_13.out)).mono ?_
  rintro e _ ⟨rfl, rfl⟩
  go_wp2_with fail
  go_ret
  exact ⟨rfl, HB13.out⟩
end Go.Proofs.Ytieopadbbciciaa
