/- The law of SameGauges, walked out of the contracts. -/
import Derived.Test.YtidiecffahaojaaCombA
import Derived.Test.YtidiecffahaojaaSameI
namespace Go.Proofs.Ytidiecffahaojaa
open Go.ChangeShapes Go.WideShapes Go.ChangeAt Go.RowKit

set_option maxHeartbeats 2000000 in
theorem FnExactSameGauges_walk {w : World} (x : Slc × List CombT) (h : CombsIn w x.1 x.2) : Calls Try.prog 3 #[x.1.val] w fun e w' => e = .returned (.bool true) ∧ Below w.heap.size w w' := by
  obtain ⟨⟨ad, len, cap⟩, zs⟩ := x
  obtain ⟨hs, hm, hr, _⟩ := h
  simp only at hs hm hr
  subst hs
  have HR := Lib.hid hr
  have HM := Lib.hid hm
  clear hr
  have h1 := fun a c w hm hr => specSame_any a c zs w hm hr
  have h2 := fun a c w hm hr => implSame_any a c zs w hm hr
  have hbd : Hid (∀ rs : List Row2, zss rs = sameF zs → rs.length ≤ 10 ∧ ∀ r ∈ rs, r.zs.length ≤ 10) := Lib.hid (fun rs hrs => by
    unfold sameF at hrs
    cases hok : combsOk zs
    · rw [hok] at hrs
      have : rs = [] := by simpa [zss] using hrs
      subst this; simp
    · rw [hok, if_pos rfl] at hrs
      have hl := combsOk_len hok
      refine ⟨?_, fun r hr => ?_⟩
      · have := sameAll_len zs zs.length
        rw [← hrs] at this
        have h3 : rs.length ≤ zs.length := by simpa [zss] using this
        omega
      · have hm : r.zs ∈ zss rs := List.mem_map.2 ⟨r, hr, rfl⟩
        rw [hrs] at hm
        have := sameAll_in hm
        omega)
  have H1 := Lib.hid h1
  have H2 := Lib.hid h2
  obtain ⟨GG, hGG⟩ : ∃ GG, GG = sameF zs := ⟨_, rfl⟩
  rw [← hGG] at H1 H2 hbd
  clear h1 h2 hGG
  generalize combsOk zs = ok at H1 H2
  by_cases hbig : 1048576 < zs.length
  · have HS := Lib.hid (szCombS_big ad zs.length cap 1048576 w (by omega) (by omega) hm)
    unfold maxLen at hm
    go_enter Try.func3, Try.ntmps3
    go_wp2_with fail
    refine HS.out.mono ?_
    rintro e _ ⟨rfl, rfl⟩
    go_wp2_with fail
    go_ret
    exact ⟨rfl, Below.refl _ _⟩
  · have hle : zs.length ≤ 1048576 := by omega
    have HS := Lib.hid (szCombS_ok ad zs.length cap 1048576 w (by omega) (by omega))
    unfold maxLen at hm
    clear hbig
    have HB0 := Lib.hid (Below.refl w.heap.size w)
    go_enter Try.func3, Try.ntmps3
    go_wp2_with fail
    refine (HS.out).mono ?_
    rintro e _ ⟨rfl, rfl⟩
    go_wp2_with fail
    refine (toCombS_any _ _ zs _ (by omega) (HR.out.below HB0.out)).mono ?_
    rintro e w1 ⟨g1, rfl, hgx, hrow, hb⟩
    have ge_S := HB0.out.size
    have HB1 := Lib.hid (HB0.out.trans (hb.mono HB0.out.size))
    clear HB0 hb
    have S_1 := Lib.hid (hrow.owns (base := w.heap.size) (n := zs.length) (sz := 4) (by rw [combs_length]) (by unfold maxLen; omega) hgx)
    clear hrow hgx
    go_wp2_with fail
    refine (H1.out _ _ _ HM.out (own_reads S_1.out)).mono ?_
    rintro e w2 ⟨adR, cpR, rsR, rfl, hzs, hown, hb⟩
    have lt_S_R := Lib.hid (fun q (hq : _ = some q) => (S_1.out.lt q hq).2)
    have ge_R := HB1.out.size
    have HB2 := Lib.hid (HB1.out.trans (hb.mono HB1.out.size))
    have S_2 := Lib.hid (own_below S_1.out hb)
    clear HB1 S_1 hb
    have R_2 := Lib.hid hown
    have HZR := Lib.hid hzs
    clear hown hzs
    have BDR : Hid (rsR.length ≤ 1048576 ∧ ∀ r ∈ rsR, r.zs.length ≤ 1048576) := Lib.hid ⟨Nat.le_trans (hbd.out rsR HZR.out).1 (by omega), fun r hr => Nat.le_trans ((hbd.out rsR HZR.out).2 r hr) (by omega)⟩
    have BOR : Hid (offs rsR rsR.length ≤ 549755813888) := Lib.hid (by have h1 := offs_bd (hbd.out rsR HZR.out).2 rsR.length (Nat.le_refl _); have h2 := (hbd.out rsR HZR.out).1; omega)
    go_wp2_with fail
    refine (toCombS_any _ _ zs _ (by omega) (HR.out.below HB2.out)).mono ?_
    rintro e w3 ⟨g2, rfl, hgx, hrow, hb⟩
    have lt_S_X := Lib.hid (fun q (hq : _ = some q) => (S_2.out.lt q hq).2)
    have ge_X := HB2.out.size
    have lt_R_X := Lib.hid (R_2.out.lt)
    have HB3 := Lib.hid (HB2.out.trans (hb.mono HB2.out.size))
    have S_3 := Lib.hid (own_below S_2.out hb)
    have R_3 := Lib.hid (R_2.out.below hb)
    clear HB2 S_2 hb R_2
    have X_3 := Lib.hid (hrow.owns (base := w2.heap.size) (n := zs.length) (sz := 4) (by rw [combs_length]) (by unfold maxLen; omega) hgx)
    clear hrow hgx
    go_wp2_with fail
    refine (H2.out _ _ _ HM.out (own_reads X_3.out)).mono ?_
    rintro e w4 ⟨adG, cpG, rsG, rfl, hzs, hown, hb⟩
    have lt_S_G := Lib.hid (fun q (hq : _ = some q) => (S_3.out.lt q hq).2)
    have lt_X_G := Lib.hid (fun q (hq : _ = some q) => (X_3.out.lt q hq).2)
    have ge_G := HB3.out.size
    have lt_R_G := Lib.hid (R_3.out.lt)
    have HB4 := Lib.hid (HB3.out.trans (hb.mono HB3.out.size))
    have S_4 := Lib.hid (own_below S_3.out hb)
    have X_4 := Lib.hid (own_below X_3.out hb)
    have R_4 := Lib.hid (R_3.out.below hb)
    clear HB3 S_3 X_3 hb R_3
    have G_4 := Lib.hid hown
    have HZG := Lib.hid hzs
    clear hown hzs
    have BDG : Hid (rsG.length ≤ 1048576 ∧ ∀ r ∈ rsG, r.zs.length ≤ 1048576) := Lib.hid ⟨Nat.le_trans (hbd.out rsG HZG.out).1 (by omega), fun r hr => Nat.le_trans ((hbd.out rsG HZG.out).2 r hr) (by omega)⟩
    have BOG : Hid (offs rsG rsG.length ≤ 549755813888) := Lib.hid (by have h1 := offs_bd (hbd.out rsG HZG.out).2 rsG.length (Nat.le_refl _); have h2 := (hbd.out rsG HZG.out).1; omega)
    go_wp2_with fail
    refine (eqIntSS_any _ _ _ _ _ _ rsG rsR _ BDG.out.1 BDG.out.2 (HZG.out.trans HZR.out.symm) G_4.out R_4.out).mono ?_
    rintro e w5 ⟨rfl, hd⟩
    have HB5 := Lib.hid (HB4.out.trans (hd.below _))
    have S_5 := Lib.hid (own_dr S_4.out hd)
    have X_5 := Lib.hid (own_dr X_4.out hd)
    have R_5 := Lib.hid (R_4.out.dr hd)
    have G_5 := Lib.hid (G_4.out.dr hd)
    clear HB4 S_4 X_4 hd R_4 G_4
    go_wp2_with fail
    refine (toCombS_any _ _ zs _ (by omega) (HR.out.below HB5.out)).mono ?_
    rintro e w6 ⟨g3, rfl, hgx, hrow, hb⟩
    have lt_S_Z := Lib.hid (fun q (hq : _ = some q) => (S_5.out.lt q hq).2)
    have lt_X_Z := Lib.hid (fun q (hq : _ = some q) => (X_5.out.lt q hq).2)
    have ge_Z := HB5.out.size
    have lt_R_Z := Lib.hid (R_5.out.lt)
    have lt_G_Z := Lib.hid (G_5.out.lt)
    have HB6 := Lib.hid (HB5.out.trans (hb.mono HB5.out.size))
    have S_6 := Lib.hid (own_below S_5.out hb)
    have X_6 := Lib.hid (own_below X_5.out hb)
    have R_6 := Lib.hid (R_5.out.below hb)
    have G_6 := Lib.hid (G_5.out.below hb)
    clear HB5 S_5 X_5 hb R_5 G_5
    have Z_6 := Lib.hid (hrow.owns (base := w5.heap.size) (n := zs.length) (sz := 4) (by rw [combs_length]) (by unfold maxLen; omega) hgx)
    clear hrow hgx
    go_wp2_with fail
    refine (eqCombS_any _ _ _ _ zs zs _ HM.out HM.out (own_reads X_6.out) (own_reads Z_6.out)).mono ?_
    rintro e w7 ⟨rfl, hb⟩
    have HB7 := Lib.hid (HB6.out.trans (hb.mono HB6.out.size))
    have S_7 := Lib.hid (own_below S_6.out hb)
    have X_7 := Lib.hid (own_below X_6.out hb)
    have Z_7 := Lib.hid (own_below Z_6.out hb)
    have R_7 := Lib.hid (R_6.out.below hb)
    have G_7 := Lib.hid (G_6.out.below hb)
    clear HB6 S_6 X_6 Z_6 hb R_6 G_6
    simp only [decide_true]
    go_wp2_with fail
    refine (markCombS_any _ _ _ _ _ 1 _ (by omega) (by omega) (by omega) X_7.out).mono ?_
    rintro e w8 ⟨rfl, hg⟩
    have HB8 := Lib.hid (HB7.out.grown hg HB7.out.size (fun q hq => Nat.le_trans ge_X (X_7.out.lt q hq).1))
    have S_8 := Lib.hid (own_kept S_7.out hg (ne_earlier lt_S_X.out X_7.out))
    have Z_8 := Lib.hid (own_kept Z_7.out hg (ne_later lt_X_Z.out Z_7.out))
    have R_8 := Lib.hid (R_7.out.grown_hi hg lt_R_X.out (fun q hq => (X_7.out.lt q hq).1))
    have G_8 := Lib.hid (G_7.out.grown_lo hg lt_X_G.out)
    clear HB7 S_7 X_7 Z_7 hg R_7 G_7
    go_wp2_with fail
    refine (eqIntSS_any _ _ _ _ _ _ rsG rsR _ BDG.out.1 BDG.out.2 (HZG.out.trans HZR.out.symm) G_8.out R_8.out).mono ?_
    rintro e w9 ⟨rfl, hd⟩
    have HB9 := Lib.hid (HB8.out.trans (hd.below _))
    have S_9 := Lib.hid (own_dr S_8.out hd)
    have Z_9 := Lib.hid (own_dr Z_8.out hd)
    have R_9 := Lib.hid (R_8.out.dr hd)
    have G_9 := Lib.hid (G_8.out.dr hd)
    clear HB8 S_8 Z_8 hd R_8 G_8
    go_wp2_with fail
    refine (markIntSS_any _ _ _ rsG 1 _ (by omega) (by omega) BOG.out G_9.out).mono ?_
    rintro e w10 ⟨rfl, hown, hb⟩
    have HB10 := Lib.hid (HB9.out.trans (hb.mono ge_G))
    have S_10 := Lib.hid (own_under S_9.out hb lt_S_G.out)
    have R_10 := Lib.hid (R_9.out.far hb lt_R_G.out.1 lt_R_G.out.2)
    have G_10 := Lib.hid hown
    clear HB9 S_9 R_9 G_9 Z_9 hb hown
    go_wp2_with fail
    refine (heldIntSS_any _ _ _ rsG 1 _ (by omega) (by omega) BOG.out G_10.out).mono ?_
    rintro e _ ⟨rfl, rfl⟩
    go_wp2_with fail
    refine (toCombS_any _ _ zs _ (by omega) (HR.out.below HB10.out)).mono ?_
    rintro e w11 ⟨g4, rfl, hgx, hrow, hb⟩
    have lt_S_Y := Lib.hid (fun q (hq : _ = some q) => (S_10.out.lt q hq).2)
    have ge_Y := HB10.out.size
    have lt_R_Y := Lib.hid (R_10.out.lt)
    have lt_G_Y := Lib.hid (G_10.out.lt)
    have HB11 := Lib.hid (HB10.out.trans (hb.mono HB10.out.size))
    have S_11 := Lib.hid (own_below S_10.out hb)
    have R_11 := Lib.hid (R_10.out.below hb)
    have G_11 := Lib.hid (G_10.out.below hb)
    clear HB10 S_10 hb R_10 G_10
    have Y_11 := Lib.hid (hrow.owns (base := w10.heap.size) (n := zs.length) (sz := 4) (by rw [combs_length]) (by unfold maxLen; omega) hgx)
    clear hrow hgx
    go_wp2_with fail
    refine (H2.out _ _ _ HM.out (own_reads Y_11.out)).mono ?_
    rintro e w12 ⟨adK, cpK, rsK, rfl, hzs, hown, hb⟩
    have lt_S_K := Lib.hid (fun q (hq : _ = some q) => (S_11.out.lt q hq).2)
    have lt_Y_K := Lib.hid (fun q (hq : _ = some q) => (Y_11.out.lt q hq).2)
    have ge_K := HB11.out.size
    have lt_R_K := Lib.hid (R_11.out.lt)
    have lt_G_K := Lib.hid (G_11.out.lt)
    have HB12 := Lib.hid (HB11.out.trans (hb.mono HB11.out.size))
    have S_12 := Lib.hid (own_below S_11.out hb)
    have Y_12 := Lib.hid (own_below Y_11.out hb)
    have R_12 := Lib.hid (R_11.out.below hb)
    have G_12 := Lib.hid (G_11.out.below hb)
    clear HB11 S_11 Y_11 hb R_11 G_11
    have K_12 := Lib.hid hown
    have HZK := Lib.hid hzs
    clear hown hzs
    have BDK : Hid (rsK.length ≤ 1048576 ∧ ∀ r ∈ rsK, r.zs.length ≤ 1048576) := Lib.hid ⟨Nat.le_trans (hbd.out rsK HZK.out).1 (by omega), fun r hr => Nat.le_trans ((hbd.out rsK HZK.out).2 r hr) (by omega)⟩
    have BOK : Hid (offs rsK rsK.length ≤ 549755813888) := Lib.hid (by have h1 := offs_bd (hbd.out rsK HZK.out).2 rsK.length (Nat.le_refl _); have h2 := (hbd.out rsK HZK.out).1; omega)
    go_wp2_with fail
    refine (eqIntSS_any _ _ _ _ _ _ rsK rsR _ BDK.out.1 BDK.out.2 (HZK.out.trans HZR.out.symm) K_12.out R_12.out).mono ?_
    rintro e w13 ⟨rfl, hd⟩
    have HB13 := Lib.hid (HB12.out.trans (hd.below _))
    have S_13 := Lib.hid (own_dr S_12.out hd)
    have Y_13 := Lib.hid (own_dr Y_12.out hd)
    have R_13 := Lib.hid (R_12.out.dr hd)
    have G_13 := Lib.hid (G_12.out.dr hd)
    have K_13 := Lib.hid (K_12.out.dr hd)
    clear HB12 S_12 Y_12 hd R_12 G_12 K_12
    go_wp2_with fail
    refine (heldIntSS_any _ _ _ rsG 1 _ (by omega) (by omega) BOG.out G_13.out).mono ?_
    rintro e _ ⟨rfl, rfl⟩
    go_wp2_with fail
    go_ret
    exact ⟨rfl, HB13.out⟩
end Go.Proofs.Ytidiecffahaojaa
