/- ValueOf: both sides compute one value. -/
import Derived.Test.YtieopadbbciciaaStampC
namespace Go.Proofs.Ytieopadbbciciaa
open Go.RowKit

def vAt (zs : List StampT) (fr : List Int) (i : Nat) : Bool := inB (fr.getD i 0) 0 ((zs.length : Int) - 1) && (decide (i = 0) || decide (fr.getD (i - 1) 0 ≤ fr.getD i 0))
def valTo (zs : List StampT) (fr : List Int) : Nat → Int
  | 0 => 0
  | k + 1 => valTo zs fr k + (zs.getD (fr.getD k 0).toNat stamp0).face
def valF (zs : List StampT) (fr : List Int) : Int × Bool := if (stampsOk zs && decide (fr.length ≤ 40) && allB fr.length (vAt zs fr)) = true then (valTo zs fr fr.length, true) else (0, false)
theorem getD_ofS {zs : List Int} {k : Nat} (h : k < zs.length) : zs.getD k 0 = zs[k] := by simp [List.getD, h]
theorem valTo_bd {zs : List StampT} (fr : List Int) (hz : stampsOk zs = true) : ∀ k, 0 ≤ valTo zs fr k ∧ valTo zs fr k ≤ 9999 * k := by
  intro k
  induction k with
  | zero => simp [valTo]
  | succ k ih =>
    rw [valTo]
    by_cases h : (fr.getD k 0).toNat < zs.length
    · have := (stampOk_bd (stampsOk_at hz h)).2.1
      rw [stamp_getD h]
      omega
    · rw [show zs.getD (fr.getD k 0).toNat stamp0 = stamp0 from by rw [List.getD, List.getElem?_eq_none (show zs.length ≤ (fr.getD k 0).toNat by omega)]; rfl]
      simp only [stamp0]
      omega
set_option maxRecDepth 100000 in
set_option maxHeartbeats 2000000 in
theorem specValueOf_any (a a2 : Option Addr) (cap cap2 : Nat) (zs : List StampT) (fr : List Int) (w : World) (hm : zs.length ≤ maxLen) (hm2 : fr.length ≤ maxLen) (hr : Reads w a (stamps zs)) (hr2 : Reads w a2 (ints fr)) :
    Calls Try.prog 28 #[.slice a zs.length cap, .slice a2 fr.length cap2] w fun e w' => e = .returned (.tuple #[.int .i64 (valF zs fr).1, .bool (valF zs fr).2]) ∧ Below w.heap.size w w' := by
  have hA := l2Stamps_any a cap zs w hm hr
  unfold maxLen at hm hm2
  cases e1 : stampsOk zs
  · rw [e1] at hA
    have HA := Lib.hid hA
    rw [show valF zs fr = (0, false) by simp [valF, e1]]
    clear hA hr hr2
    go_enter Try.func28, Try.ntmps28
    go_wp2_with fail
    refine HA.out.mono ?_
    rintro e w1 ⟨rfl, hb⟩
    have HB := Lib.hid hb
    clear hb
    go_wp2_with fail
    go_ret2
    exact ⟨rfl, HB.out⟩
  rw [e1] at hA
  have HA := Lib.hid hA
  by_cases e2 : 40 < fr.length
  · rw [show valF zs fr = (0, false) by simp [valF, show ¬ fr.length ≤ 40 by omega]]
    clear hA hr hr2
    go_enter Try.func28, Try.ntmps28
    go_wp2_with fail
    refine HA.out.mono ?_
    rintro e w1 ⟨rfl, hb⟩
    have HB := Lib.hid hb
    clear hb
    go_wp2_with fail
    go_ret2
    exact ⟨rfl, HB.out⟩
  have hle40 : fr.length ≤ 40 := by omega
  have h12 := stampsOk_len e1
  have HZ := Lib.hid e1
  have HR := Lib.hid hr
  have HR2 := Lib.hid hr2
  clear hA hr hr2 e1 e2
  go_enter Try.func28, Try.ntmps28
  go_wp2_with fail
  refine HA.out.mono ?_
  rintro e w1 ⟨rfl, hb⟩
  have HB1 := Lib.hid hb
  clear hb
  go_wp2_with fail
  go_loopw [6, 7] (fun q i wr => ∃ k : Nat, k ≤ fr.length ∧ i = .int .i64 k ∧ q = .int .i64 (valTo zs fr k) ∧ Hid (allB k (vAt zs fr) = true) ∧ Below w.heap.size w wr) (fun _ i _ => fr.length - (intOf i).toNat)
  case atStart => exact ⟨0, Nat.zero_le _, rfl, rfl, allB_zero _, HB1.out⟩
  case round =>
    obtain ⟨k, hk, rfl, rfl, ht, hbel⟩ := hrel
    have HB := Lib.hid hbel
    obtain ⟨b1, b2⟩ := valTo_bd fr HZ.out k
    by_cases hlt : k < fr.length
    · rcases HR2.out.below hbel with h0 | ⟨b, bo, rfl, hb2, hc⟩
      · simp [ints] at h0; subst h0; simp at hlt
      have hc1 := hc k _ (ints_get hlt)
      cases hin : inB fr[k] 0 ((zs.length : Int) - 1)
      · have hP := Lib.hid (allB_no hlt (show vAt zs fr k = false by rw [vAt, getD_ofS hlt, hin]; rfl))
        have hout : fr[k] < 0 ∨ (zs.length : Int) ≤ fr[k] := by
          by_cases hx : fr[k] < 0
          · exact .inl hx
          · by_cases hy : (zs.length : Int) ≤ fr[k]
            · exact .inr hy
            · exfalso; rw [inB_true.2 ⟨by omega, by omega⟩] at hin; cases hin
        clear hc hbel
        rcases hout with hout | hout
        · have hkk := hk
          go_wp2_with fail
          go_ret2
          exact ⟨by rw [show valF zs fr = (0, false) by simp [valF, hP.out]]; rfl, HB.out⟩
        · have hkk := hk
          go_wp2_with fail
          go_ret2
          exact ⟨by rw [show valF zs fr = (0, false) by simp [valF, hP.out]]; rfl, HB.out⟩
      · obtain ⟨r1, r2⟩ := inB_true.1 hin
        obtain ⟨m, hmk⟩ : ∃ m : Nat, fr[k] = m := ⟨fr[k].toNat, by omega⟩
        have hml : m < zs.length := by omega
        rcases HR.out.below hbel with h0 | ⟨c, co, rfl, hb3, hd⟩
        · have := stamps_length zs; rw [h0] at this; simp at this; omega
        obtain ⟨g0, g1, g2, g3⟩ := stamps_get hml
        have hd0 := hd _ _ g0
        have hd1 := hd _ _ g1
        have hd2 := hd _ _ g2
        have hd3 := hd _ _ g3
        simp only [← Nat.add_assoc] at hd1 hd2 hd3
        have hv := (stampOk_bd (stampsOk_at HZ.out hml)).2.1
        obtain ⟨v1, v2⟩ := hv
        have HV := Lib.hid (show valTo zs fr (k + 1) = valTo zs fr k + zs[m].face by rw [valTo, getD_ofS hlt, hmk, Int.toNat_natCast, stamp_getD hml])
        rw [hmk] at hc1
        clear hd g0 g1 g2 g3 hbel r1 r2
        by_cases hk0 : k = 0
        · have hP := Lib.hid (allB_step ht.out (show vAt zs fr k = true by rw [vAt, getD_ofS hlt, hin]; simp [hk0]))
          have hdk : decide (0 < k) = false := by simp; omega
          have hle : k ≤ 0 := by omega
          clear hk0 hc hin hmk
          go_wp2_with fail
          go_roundw
          case rel => exact ⟨k + 1, by omega, by go_num, by rw [HV.out], hP, HB.out⟩
          case measure => simp [intOf]; omega
        · have hk1 : k - 1 < fr.length := by omega
          have hc2 := hc (k - 1) _ (ints_get hk1)
          have hdk : decide (0 < k) = true := by simp; omega
          have hpos : 0 < k := by omega
          by_cases hgt : fr[k - 1] ≤ fr[k]
          · have hP := Lib.hid (allB_step ht.out (show vAt zs fr k = true by rw [vAt, getD_ofS hlt, getD_ofS hk1, hin]; simp [hk0, hgt]))
            rw [hmk] at hgt
            clear hc hin hmk hk0
            go_wp2_with fail
            go_roundw
            case rel => exact ⟨k + 1, by omega, by go_num, by rw [HV.out], hP, HB.out⟩
            case measure => simp [intOf]; omega
          · have hP := Lib.hid (allB_no hlt (show vAt zs fr k = false by rw [vAt, getD_ofS hlt, getD_ofS hk1, hin]; simp [hk0, hgt]))
            have hgt2 : (m : Int) < fr[k - 1] := by rw [← hmk]; omega
            clear hc hin hmk hk0 hgt
            go_wp2_with fail
            go_ret2
            exact ⟨by rw [show valF zs fr = (0, false) by simp [valF, hP.out]]; rfl, HB.out⟩
    · have hk2 : k = fr.length := by omega
      have hF := Lib.hid (show valF zs fr = (valTo zs fr k, true) by simp only [valF, HZ.out]; rw [hk2] at ht; simp [ht.out, hle40, hk2])
      clear hk2
      go_wp2_with fail
      go_ret2
      exact ⟨by rw [hF.out]; rfl, hbel⟩
set_option maxRecDepth 100000 in
set_option maxHeartbeats 2000000 in
theorem implValueOf_any (a a2 : Option Addr) (cap cap2 : Nat) (zs : List StampT) (fr : List Int) (w : World) (hm : zs.length ≤ maxLen) (hm2 : fr.length ≤ maxLen) (hr : Reads w a (stamps zs)) (hr2 : Reads w a2 (ints fr)) :
    Calls Try.prog 21 #[.slice a zs.length cap, .slice a2 fr.length cap2] w fun e w' => e = .returned (.tuple #[.int .i64 (valF zs fr).1, .bool (valF zs fr).2]) ∧ Below w.heap.size w w' := by
  have hA := areStamps_any a cap zs w hm hr
  unfold maxLen at hm hm2
  cases e1 : stampsOk zs
  · rw [e1] at hA
    have HA := Lib.hid hA
    rw [show valF zs fr = (0, false) by simp [valF, e1]]
    clear hA hr hr2
    go_enter Try.func21, Try.ntmps21
    go_wp2_with fail
    refine HA.out.mono ?_
    rintro e w1 ⟨rfl, hb⟩
    have HB := Lib.hid hb
    clear hb
    go_wp2_with fail
    go_ret2
    exact ⟨rfl, HB.out⟩
  rw [e1] at hA
  have HA := Lib.hid hA
  by_cases e2 : 40 < fr.length
  · rw [show valF zs fr = (0, false) by simp [valF, show ¬ fr.length ≤ 40 by omega]]
    clear hA hr hr2
    go_enter Try.func21, Try.ntmps21
    go_wp2_with fail
    refine HA.out.mono ?_
    rintro e w1 ⟨rfl, hb⟩
    have HB := Lib.hid hb
    clear hb
    go_wp2_with fail
    go_ret2
    exact ⟨rfl, HB.out⟩
  have hle40 : fr.length ≤ 40 := by omega
  have h12 := stampsOk_len e1
  have HZ := Lib.hid e1
  have HR := Lib.hid hr
  have HR2 := Lib.hid hr2
  clear hA hr hr2 e1 e2
  go_enter Try.func21, Try.ntmps21
  go_wp2_with fail
  refine HA.out.mono ?_
  rintro e w1 ⟨rfl, hb⟩
  have HB1 := Lib.hid hb
  clear hb
  go_wp2_with fail
  go_loopw [6, 19] (fun q i wr => ∃ k : Nat, k ≤ fr.length ∧ i = .int .i64 k ∧ q = .int .i64 (valTo zs fr k) ∧ Hid (allB k (vAt zs fr) = true) ∧ Below w.heap.size w wr) (fun _ i _ => fr.length - (intOf i).toNat)
  case atStart => exact ⟨0, Nat.zero_le _, rfl, rfl, allB_zero _, HB1.out⟩
  case round =>
    obtain ⟨k, hk, rfl, rfl, ht, hbel⟩ := hrel
    have HB := Lib.hid hbel
    obtain ⟨b1, b2⟩ := valTo_bd fr HZ.out k
    by_cases hlt : k < fr.length
    · rcases HR2.out.below hbel with h0 | ⟨b, bo, rfl, hb2, hc⟩
      · simp [ints] at h0; subst h0; simp at hlt
      have hc1 := hc k _ (ints_get hlt)
      have hC := fun w => inRange_any fr[k] 0 ((zs.length : Int) - 1) w
      cases hin : inB fr[k] 0 ((zs.length : Int) - 1)
      · have hP := Lib.hid (allB_no hlt (show vAt zs fr k = false by rw [vAt, getD_ofS hlt, hin]; rfl))
        have hout : fr[k] < 0 ∨ (zs.length : Int) ≤ fr[k] := by
          by_cases hx : fr[k] < 0
          · exact .inl hx
          · by_cases hy : (zs.length : Int) ≤ fr[k]
            · exact .inr hy
            · exfalso; rw [inB_true.2 ⟨by omega, by omega⟩] at hin; cases hin
        rw [hin] at hC
        have HC := Lib.hid hC
        clear hC
        clear hc hbel
        rcases hout with hout | hout
        · have hkk := hk
          go_wp2_with fail
          refine (HC.out _).mono ?_
          rintro e _ ⟨rfl, rfl⟩
          go_wp2_with fail
          go_ret2
          exact ⟨by rw [show valF zs fr = (0, false) by simp [valF, hP.out]]; rfl, HB.out⟩
        · have hkk := hk
          go_wp2_with fail
          refine (HC.out _).mono ?_
          rintro e _ ⟨rfl, rfl⟩
          go_wp2_with fail
          go_ret2
          exact ⟨by rw [show valF zs fr = (0, false) by simp [valF, hP.out]]; rfl, HB.out⟩
      · obtain ⟨r1, r2⟩ := inB_true.1 hin
        obtain ⟨m, hmk⟩ : ∃ m : Nat, fr[k] = m := ⟨fr[k].toNat, by omega⟩
        have hml : m < zs.length := by omega
        rcases HR.out.below hbel with h0 | ⟨c, co, rfl, hb3, hd⟩
        · have := stamps_length zs; rw [h0] at this; simp at this; omega
        obtain ⟨g0, g1, g2, g3⟩ := stamps_get hml
        have hd0 := hd _ _ g0
        have hd1 := hd _ _ g1
        have hd2 := hd _ _ g2
        have hd3 := hd _ _ g3
        simp only [← Nat.add_assoc] at hd1 hd2 hd3
        have hv := (stampOk_bd (stampsOk_at HZ.out hml)).2.1
        obtain ⟨v1, v2⟩ := hv
        have HV := Lib.hid (show valTo zs fr (k + 1) = valTo zs fr k + zs[m].face by rw [valTo, getD_ofS hlt, hmk, Int.toNat_natCast, stamp_getD hml])
        rw [hmk] at hc1
        rw [hin, hmk] at hC
        have HC := Lib.hid hC
        clear hC
        clear hd g0 g1 g2 g3 hbel r1 r2
        by_cases hk0 : k = 0
        · have hP := Lib.hid (allB_step ht.out (show vAt zs fr k = true by rw [vAt, getD_ofS hlt, hin]; simp [hk0]))
          have hdk : decide (0 < k) = false := by simp; omega
          have hle : k ≤ 0 := by omega
          clear hk0 hc hin hmk
          go_wp2_with fail
          refine (HC.out _).mono ?_
          rintro e _ ⟨rfl, rfl⟩
          go_wp2_with fail
          go_roundw
          case rel => exact ⟨k + 1, by omega, by go_num, by rw [HV.out], hP, HB.out⟩
          case measure => simp [intOf]; omega
        · have hk1 : k - 1 < fr.length := by omega
          have hc2 := hc (k - 1) _ (ints_get hk1)
          have hdk : decide (0 < k) = true := by simp; omega
          have hpos : 0 < k := by omega
          by_cases hgt : fr[k - 1] ≤ fr[k]
          · have hP := Lib.hid (allB_step ht.out (show vAt zs fr k = true by rw [vAt, getD_ofS hlt, getD_ofS hk1, hin]; simp [hk0, hgt]))
            rw [hmk] at hgt
            clear hc hin hmk hk0
            go_wp2_with fail
            refine (HC.out _).mono ?_
            rintro e _ ⟨rfl, rfl⟩
            go_wp2_with fail
            go_roundw
            case rel => exact ⟨k + 1, by omega, by go_num, by rw [HV.out], hP, HB.out⟩
            case measure => simp [intOf]; omega
          · have hP := Lib.hid (allB_no hlt (show vAt zs fr k = false by rw [vAt, getD_ofS hlt, getD_ofS hk1, hin]; simp [hk0, hgt]))
            have hgt2 : (m : Int) < fr[k - 1] := by rw [← hmk]; omega
            clear hc hin hmk hk0 hgt
            go_wp2_with fail
            refine (HC.out _).mono ?_
            rintro e _ ⟨rfl, rfl⟩
            go_wp2_with fail
            go_ret2
            exact ⟨by rw [show valF zs fr = (0, false) by simp [valF, hP.out]]; rfl, HB.out⟩
    · have hk2 : k = fr.length := by omega
      have hF := Lib.hid (show valF zs fr = (valTo zs fr k, true) by simp only [valF, HZ.out]; rw [hk2] at ht; simp [ht.out, hle40, hk2])
      clear hk2
      go_wp2_with fail
      go_ret2
      exact ⟨by rw [hF.out]; rfl, hbel⟩
end Go.Proofs.Ytieopadbbciciaa
