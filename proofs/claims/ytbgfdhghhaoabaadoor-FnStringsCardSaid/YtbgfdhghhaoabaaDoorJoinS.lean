/- JoinStrings: both sides compute one value. -/
import Derived.Test.YtbgfdhghhaoabaaDoorJoinT
import Derived.Test.YtbgfdhghhaoabaaDoorQuiet
import Derived.Test.YtbgfdhghhaoabaaDoorRowX
namespace Go.Proofs.YtbgfdhghhaoabaaDoor
open Go.RowKit

def hasB (s : ByteArray) (c : UInt8) : Bool := decide (c ∈ s.data.toList)
theorem hasB_at {s : ByteArray} {i : Nat} (h : i < s.size) : s[i] ∈ s.data.toList := by
  have : s[i] = s.data.toList[i]'(by simpa using h) := by simp; rfl
  rw [this]
  exact List.getElem_mem _
theorem hasB_no {s : ByteArray} {c : UInt8} (h : ∀ i (hi : i < s.size), s[i] ≠ c) : hasB s c = false := by
  rw [hasB, decide_eq_false_iff_not]
  intro hm
  obtain ⟨i, hi, e⟩ := List.getElem_of_mem hm
  have hi2 : i < s.size := by simpa using hi
  exact h i hi2 (by rw [← e]; simp; rfl)
theorem indexByte_has (l : List UInt8) (c : UInt8) : decide (0 ≤ Lib.indexByte l c) = decide (c ∈ l) := by
  rw [decide_eq_decide]
  induction l with
  | nil => simp [Lib.indexByte]
  | cons b l ih =>
    have hge := Lib.indexByte_ge l c
    by_cases hb : b = c
    · subst hb; simp [Lib.indexByte]
    · have hb2 : ¬ c = b := fun e => hb e.symm
      have hb3 : (b == c) = false := by simp [hb]
      rw [List.mem_cons, Lib.indexByte, hb3]
      simp only [hb2, false_or, Bool.false_eq_true, if_false]
      rw [← ih]
      by_cases h9 : Lib.indexByte l c = -1
      · simp [h9]
      · have h8 : (Lib.indexByte l c == -1) = false := by simp [h9]
        rw [h8]
        simp only [Bool.false_eq_true, if_false]
        omega
theorem joinTo_len {zs : List ByteArray} {sep : ByteArray} : ∀ k, k ≤ zs.length → (joinTo zs sep k).size = lensTo zs k + (k - 1) * sep.size := by
  intro k
  induction k with
  | zero => intro _; rw [joinTo_zero, lensTo_zero, show (0 - 1) = 0 from rfl, Nat.zero_mul]; rfl
  | succ k ih =>
    intro hk
    rw [lensTo_succ (by omega)]
    rcases Nat.eq_zero_or_pos k with h0 | h0
    · subst h0; rw [joinTo_one (by omega), lensTo_zero]; simp
    · rw [joinTo_succ (by omega) h0, ByteArray.size_append, ByteArray.size_append, ih (by omega), show k + 1 - 1 = (k - 1) + 1 by omega, Nat.add_mul]
      omega
def joinAt (zs : List ByteArray) (c : UInt8) (i : Nat) : Bool := !hasB (zs.getD i .empty) c
theorem joinAt_of {zs : List ByteArray} {c : UInt8} {i : Nat} (h : i < zs.length) : joinAt zs c i = !hasB zs[i] c := by simp [joinAt, List.getD, h]
def joinOk (zs : List ByteArray) (sep : ByteArray) : Bool := if h : sep.size = 1 then decide (zs ≠ []) && allB zs.length (joinAt zs sep[0]) && decide (lensTo zs zs.length + (zs.length - 1) ≤ 4000) else false
def joinF (zs : List ByteArray) (sep : ByteArray) : ByteArray × Bool := if joinOk zs sep = true then (joinB zs sep, true) else (⟨#[]⟩, false)
theorem joinF_no {zs : List ByteArray} {sep : ByteArray} (h : joinOk zs sep = false) : joinF zs sep = (⟨#[]⟩, false) := by simp [joinF, h]
set_option maxHeartbeats 1000000 in
theorem l1Stands_any (s : ByteArray) (c : UInt8) (w : World) (hm : s.size ≤ maxLen) : Calls Tryd.prog 42 #[.string s, .int .u8 (c.toNat : Int)] w fun e w' => e = .returned (.bool (hasB s c)) ∧ w = w' := by
  unfold maxLen at hm
  go_enter Tryd.func42, Tryd.ntmps42
  go_wp2_with fail
  go_loop [5] (fun i => ∃ k : Nat, k ≤ s.size ∧ i = .int .i64 k ∧ Hid (∀ j (hj : j < s.size), j < k → s[j] ≠ c)) (fun i => s.size - (intOf i).toNat)
  case atStart => exact ⟨0, Nat.zero_le _, rfl, Lib.hid (fun j hj h => by omega)⟩
  case round =>
    obtain ⟨k, hk, rfl, ht⟩ := hrel
    by_cases hlt : k < s.size
    · by_cases he : s[k] = c
      · have hP := Lib.hid (show hasB s c = true by rw [hasB, decide_eq_true_eq, ← he]; exact hasB_at hlt)
        have hb : ((s[k].toNat : Int) == (c.toNat : Int)) = true := by simp [he]
        clear he
        go_wp2_with fail
        go_ret
        exact ⟨ret_bool hP.out.symm, rfl⟩
      · have hP : Hid (∀ j (hj : j < s.size), j < k + 1 → s[j] ≠ c) := Lib.hid (fun j hj h => by
          by_cases e : j = k
          · subst e; exact he
          · exact ht.out j hj (by omega))
        have hb : ((s[k].toNat : Int) == (c.toNat : Int)) = false := by
          rw [beq_eq_false_iff_ne]
          intro e
          exact he (UInt8.toNat_inj.1 (by omega))
        clear he
        go_wp2_with fail
        go_round
        case rel => exact ⟨k + 1, by omega, by go_num, hP⟩
        case measure => simp [intOf]; omega
    · have hP := Lib.hid (hasB_no (fun i hi => ht.out i hi (by omega)))
      go_wp2_with fail
      go_ret
      exact ⟨ret_bool hP.out.symm, rfl⟩
theorem contains_any (s sep : ByteArray) (h1 : sep.size = 1) (g0 : 0 < sep.size) (w : World) : Calls Tryd.prog 45 #[.string s, .string sep] w fun e w' => e = .returned (.bool (hasB s sep[0])) ∧ w = w' := by
  obtain ⟨⟨l⟩⟩ := sep
  match l, h1 with
  | [c], _ =>
    refine (Tryd.strings_Contains_one s c w).mono ?_
    rintro e w' ⟨rfl, rfl⟩
    exact ⟨ret_bool (by rw [indexByte_has]; rfl), rfl⟩
set_option maxRecDepth 100000 in
set_option maxHeartbeats 4000000 in
theorem specJoin_any (a : Option Addr) (cap : Nat) (zs : List ByteArray) (sep : ByteArray) (w : World) (hm : zs.length ≤ 1048576) (hz : ∀ z ∈ zs, z.size ≤ 1048576) (hs : sep.size ≤ 1048576) (hr : Reads w a (strs zs)) :
    Calls Tryd.prog 27 #[.slice a zs.length cap, .string sep] w fun e w' => e = .returned (.tuple #[.string (joinF zs sep).1, .bool (joinF zs sep).2]) ∧ Dr w w' := by
  have HR := Lib.hid hr
  have HZ := Lib.hid hz
  clear hr hz
  by_cases h1 : sep.size = 1
  rotate_left
  · have HF := Lib.hid (joinF_no (zs := zs) (sep := sep) (by rw [joinOk, dif_neg h1]))
    have hb : (((sep.size : Nat) : Int) != 1) = true := by simp; omega
    clear h1
    go_enter Tryd.func27, Tryd.ntmps27
    go_wp2_with fail
    go_ret2
    exact ⟨by rw [HF.out]; rfl, Dr.refl _⟩
  have hb : (((sep.size : Nat) : Int) != 1) = false := by simp; omega
  by_cases h2 : zs = []
  · have HF := Lib.hid (joinF_no (zs := zs) (sep := sep) (by rw [joinOk, dif_pos h1]; simp [h2]))
    have hb2 : (((zs.length : Nat) : Int) == 0) = true := by simp [h2]
    clear h1 h2
    go_enter Tryd.func27, Tryd.ntmps27
    go_wp2_with fail
    go_ret2
    exact ⟨by rw [HF.out]; rfl, Dr.refl _⟩
  have hpos : 0 < zs.length := by cases zs with | nil => exact absurd rfl h2 | cons => simp
  have hb2 : (((zs.length : Nat) : Int) == 0) = false := by simp; omega
  have g0 : 0 < sep.size := by omega
  have g1 : (0 : Int) < (sep.size : Int) := by omega
  have g2 : sep.size ≤ 1 := by omega
  have hdef := Lib.hid (show joinOk zs sep = (allB zs.length (joinAt zs sep[0]) && decide (lensTo zs zs.length + (zs.length - 1) ≤ 4000)) by rw [joinOk, dif_pos h1]; simp [h2])
  have HJ := Lib.hid (fun k (hk : k ≤ zs.length) => by have := joinTo_len (sep := sep) k hk; rw [h1, Nat.mul_one] at this; exact this)
  have HM := Lib.hid (fun k (hk : k ≤ zs.length) => lensTo_mono zs hk (Nat.le_refl _))
  clear h1 h2
  go_enter Tryd.func27, Tryd.ntmps27
  go_wp2_with fail
  go_loopw [6, 7] (fun q i wr => ∃ k : Nat, k ≤ zs.length ∧ i = .int .i64 k ∧ q = .string (joinTo zs sep k) ∧ (joinTo zs sep k).size ≤ 4000 ∧ Hid (allB k (joinAt zs sep[0]) = true) ∧ Dr w wr) (fun _ i _ => zs.length - (intOf i).toNat)
  case atStart => exact ⟨0, Nat.zero_le _, rfl, rfl, by rw [joinTo_zero]; exact Nat.zero_le _, allB_zero _, Dr.refl _⟩
  case round =>
    obtain ⟨k, hk, rfl, rfl, hsz, ht, hdr⟩ := hrel
    by_cases hlt : k < zs.length
    · rcases HR.out.dr hdr with h0 | ⟨b, off, rfl, hb3, hc⟩
      · simp [strs] at h0; subst h0; simp at hlt
      have hc1 := hc k _ (strs_get hlt)
      have sz := HZ.out _ (List.getElem_mem hlt)
      have hC := fun w => l1Stands_any zs[k] sep[0] w (by unfold maxLen; omega)
      have HDR := Lib.hid hdr
      clear hc hdr
      cases hh : hasB zs[k] sep[0]
      · rw [hh] at hC
        have HC := Lib.hid hC
        have hP := Lib.hid (allB_step ht.out (show joinAt zs sep[0] k = true by rw [joinAt_of hlt, hh]; rfl))
        have hj := HJ.out (k + 1) (by omega)
        rcases Nat.eq_zero_or_pos k with h0 | h0
        · subst h0
          simp only [Nat.add_zero] at hc1
          have hst := Lib.hid (joinTo_one (sep := sep) hlt)
          have hz0 := Lib.hid (joinTo_zero zs sep)
          have hst2 := Lib.hid (show (⟨#[]⟩ : ByteArray) ++ zs[0] = zs[0] by apply ByteArray.ext; simp [ByteArray.data_append])
          by_cases hbig : 4000 < zs[0].size
          · have HF := Lib.hid (joinF_no (zs := zs) (sep := sep) (by
              have h7 := HM.out 1 (by omega)
              have h8 := HJ.out 1 (by omega)
              rw [hst.out] at h8
              rw [hdef.out, show decide (lensTo zs zs.length + (zs.length - 1) ≤ 4000) = false by simp; omega]; simp))
            clear hC hh hj hsz
            go_wp2_with fail
            go_quiet ((go_at_call 42; exact quiet_same (HC.out _)))
            rw [hz0.out]
            go_wp2_with fail
            go_ret2
            exact ⟨by rw [HF.out]; rfl, HDR.out.trans (Dr.of _ _)⟩
          · have hle : zs[0].size ≤ 4000 := by omega
            clear hC hh hj hsz hbig
            go_wp2_with fail
            go_quiet ((go_at_call 42; exact quiet_same (HC.out _)))
            rw [hz0.out]
            go_wp2_with fail
            go_roundw
            case rel => exact ⟨1, by omega, by go_num, by rw [hst.out, hst2.out], by rw [hst.out]; exact hle, hP, HDR.out.trans (Dr.of _ _)⟩
            case measure => simp [intOf]; omega
        · have hst := Lib.hid (joinTo_succ (sep := sep) hlt h0)
          have hd : decide (0 < k) = true := by simp [h0]
          have hsl : (joinTo zs sep k ++ sep ++ zs[k]).size = (joinTo zs sep k).size + sep.size + zs[k].size := by rw [ByteArray.size_append, ByteArray.size_append]
          have HSL := Lib.hid hsl
          by_cases hbig : 4000 < (joinTo zs sep k).size + sep.size + zs[k].size
          · have HF := Lib.hid (joinF_no (zs := zs) (sep := sep) (by
              have h7 := HM.out (k + 1) (by omega)
              have h8 := HJ.out (k + 1) (by omega)
              rw [hst.out, hsl] at h8
              rw [hdef.out, show decide (lensTo zs zs.length + (zs.length - 1) ≤ 4000) = false by simp; omega]; simp))
            clear hC hh hj hsl
            go_wp2_with fail
            go_quiet ((go_at_call 42; exact quiet_same (HC.out _)))
            go_wp2_with fail
            go_ret2
            exact ⟨by rw [HF.out]; rfl, HDR.out.trans (Dr.of _ _)⟩
          · have hle : (joinTo zs sep k).size + sep.size + zs[k].size ≤ 4000 := by omega
            clear hC hh hj hsl hbig
            go_wp2_with fail
            go_quiet ((go_at_call 42; exact quiet_same (HC.out _)))
            go_wp2_with fail
            go_roundw
            case rel => exact ⟨k + 1, by omega, by go_num, by rw [hst.out], by rw [hst.out, HSL.out]; exact hle, hP, HDR.out.trans (Dr.of _ _)⟩
            case measure => simp [intOf]; omega
      · rw [hh] at hC
        have HC := Lib.hid hC
        have hP := Lib.hid (allB_no hlt (show joinAt zs sep[0] k = false by rw [joinAt_of hlt, hh]; rfl))
        have HF := Lib.hid (joinF_no (zs := zs) (sep := sep) (by rw [hdef.out, hP.out]; rfl))
        clear hC hh hsz
        go_wp2_with fail
        go_quiet ((go_at_call 42; exact quiet_same (HC.out _)))
        go_wp2_with fail
        go_ret2
        exact ⟨by rw [HF.out]; rfl, HDR.out.trans (Dr.of _ _)⟩
    · obtain rfl : k = zs.length := by omega
      have HF := Lib.hid (show joinF zs sep = (joinTo zs sep zs.length, true) by
        have h8 := HJ.out zs.length (Nat.le_refl _)
        rw [joinF, if_pos, joinTo_all]
        rw [hdef.out, ht.out, show decide (lensTo zs zs.length + (zs.length - 1) ≤ 4000) = true by simp; omega]; rfl)
      clear hsz
      go_wp2_with fail
      go_ret2
      exact ⟨by rw [HF.out]; rfl, hdr⟩
set_option maxRecDepth 100000 in
set_option maxHeartbeats 4000000 in
theorem implJoin_any (a : Option Addr) (cap : Nat) (zs : List ByteArray) (sep : ByteArray) (w : World) (hcap : zs.length ≤ cap) (hm : zs.length ≤ 1048576) (hz : ∀ z ∈ zs, z.size ≤ 1048576) (_ : sep.size ≤ 1048576) (hr : Reads w a (strs zs)) :
    Calls Tryd.prog 26 #[.slice a zs.length cap, .string sep] w fun e w' => e = .returned (.tuple #[.string (joinF zs sep).1, .bool (joinF zs sep).2]) ∧ Below w.heap.size w w' := by
  have HR := Lib.hid hr
  have HZ := Lib.hid hz
  clear hr hz
  by_cases h2 : zs = []
  · have HF := Lib.hid (joinF_no (zs := zs) (sep := sep) (by rw [joinOk]; split <;> simp [h2]))
    have hb2 : (((zs.length : Nat) : Int) == 0) = true := by simp [h2]
    clear h2
    go_enter Tryd.func26, Tryd.ntmps26
    go_wp2_with fail
    go_ret2
    exact ⟨by rw [HF.out]; rfl, Below.refl _ _⟩
  have hpos : 0 < zs.length := by cases zs with | nil => exact absurd rfl h2 | cons => simp
  have hb2 : (((zs.length : Nat) : Int) == 0) = false := by simp; omega
  by_cases h1 : sep.size = 1
  rotate_left
  · have HF := Lib.hid (joinF_no (zs := zs) (sep := sep) (by rw [joinOk, dif_neg h1]))
    have hb : (((sep.size : Nat) : Int) != 1) = true := by simp; omega
    clear h1 h2
    go_enter Tryd.func26, Tryd.ntmps26
    go_wp2_with fail
    go_ret2
    exact ⟨by rw [HF.out]; rfl, Below.refl _ _⟩
  have hb : (((sep.size : Nat) : Int) != 1) = false := by simp; omega
  have g0 : 0 < sep.size := by omega
  have hdef := Lib.hid (show joinOk zs sep = (allB zs.length (joinAt zs sep[0]) && decide (lensTo zs zs.length + (zs.length - 1) ≤ 4000)) by rw [joinOk, dif_pos h1]; simp [h2])
  have HJ := Lib.hid (show (joinB zs sep).size = lensTo zs zs.length + (zs.length - 1) by have := joinTo_len (sep := sep) zs.length (Nat.le_refl _); rw [h1, Nat.mul_one, joinTo_all] at this; exact this)
  have HM := Lib.hid (fun k (hk : k ≤ zs.length) => lensTo_mono zs hk (Nat.le_refl _))
  have HCN := Lib.hid (fun s w => contains_any s sep h1 g0 w)
  clear h1 h2
  go_enter Tryd.func26, Tryd.ntmps26
  go_wp2_with fail
  go_loop [6, 22] (fun q i => ∃ k : Nat, k ≤ zs.length ∧ i = .int .i64 k ∧ q = .int .i64 ((zs.length : Int) - 1 + (lensTo zs k : Int)) ∧ (k = 0 ∨ (zs.length : Int) - 1 + (lensTo zs k : Int) ≤ 4000) ∧ Hid (allB k (joinAt zs sep[0]) = true)) (fun _ i => zs.length - (intOf i).toNat)
  case atStart => exact ⟨0, Nat.zero_le _, rfl, by rw [lensTo_zero]; simp, .inl rfl, allB_zero _⟩
  case round =>
    obtain ⟨k, hk, rfl, rfl, hle, ht⟩ := hrel
    have hle2 : (zs.length : Int) - 1 + (lensTo zs k : Int) ≤ 1048576 + 4000 := by
      rcases hle with rfl | h
      · rw [lensTo_zero]; simp; omega
      · omega
    by_cases hlt : k < zs.length
    · rcases HR.out with h0 | ⟨b, off, rfl, hb3, hc⟩
      · simp [strs] at h0; subst h0; simp at hlt
      have hc1 := hc k _ (strs_get hlt)
      have sz := HZ.out _ (List.getElem_mem hlt)
      have hst := Lib.hid (lensTo_succ hlt)
      have hC := fun w => HCN.out zs[k] w
      clear hc hle
      cases hh : hasB zs[k] sep[0]
      · rw [hh] at hC
        have HC := Lib.hid hC
        have hP := Lib.hid (allB_step ht.out (show joinAt zs sep[0] k = true by rw [joinAt_of hlt, hh]; rfl))
        clear hC hh
        by_cases hbig : 4000 < (zs.length : Int) - 1 + (lensTo zs k : Int) + (zs[k].size : Int)
        · have HF := Lib.hid (joinF_no (zs := zs) (sep := sep) (by
            have h7 := HM.out (k + 1) (by omega)
            rw [hst.out] at h7
            rw [hdef.out, show decide (lensTo zs zs.length + (zs.length - 1) ≤ 4000) = false by simp; omega]; simp))
          go_wp2_with fail
          refine (HC.out _).mono ?_
          rintro e _ ⟨rfl, rfl⟩
          go_wp2_with fail
          go_ret2
          exact ⟨by rw [HF.out]; rfl, Below.refl _ _⟩
        · have hle3 : (zs.length : Int) - 1 + (lensTo zs k : Int) + (zs[k].size : Int) ≤ 4000 := by omega
          clear hbig
          go_wp2_with fail
          refine (HC.out _).mono ?_
          rintro e _ ⟨rfl, rfl⟩
          go_wp2_with fail
          go_round
          case rel => exact ⟨k + 1, by omega, by go_num, by rw [hst.out]; go_num, .inr (by rw [hst.out]; omega), hP⟩
          case measure => simp [intOf]; omega
      · rw [hh] at hC
        have HC := Lib.hid hC
        have hP := Lib.hid (allB_no hlt (show joinAt zs sep[0] k = false by rw [joinAt_of hlt, hh]; rfl))
        have HF := Lib.hid (joinF_no (zs := zs) (sep := sep) (by rw [hdef.out, hP.out]; rfl))
        clear hC hh
        go_wp2_with fail
        refine (HC.out _).mono ?_
        rintro e _ ⟨rfl, rfl⟩
        go_wp2_with fail
        go_ret2
        exact ⟨by rw [HF.out]; rfl, Below.refl _ _⟩
    · obtain rfl : k = zs.length := by omega
      have hle4 : lensTo zs zs.length + (zs.length - 1) ≤ 4000 := by
        rcases hle with h | h
        · omega
        · omega
      have HF := Lib.hid (show joinF zs sep = (joinB zs sep, true) by
        rw [joinF, if_pos]
        rw [hdef.out, ht.out, show decide (lensTo zs zs.length + (zs.length - 1) ≤ 4000) = true by simp; omega]; rfl)
      have HJN := Lib.hid (fun w hr => join_any a cap zs sep w hr hcap hm (by rw [HJ.out]; omega))
      clear hle hle4
      go_wp2_with fail
      refine (HJN.out _ HR.out).mono ?_
      rintro e w1 ⟨rfl, hbb⟩
      have HB := Lib.hid hbb
      clear hbb
      go_wp2_with fail
      go_ret2
      exact ⟨by rw [HF.out]; rfl, HB.out⟩
end Go.Proofs.YtbgfdhghhaoabaaDoor
