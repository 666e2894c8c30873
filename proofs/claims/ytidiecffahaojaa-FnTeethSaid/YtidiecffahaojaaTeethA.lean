/- Holes: rising numbers within bounds; both sides ask the same. -/
import Derived.Test.YtidiecffahaojaaQuiet
import Derived.Test.YtidiecffahaojaaScalar
namespace Go.Proofs.Ytidiecffahaojaa
open Go.RowKit

/-- number i lies within bounds, and above the one before it -/
def risB (zs : List Int) (lo hi : Int) (i : Nat) : Bool := inB (zs.getD i 0) lo hi && (decide (i = 0) || decide (zs.getD (i - 1) 0 < zs.getD i 0))
def ascB (zs : List Int) (i : Nat) : Bool := decide (i = 0) || decide (zs.getD (i - 1) 0 < zs.getD i 0)
def holesB (zs : List Int) : Bool := inB (zs.length : Int) 2 40 && allB zs.length (risB zs 0 9999)

theorem getD_of {zs : List Int} {k : Nat} (h : k < zs.length) : zs.getD k 0 = zs[k] := by simp [List.getD, h]

set_option maxHeartbeats 1000000 in
theorem l1Rising_any (a : Option Addr) (cap : Nat) (zs : List Int) (lo hi : Int) (w : World) (hm : zs.length ≤ maxLen) (hr : Reads w a (ints zs)) :
    Calls Try.prog 56 #[.slice a zs.length cap, .int .i64 lo, .int .i64 hi] w fun e w' => e = .returned (.bool (allB zs.length (risB zs lo hi))) ∧ Dr w w' := by
  unfold maxLen at hm
  have HR := Lib.hid hr
  clear hr
  go_enter Try.func56, Try.ntmps56
  go_wp2_with fail
  go_loopw [7] (fun i wr => ∃ k : Nat, k ≤ zs.length ∧ i = .int .i64 k ∧ Hid (allB k (risB zs lo hi) = true) ∧ Dr w wr) (fun i _ => zs.length - (intOf i).toNat)
  case atStart => exact ⟨0, Nat.zero_le _, rfl, allB_zero _, Dr.refl _⟩
  case round =>
    obtain ⟨k, hk, rfl, ht, hdr⟩ := hrel
    by_cases hlt : k < zs.length
    · rcases HR.out.dr hdr with h0 | ⟨b, off, rfl, hb, hc⟩
      · simp [ints] at h0; subst h0; simp at hlt
      have hc1 := hc k _ (ints_get hlt)
      have hC := fun w => l1In_any zs[k] lo hi w
      cases hin : inB zs[k] lo hi
      · rw [hin] at hC
        have HC := Lib.hid hC
        have hP := Lib.hid (allB_no hlt (show risB zs lo hi k = false by rw [risB, getD_of hlt, hin]; rfl))
        clear hC hc hin
        go_wp2_with fail
        go_quiet ((go_at_call 51; exact quiet_same (HC.out _)))
        go_wp2
        go_ret
        exact ⟨ret_bool hP.out.symm, hdr.trans (Dr.of _ _)⟩
      · rw [hin] at hC
        have HC := Lib.hid hC
        have HI := Lib.hid hin
        clear hC
        by_cases hk0 : k = 0
        · have hP := Lib.hid (allB_step ht.out (show risB zs lo hi k = true by rw [risB, getD_of hlt, hin]; simp [hk0]))
          have hd : decide (0 < k) = false := by simp; omega
          have hle : k ≤ 0 := by omega
          clear hk0 hc hin
          go_wp2_with fail
          go_quiet ((go_at_call 51; exact quiet_same (HC.out _)))
          go_wp2
          go_roundw
          case rel => exact ⟨k + 1, by omega, by go_num, hP, hdr.trans (Dr.of _ _)⟩
          case measure => simp [intOf]; omega
        · have hk1 : k - 1 < zs.length := by omega
          have hc2 := hc (k - 1) _ (ints_get hk1)
          have hd : decide (0 < k) = true := by simp; omega
          have hpos : 0 < k := by omega
          clear hc hin
          by_cases hgt : zs[k - 1] < zs[k]
          · have hP := Lib.hid (allB_step ht.out (show risB zs lo hi k = true by rw [risB, getD_of hlt, getD_of hk1, HI.out]; simp [hk0, hgt]))
            go_wp2_with fail
            go_quiet ((go_at_call 51; exact quiet_same (HC.out _)))
            go_wp2
            go_roundw
            case rel => exact ⟨k + 1, by omega, by go_num, hP, hdr.trans (Dr.of _ _)⟩
            case measure => simp [intOf]; omega
          · have hle : zs[k] ≤ zs[k - 1] := by omega
            have hP := Lib.hid (allB_no hlt (show risB zs lo hi k = false by rw [risB, getD_of hlt, getD_of hk1, HI.out]; simp [hk0, hgt]))
            clear hgt
            go_wp2_with fail
            go_quiet ((go_at_call 51; exact quiet_same (HC.out _)))
            go_wp2
            go_ret
            exact ⟨ret_bool hP.out.symm, hdr.trans (Dr.of _ _)⟩
    · have heq := Lib.hid (show allB zs.length (risB zs lo hi) = true by rw [show zs.length = k from by omega]; exact ht.out)
      go_wp2
      go_ret
      exact ⟨ret_bool heq.out.symm, hdr⟩
set_option maxHeartbeats 1000000 in
theorem ascending_any (a : Option Addr) (cap : Nat) (zs : List Int) (w : World) (hm : zs.length ≤ maxLen) (hr : Reads w a (ints zs)) :
    Calls Try.prog 55 #[.slice a zs.length cap] w fun e w' => e = .returned (.bool (allB zs.length (ascB zs))) ∧ Dr w w' := by
  unfold maxLen at hm
  have HR := Lib.hid hr
  clear hr
  go_enter Try.func55, Try.ntmps55
  go_wp2
  go_loopw [3] (fun i wr => ∃ k : Nat, 1 ≤ k ∧ (k ≤ 1 ∨ k ≤ zs.length) ∧ i = .int .i64 k ∧ Hid (allB k (ascB zs) = true) ∧ Dr w wr) (fun i _ => zs.length + 1 - (intOf i).toNat)
  case atStart => exact ⟨1, Nat.le_refl _, by omega, rfl, by simp [Hid, allB, ascB], Dr.refl _⟩
  case round =>
    obtain ⟨k, hk1, hk, rfl, ht, hdr⟩ := hrel
    by_cases hlt : k < zs.length
    · rcases HR.out.dr hdr with h0 | ⟨b, off, rfl, hb, hc⟩
      · simp [ints] at h0; subst h0; simp at hlt
      have hc1 := hc k _ (ints_get hlt)
      have hk2 : k - 1 < zs.length := by omega
      have hc2 := hc (k - 1) _ (ints_get hk2)
      have hpos : 0 < k := by omega
      clear hc hk
      by_cases hgt : zs[k - 1] < zs[k]
      · have hP := Lib.hid (allB_step ht.out (show ascB zs k = true by rw [ascB, getD_of hlt, getD_of hk2]; simp [hgt]))
        go_wp2_with fail
        go_quiet (fail)
        go_wp2
        go_roundw
        case rel => exact ⟨k + 1, by omega, by omega, by go_num, hP, hdr.trans (Dr.of _ _)⟩
        case measure => simp [intOf]; omega
      · have hle : zs[k] ≤ zs[k - 1] := by omega
        have hP := Lib.hid (allB_no hlt (show ascB zs k = false by rw [ascB, getD_of hlt, getD_of hk2]; simp [hgt]; omega))
        clear hgt
        go_wp2_with fail
        go_quiet (fail)
        go_wp2
        go_ret
        exact ⟨ret_bool hP.out.symm, hdr.trans (Dr.of _ _)⟩
    · have heq := Lib.hid (show allB zs.length (ascB zs) = true by
        rcases Nat.eq_zero_or_pos zs.length with h0 | h0
        · rw [h0]; rfl
        · rw [show zs.length = k from by omega]; exact ht.out)
      clear hk
      go_wp2
      go_ret
      exact ⟨ret_bool heq.out.symm, hdr⟩
theorem l5Holes_any (a : Option Addr) (cap : Nat) (zs : List Int) (w : World) (hm : zs.length ≤ maxLen) (hr : Reads w a (ints zs)) :
    Calls Try.prog 41 #[.slice a zs.length cap] w fun e w' => e = .returned (.bool (holesB zs)) ∧ Dr w w' := by
  have hC := fun w => l1In_any (zs.length : Int) 2 40 w
  cases hin : inB (zs.length : Int) 2 40
  · rw [hin] at hC
    have HC := Lib.hid hC
    have hP := Lib.hid (show holesB zs = false by rw [holesB, hin]; rfl)
    clear hC hin
    unfold maxLen at hm
    go_enter Try.func41, Try.ntmps41
    go_wp2_with (go_at_call 51; refine (HC.out _).mono ?_; rintro e w' ⟨rfl, rfl⟩)
    go_ret
    exact ⟨ret_bool hP.out.symm, Dr.refl _⟩
  · rw [hin] at hC
    have HC := Lib.hid hC
    have hP := Lib.hid (show holesB zs = allB zs.length (risB zs 0 9999) by rw [holesB, hin]; rfl)
    have HR := Lib.hid (l1Rising_any a cap zs 0 9999 w hm hr)
    clear hC hin hr
    unfold maxLen at hm
    go_enter Try.func41, Try.ntmps41
    go_wp2_with (first | (go_at_call 51; refine (HC.out _).mono ?_; rintro e w' ⟨rfl, rfl⟩) | (go_at_call 56; refine (HR.out).mono ?_; rintro e w' ⟨rfl, hd⟩))
    go_ret
    exact ⟨ret_bool hP.out.symm, hd⟩
theorem asc_le {zs : List Int} (h : allB zs.length (ascB zs) = true) : ∀ j i, i ≤ j → j < zs.length → zs.getD i 0 ≤ zs.getD j 0 := by
  rw [allB_true] at h
  intro j
  induction j with
  | zero => intro i hi _; rw [show i = 0 from by omega]; omega
  | succ j ih =>
    intro i hi hj
    by_cases h2 : i = j + 1
    · subst h2; omega
    · have h3 := ih i (by omega) (by omega)
      have h4 := h (j + 1) hj
      simp only [ascB, Bool.or_eq_true, decide_eq_true_eq] at h4
      rw [show j + 1 - 1 = j from by omega] at h4
      omega
theorem holesB_eq {zs : List Int} (h2 : 2 ≤ zs.length) : allB zs.length (risB zs 0 9999) = (allB zs.length (ascB zs) && decide (0 ≤ zs.getD 0 0) && decide (zs.getD (zs.length - 1) 0 ≤ 9999)) := by
  rw [Bool.eq_iff_iff]
  simp only [Bool.and_eq_true, decide_eq_true_eq]
  constructor
  · intro h
    rw [allB_true] at h
    have hA : ∀ i, i < zs.length → ascB zs i = true := fun i hi => by
      have := h i hi; simp only [risB, Bool.and_eq_true] at this; exact this.2
    have h0 := h 0 (by omega)
    have hl := h (zs.length - 1) (by omega)
    simp only [risB, Bool.and_eq_true, inB_true] at h0 hl
    exact ⟨⟨by rw [allB_true]; exact hA, h0.1.1⟩, hl.1.2⟩
  · rintro ⟨⟨hA, h0⟩, hl⟩
    have hle := asc_le hA
    rw [allB_true] at *
    intro i hi
    have h1 := hle i 0 (by omega) hi
    have h3 := hle (zs.length - 1) i (by omega) (by omega)
    have h4 := hA i hi
    simp only [risB, Bool.and_eq_true, inB_true]
    exact ⟨⟨by omega, by omega⟩, h4⟩
set_option maxHeartbeats 400000 in
theorem areHoles_any (a : Option Addr) (cap : Nat) (zs : List Int) (w : World) (hm : zs.length ≤ maxLen) (hr : Reads w a (ints zs)) :
    Calls Try.prog 39 #[.slice a zs.length cap] w fun e w' => e = .returned (.bool (holesB zs)) ∧ Dr w w' := by
  have hC := fun w => inRange_any (zs.length : Int) 2 40 w
  cases hin : inB (zs.length : Int) 2 40
  · rw [hin] at hC
    have HC := Lib.hid hC
    have hP := Lib.hid (show holesB zs = false by rw [holesB, hin]; rfl)
    clear hC hin
    unfold maxLen at hm
    go_enter Try.func39, Try.ntmps39
    go_wp2_with (go_at_call 47; refine (HC.out _).mono ?_; rintro e w' ⟨rfl, rfl⟩)
    go_ret
    exact ⟨ret_bool hP.out.symm, Dr.refl _⟩
  · rw [hin] at hC
    have HC := Lib.hid hC
    have h2 : 2 ≤ zs.length := by rw [inB_true] at hin; omega
    have hP0 : holesB zs = (allB zs.length (ascB zs) && decide (0 ≤ zs.getD 0 0) && decide (zs.getD (zs.length - 1) 0 ≤ 9999)) := by
      rw [holesB, hin, Bool.true_and, holesB_eq h2]
    rw [getD_of (show 0 < zs.length by omega), getD_of (show zs.length - 1 < zs.length by omega)] at hP0
    have hA := ascending_any a cap zs w hm hr
    rcases hr with h0 | ⟨b, off, rfl, hb, hc⟩
    · simp [ints] at h0; subst h0; simp at h2
    have hc0 := hc 0 _ (ints_get (show 0 < zs.length by omega))
    have hc1 := hc (zs.length - 1) _ (ints_get (show zs.length - 1 < zs.length by omega))
    rw [Nat.add_zero] at hc0
    cases hasc : allB zs.length (ascB zs)
    · rw [hasc] at hA hP0
      have HA := Lib.hid hA
      have hP := Lib.hid hP0
      clear hA hP0 hasc hC hin hc hc0 hc1
      unfold maxLen at hm
      go_enter Try.func39, Try.ntmps39
      go_wp2_with (first | (go_at_call 47; refine (HC.out _).mono ?_; rintro e w' ⟨rfl, rfl⟩) | (go_at_call 55; refine (HA.out).mono ?_; rintro e w' ⟨rfl, n, rfl⟩))
      go_ret
      exact ⟨ret_bool hP.out.symm, Dr.of _ _⟩
    · rw [hasc] at hA hP0
      have HA := Lib.hid hA
      have hP := Lib.hid hP0
      clear hA hP0 hasc hC hin hc
      unfold maxLen at hm
      by_cases q0 : 0 ≤ zs[0]
      · by_cases q1 : zs[zs.length - 1] ≤ 9999
        all_goals
          go_enter Try.func39, Try.ntmps39
          go_wp2_with (first | (go_at_call 47; refine (HC.out _).mono ?_; rintro e w' ⟨rfl, rfl⟩) | (go_at_call 55; refine (HA.out).mono ?_; rintro e w' ⟨rfl, n, rfl⟩))
          go_ret
          exact ⟨ret_bool (by rw [hP.out]; simp [*]), Dr.of _ _⟩
      · go_enter Try.func39, Try.ntmps39
        go_wp2_with (first | (go_at_call 47; refine (HC.out _).mono ?_; rintro e w' ⟨rfl, rfl⟩) | (go_at_call 55; refine (HA.out).mono ?_; rintro e w' ⟨rfl, n, rfl⟩))
        go_ret
        exact ⟨ret_bool (by rw [hP.out]; simp; omega), Dr.of _ _⟩
end Go.Proofs.Ytidiecffahaojaa
