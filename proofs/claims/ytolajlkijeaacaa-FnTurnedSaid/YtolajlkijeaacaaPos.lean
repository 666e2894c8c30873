/- Positions of a watermark: joined, undone, named. -/
import Derived.Test.YtolajlkijeaacaaArgs
import Derived.Test.YtolajlkijeaacaaScalar
import Derived.Test.YtolajlkijeaacaaQuiet
namespace Go.Proofs.Ytolajlkijeaacaa
open Go.RowKit

def joinF (a b : Int) : Int := 4 * ((a / 4 + b / 4) % 2) + (b % 4 + (if 4 ≤ b then 4 - a % 4 else a % 4)) % 4
def undoF (a : Int) : Int := if a < 4 then (4 - a) % 4 else a
theorem joinF_bd {a b : Int} (_ : 0 ≤ a) (_ : a ≤ 7) (_ : 0 ≤ b) (_ : b ≤ 7) : 0 ≤ joinF a b ∧ joinF a b ≤ 7 := by unfold joinF; split <;> omega
theorem joinF_impl1 {a b : Int} (h1 : 0 ≤ a) (h2 : a ≤ 7) (h3 : 0 ≤ b) (h4 : b < 4) : joinF a b = a / 4 * 4 + (a + b) % 4 := by unfold joinF; rw [if_neg (by omega)]; omega
theorem joinF_impl2 {a b : Int} (h1 : 0 ≤ a) (h2 : a ≤ 7) (h3 : 4 ≤ b) (h4 : b ≤ 7) : joinF a b = (1 - a / 4) * 4 + (b - a) % 4 := by unfold joinF; rw [if_pos (by omega)]; omega
theorem joinF_zero {a b : Int} (h1 : 0 ≤ a) (h2 : a ≤ 7) (h3 : 0 ≤ b) (h4 : b ≤ 7) : joinF a b = 0 ↔ b = undoF a := by
  unfold joinF undoF; split <;> split <;> omega
theorem undoF_bd {a : Int} (h1 : 0 ≤ a) (h2 : a ≤ 7) : 0 ≤ undoF a ∧ undoF a ≤ 7 := by unfold undoF; split <;> omega
theorem tmod4 (x : Int) (h1 : -100 ≤ x) (h2 : x ≤ 100) : (x.tmod 4 + 4) % 4 = x % 4 ∧ 0 ≤ x.tmod 4 + 4 ∧ x.tmod 4 + 4 ≤ 8 ∧ -4 ≤ x.tmod 4 ∧ x.tmod 4 ≤ 4 := by
  rcases Int.lt_or_le x 0 with h | h
  · obtain ⟨y, rfl⟩ : ∃ y : Int, x = -y := ⟨-x, by omega⟩
    rw [Int.neg_tmod, Int.tmod_eq_emod_of_nonneg (by omega)]
    omega
  · rw [Int.tmod_eq_emod_of_nonneg h]
    omega
theorem modulo_any (x : Int) (w : World) (h1 : -100 ≤ x) (h2 : x ≤ 100) : Calls Try.prog 40 #[.int .i64 x, .int .i64 4] w fun e w' => e = .returned (.int .i64 (x % 4)) ∧ w = w' := by
  obtain ⟨e1, e2, e3, e4, e5⟩ := tmod4 x h1 h2
  have H1 := Lib.hid e1
  clear e1
  go_enter Try.func40, Try.ntmps40
  go_wp2
  go_ret
  exact ⟨ret_int (by first | exact H1.out | omega), rfl⟩
theorem joinPositions_any (a b : Int) (w : World) (h1 : 0 ≤ a) (h2 : a ≤ 7) (h3 : 0 ≤ b) (h4 : b ≤ 7) : Calls Try.prog 27 #[.int .i64 a, .int .i64 b] w fun e w' => e = .returned (.int .i64 (joinF a b)) ∧ w = w' := by
  by_cases hb : b < 4
  · rw [joinF_impl1 h1 h2 h3 hb]
    go_enter Try.func27, Try.ntmps27
    go_wp2_with (go_at_call 40; refine (modulo_any _ _ (by omega) (by omega)).mono ?_; rintro e w' ⟨rfl, rfl⟩)
    go_ret
    exact ⟨rfl, rfl⟩
  · rw [joinF_impl2 h1 h2 (by omega) h4]
    go_enter Try.func27, Try.ntmps27
    go_wp2_with (go_at_call 40; refine (modulo_any _ _ (by omega) (by omega)).mono ?_; rintro e w' ⟨rfl, rfl⟩)
    go_ret
    exact ⟨rfl, rfl⟩
theorem l3Join_any (a b : Int) (w : World) (h1 : 0 ≤ a) (h2 : a ≤ 7) (h3 : 0 ≤ b) (h4 : b ≤ 7) : Calls Try.prog 29 #[.int .i64 a, .int .i64 b] w fun e w' => e = .returned (.int .i64 (joinF a b)) ∧ w = w' := by
  unfold joinF
  by_cases hb : 4 ≤ b
  · rw [if_pos hb]
    go_enter Try.func29, Try.ntmps29
    go_wp2
    go_ret
    exact ⟨ret_int (by omega), rfl⟩
  · rw [if_neg hb]
    go_enter Try.func29, Try.ntmps29
    go_wp2
    go_ret
    exact ⟨ret_int (by omega), rfl⟩
theorem l3Position_any (a : Int) (w : World) : Calls Try.prog 28 #[.int .i64 a] w fun e w' => e = .returned (.bool (inB a 0 7)) ∧ w = w' := by
  go_enter Try.func28, Try.ntmps28
  go_wp2_with (go_at_call 41; refine (l1In_any _ _ _ _).mono ?_; rintro e w' ⟨rfl, rfl⟩)
  go_ret
  exact ⟨rfl, rfl⟩
def posJoin (a b : Int) : Int × Bool := if inB a 0 7 = true ∧ inB b 0 7 = true then (joinF a b, true) else (0, false)
def posUndo (a : Int) : Int × Bool := if inB a 0 7 = true then (undoF a, true) else (0, false)
def posBack (a : Int) : Int × Bool := if inB a 0 7 = true then (joinF a 4, true) else (0, false)
theorem specJoin_any (a b : Int) (w : World) : Calls Try.prog 8 #[.int .i64 a, .int .i64 b] w fun e w' => e = .returned (.tuple #[.int .i64 (posJoin a b).1, .bool (posJoin a b).2]) ∧ w = w' := by
  cases e1 : inB a 0 7 <;> cases e2 : inB b 0 7
  case true.true =>
    rw [show posJoin a b = (joinF a b, true) by simp [posJoin, e1, e2]]
    have q1 := inB_true.1 e1
    have q2 := inB_true.1 e2
    obtain ⟨h1, h2⟩ := q1
    obtain ⟨h3, h4⟩ := q2
    go_enter Try.func8, Try.ntmps8
    go_wp2_with (first | (go_at_call 28; refine (l3Position_any _ _).mono ?_; rintro e w' ⟨rfl, rfl⟩) | (go_at_call 29; refine (l3Join_any _ _ _ h1 h2 h3 h4).mono ?_; rintro e w' ⟨rfl, rfl⟩))
    go_ret2
    exact ⟨rfl, rfl⟩
  all_goals
    rw [show posJoin a b = (0, false) by simp [posJoin, e1, e2]]
    go_enter Try.func8, Try.ntmps8
    go_wp2_with (first | (go_at_call 28; refine (l3Position_any _ _).mono ?_; rintro e w' ⟨rfl, rfl⟩))
    go_ret2
    exact ⟨rfl, rfl⟩
theorem implJoin_any (a b : Int) (w : World) : Calls Try.prog 7 #[.int .i64 a, .int .i64 b] w fun e w' => e = .returned (.tuple #[.int .i64 (posJoin a b).1, .bool (posJoin a b).2]) ∧ w = w' := by
  cases e1 : inB a 0 7 <;> cases e2 : inB b 0 7
  case true.true =>
    rw [show posJoin a b = (joinF a b, true) by simp [posJoin, e1, e2]]
    have q1 := inB_true.1 e1
    have q2 := inB_true.1 e2
    obtain ⟨h1, h2⟩ := q1
    obtain ⟨h3, h4⟩ := q2
    go_enter Try.func7, Try.ntmps7
    go_wp2_with (first | (go_at_call 26; refine (inRange_any _ _ _ _).mono ?_; rintro e w' ⟨rfl, rfl⟩) | (go_at_call 27; refine (joinPositions_any _ _ _ h1 h2 h3 h4).mono ?_; rintro e w' ⟨rfl, rfl⟩))
    go_ret2
    exact ⟨rfl, rfl⟩
  all_goals
    rw [show posJoin a b = (0, false) by simp [posJoin, e1, e2]]
    go_enter Try.func7, Try.ntmps7
    go_wp2_with (first | (go_at_call 26; refine (inRange_any _ _ _ _).mono ?_; rintro e w' ⟨rfl, rfl⟩))
    go_ret2
    exact ⟨rfl, rfl⟩
theorem specBack_any (a : Int) (w : World) : Calls Try.prog 13 #[.int .i64 a] w fun e w' => e = .returned (.tuple #[.int .i64 (posBack a).1, .bool (posBack a).2]) ∧ w = w' := by
  cases e1 : inB a 0 7
  · rw [show posBack a = (0, false) by simp [posBack, e1]]
    go_enter Try.func13, Try.ntmps13
    go_wp2_with (first | (go_at_call 28; refine (l3Position_any _ _).mono ?_; rintro e w' ⟨rfl, rfl⟩))
    go_ret2
    exact ⟨rfl, rfl⟩
  · rw [show posBack a = (joinF a 4, true) by simp [posBack, e1]]
    obtain ⟨h1, h2⟩ := inB_true.1 e1
    go_enter Try.func13, Try.ntmps13
    go_wp2_with (first | (go_at_call 28; refine (l3Position_any _ _).mono ?_; rintro e w' ⟨rfl, rfl⟩) | (go_at_call 29; refine (l3Join_any _ _ _ h1 h2 (by omega) (by omega)).mono ?_; rintro e w' ⟨rfl, rfl⟩))
    go_ret2
    exact ⟨rfl, rfl⟩
theorem implBack_any (a : Int) (w : World) : Calls Try.prog 12 #[.int .i64 a] w fun e w' => e = .returned (.tuple #[.int .i64 (posBack a).1, .bool (posBack a).2]) ∧ w = w' := by
  cases e1 : inB a 0 7
  · rw [show posBack a = (0, false) by simp [posBack, e1]]
    go_enter Try.func12, Try.ntmps12
    go_wp2_with (first | (go_at_call 26; refine (inRange_any _ _ _ _).mono ?_; rintro e w' ⟨rfl, rfl⟩))
    go_ret2
    exact ⟨rfl, rfl⟩
  · rw [show posBack a = (joinF a 4, true) by simp [posBack, e1]]
    obtain ⟨h1, h2⟩ := inB_true.1 e1
    go_enter Try.func12, Try.ntmps12
    go_wp2_with (first | (go_at_call 26; refine (inRange_any _ _ _ _).mono ?_; rintro e w' ⟨rfl, rfl⟩) | (go_at_call 27; refine (joinPositions_any _ _ _ h1 h2 (by omega) (by omega)).mono ?_; rintro e w' ⟨rfl, rfl⟩))
    go_ret2
    exact ⟨rfl, rfl⟩
theorem specUndo_any (a : Int) (w : World) : Calls Try.prog 11 #[.int .i64 a] w fun e w' => e = .returned (.tuple #[.int .i64 (posUndo a).1, .bool (posUndo a).2]) ∧ w = w' := by
  cases e1 : inB a 0 7
  · rw [show posUndo a = (0, false) by simp [posUndo, e1]]
    go_enter Try.func11, Try.ntmps11
    go_wp2_with (first | (go_at_call 28; refine (l3Position_any _ _).mono ?_; rintro e w' ⟨rfl, rfl⟩))
    go_ret2
    exact ⟨rfl, rfl⟩
  · rw [show posUndo a = (undoF a, true) by simp [posUndo, e1]]
    obtain ⟨h1, h2⟩ := inB_true.1 e1
    obtain ⟨u1, u2⟩ := undoF_bd h1 h2
    go_enter Try.func11, Try.ntmps11
    go_wp2_with (first | (go_at_call 28; refine (l3Position_any _ _).mono ?_; rintro e w' ⟨rfl, rfl⟩))
    go_loop [4] (fun i => ∃ k : Nat, (k : Int) ≤ undoF a ∧ k ≤ 7 ∧ i = .int .i64 k) (fun i => 8 - (intOf i).toNat)
    case atStart => exact ⟨0, u1, by omega, rfl⟩
    case round =>
      obtain ⟨k, hk1, hk, rfl⟩ := hrel
      by_cases hlt : k < 7
      · have hz := joinF_zero h1 h2 (b := (k : Int)) (by omega) (by omega)
        by_cases hu : (k : Int) = undoF a
        · have hj : (joinF a k == 0) = true := by rw [beq_iff_eq]; exact hz.2 hu
          have HU := Lib.hid hu
          clear hz hu
          go_wp2_with (first | (go_at_call 29; refine (l3Join_any _ _ _ h1 h2 (by omega) (by omega)).mono ?_; rintro e w' ⟨rfl, rfl⟩))
          go_ret2
          exact ⟨by rw [← HU.out]; rfl, rfl⟩
        · have hj : (joinF a k == 0) = false := by rw [beq_eq_false_iff_ne]; exact fun h => hu (hz.1 h)
          have hk3 : (k : Int) + 1 ≤ undoF a := by omega
          clear hz hu
          go_wp2_with (first | (go_at_call 29; refine (l3Join_any _ _ _ h1 h2 (by omega) (by omega)).mono ?_; rintro e w' ⟨rfl, rfl⟩))
          go_round
          case rel => exact ⟨k + 1, by omega, by omega, by go_num⟩
          case measure => simp [intOf]; omega
      · have HU := Lib.hid (show undoF a = 7 by omega)
        go_wp2
        go_ret2
        exact ⟨by rw [HU.out]; rfl, rfl⟩
theorem implUndo_any (a : Int) (w : World) : Calls Try.prog 10 #[.int .i64 a] w fun e w' => e = .returned (.tuple #[.int .i64 (posUndo a).1, .bool (posUndo a).2]) ∧ w = w' := by
  cases e1 : inB a 0 7
  · rw [show posUndo a = (0, false) by simp [posUndo, e1]]
    go_enter Try.func10, Try.ntmps10
    go_wp2_with (first | (go_at_call 26; refine (inRange_any _ _ _ _).mono ?_; rintro e w' ⟨rfl, rfl⟩))
    go_ret2
    exact ⟨rfl, rfl⟩
  · rw [show posUndo a = (undoF a, true) by simp [posUndo, e1]]
    obtain ⟨h1, h2⟩ := inB_true.1 e1
    obtain ⟨u1, u2⟩ := undoF_bd h1 h2
    go_enter Try.func10, Try.ntmps10
    go_wp2_with (first | (go_at_call 26; refine (inRange_any _ _ _ _).mono ?_; rintro e w' ⟨rfl, rfl⟩))
    go_loop [8] (fun i => ∃ k : Nat, (k : Int) ≤ undoF a ∧ k ≤ 7 ∧ i = .int .i64 k) (fun i => 8 - (intOf i).toNat)
    case atStart => exact ⟨0, u1, by omega, rfl⟩
    case round =>
      obtain ⟨k, hk1, hk, rfl⟩ := hrel
      have hz := joinF_zero h1 h2 (b := (k : Int)) (by omega) (by omega)
      by_cases hu : (k : Int) = undoF a
      · have hj : (joinF a k == 0) = true := by rw [beq_iff_eq]; exact hz.2 hu
        have HU := Lib.hid hu
        clear hz hu
        go_wp2_with (first | (go_at_call 27; refine (joinPositions_any _ _ _ h1 h2 (by omega) (by omega)).mono ?_; rintro e w' ⟨rfl, rfl⟩))
        go_ret2
        exact ⟨by rw [← HU.out]; rfl, rfl⟩
      · have hj : (joinF a k == 0) = false := by rw [beq_eq_false_iff_ne]; exact fun h => hu (hz.1 h)
        have hk3 : (k : Int) + 1 ≤ undoF a := by omega
        clear hz hu
        go_wp2_with (first | (go_at_call 27; refine (joinPositions_any _ _ _ h1 h2 (by omega) (by omega)).mono ?_; rintro e w' ⟨rfl, rfl⟩))
        go_round
        case rel => exact ⟨k + 1, by omega, by omega, by go_num⟩
        case measure => simp [intOf]; omega
end Go.Proofs.Ytolajlkijeaacaa
