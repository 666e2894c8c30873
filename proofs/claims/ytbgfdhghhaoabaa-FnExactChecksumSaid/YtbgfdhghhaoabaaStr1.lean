/- LessString and Checksum: both sides compute one value. -/
import Derived.Test.YtbgfdhghhaoabaaScalar
namespace Go.Proofs.Ytbgfdhghhaoabaa
open Go.RowKit

theorem ret_two {a b c d : Value} (h1 : a = c) (h2 : b = d) : Ending.returned (.tuple #[a, b]) = .returned (.tuple #[c, d]) := by rw [h1, h2]
theorem specLess_any (a b : ByteArray) (w : World) : Calls Try.prog 7 #[.string a, .string b] w fun e w' => e = .returned (.bool (Op.bytesLess a.toList b.toList)) ∧ w = w' := by
  go_enter Try.func7, Try.ntmps7
  go_wp2
  go_ret
  exact ⟨rfl, rfl⟩
theorem implLess_any (a b : ByteArray) (w : World) : Calls Try.prog 8 #[.string a, .string b] w fun e w' => e = .returned (.bool (Op.bytesLess a.toList b.toList)) ∧ w = w' := by
  go_enter Try.func8, Try.ntmps8
  go_wp2
  go_ret
  exact ⟨rfl, rfl⟩
theorem FnExactLessString_walk (a b : ByteArray) (h1 : a.size ≤ maxLen) (h2 : b.size ≤ maxLen) (w : World) : Calls Try.prog 4 #[.string a, .string b] w fun e w' => e = .returned (.bool true) ∧ Below w.heap.size w w' := by
  have H1 := Lib.hid (fun w => specLess_any a b w)
  have H2 := Lib.hid (fun w => implLess_any a b w)
  unfold maxLen at h1 h2
  generalize Op.bytesLess a.toList b.toList = r at H1 H2
  by_cases l1 : 1048576 < a.size
  · go_enter Try.func4, Try.ntmps4
    go_wp2_with fail
    go_ret
    exact ⟨rfl, Below.refl _ _⟩
  by_cases l2 : 1048576 < b.size
  · go_enter Try.func4, Try.ntmps4
    go_wp2_with fail
    go_ret
    exact ⟨rfl, Below.refl _ _⟩
  go_enter Try.func4, Try.ntmps4
  go_wp2_with (first | (go_at_call 7; refine (H1.out _).mono ?_; rintro e w' ⟨rfl, rfl⟩) | (go_at_call 8; refine (H2.out _).mono ?_; rintro e w' ⟨rfl, rfl⟩))
  go_ret
  exact ⟨rfl, Below.refl _ _⟩
/-- the checksum of the first k bytes -/
def sumTo (s : ByteArray) : Nat → Int
  | 0 => 7
  | k + 1 => if h : k < s.size then (41 * sumTo s k + (s[k].toNat : Int) + 1) % 999979 else sumTo s k
theorem sumTo_bd (s : ByteArray) (k : Nat) : 0 ≤ sumTo s k ∧ sumTo s k ≤ 999978 := by
  induction k with
  | zero => simp [sumTo]
  | succ k ih =>
    rw [sumTo]
    split
    · omega
    · exact ih
theorem sumTo_succ {s : ByteArray} {k : Nat} (h : k < s.size) : sumTo s (k + 1) = (41 * sumTo s k + (s[k].toNat : Int) + 1) % 999979 := by rw [sumTo, dif_pos h]
def sumF (s : ByteArray) : Int := sumTo s s.size
set_option maxHeartbeats 400000 in
theorem l1Sum_any (s : ByteArray) (w : World) (hm : s.size ≤ maxLen) : Calls Try.prog 16 #[.string s] w fun e w' => e = .returned (.int .i64 (sumF s)) ∧ w = w' := by
  unfold maxLen at hm
  go_enter Try.func16, Try.ntmps16
  go_wp2
  go_loop [3, 4] (fun q i => ∃ k : Nat, k ≤ s.size ∧ i = .int .i64 k ∧ q = .int .i64 (sumTo s k)) (fun _ i => s.size - (intOf i).toNat)
  case atStart => exact ⟨0, Nat.zero_le _, rfl, rfl⟩
  case round =>
    obtain ⟨k, hk, rfl, rfl⟩ := hrel
    obtain ⟨b1, b2⟩ := sumTo_bd s k
    by_cases hlt : k < s.size
    · have hs := Lib.hid (sumTo_succ hlt)
      have hb := s[k].toNat_lt
      go_wp2
      go_round
      case rel => exact ⟨k + 1, by omega, by go_num, by rw [hs.out]⟩
      case measure => simp [intOf]; omega
    · obtain rfl : k = s.size := by omega
      go_wp2
      go_ret
      exact ⟨rfl, rfl⟩
set_option maxHeartbeats 400000 in
theorem specChecksum_any (s : ByteArray) (w : World) (hm : s.size ≤ maxLen) : Calls Try.prog 9 #[.string s] w fun e w' => e = .returned (.tuple #[.int .i64 (if s.size ≤ 4000 then sumF s else 0), .bool (decide (s.size ≤ 4000))]) ∧ w = w' := by
  have HS := Lib.hid (fun w => l1Sum_any s w hm)
  unfold maxLen at hm
  by_cases h : s.size ≤ 4000
  · simp only [h, if_true, decide_true]
    go_enter Try.func9, Try.ntmps9
    go_wp2_with (go_at_call 16; refine (HS.out _).mono ?_; rintro e w' ⟨rfl, rfl⟩)
    go_ret2
    exact ⟨rfl, rfl⟩
  · simp only [h, if_false, decide_false]
    go_enter Try.func9, Try.ntmps9
    go_wp2_with fail
    go_ret2
    exact ⟨rfl, rfl⟩
set_option maxHeartbeats 400000 in
theorem implChecksum_any (s : ByteArray) (w : World) (hm : s.size ≤ maxLen) : Calls Try.prog 10 #[.string s] w fun e w' => e = .returned (.tuple #[.int .i64 (if s.size ≤ 4000 then sumF s else 0), .bool (decide (s.size ≤ 4000))]) ∧ w = w' := by
  unfold maxLen at hm
  by_cases h : s.size ≤ 4000
  · simp only [h, if_true, decide_true]
    go_enter Try.func10, Try.ntmps10
    go_wp2
    go_loop [4, 11] (fun q i => ∃ k : Nat, k ≤ s.size ∧ i = .int .i64 k ∧ q = .int .i64 (sumTo s k)) (fun _ i => s.size - (intOf i).toNat)
    case atStart => exact ⟨0, Nat.zero_le _, rfl, rfl⟩
    case round =>
      obtain ⟨k, hk, rfl, rfl⟩ := hrel
      obtain ⟨b1, b2⟩ := sumTo_bd s k
      by_cases hlt : k < s.size
      · have hs := Lib.hid (sumTo_succ hlt)
        have hb := s[k].toNat_lt
        go_wp2
        go_round
        case rel => exact ⟨k + 1, by omega, by go_num, by rw [hs.out]⟩
        case measure => simp [intOf]; omega
      · obtain rfl : k = s.size := by omega
        go_wp2
        go_ret2
        exact ⟨rfl, rfl⟩
  · simp only [h, if_false, decide_false]
    go_enter Try.func10, Try.ntmps10
    go_wp2_with fail
    go_ret2
    exact ⟨rfl, rfl⟩
theorem FnExactChecksum_walk (s : ByteArray) (hm : s.size ≤ maxLen) (w : World) : Calls Try.prog 5 #[.string s] w fun e w' => e = .returned (.bool true) ∧ Below w.heap.size w w' := by
  have H1 := Lib.hid (fun w => specChecksum_any s w hm)
  have H2 := Lib.hid (fun w => implChecksum_any s w hm)
  generalize (if s.size ≤ 4000 then sumF s else 0) = r at H1 H2
  generalize decide (s.size ≤ 4000) = r2 at H1 H2
  unfold maxLen at hm
  by_cases l1 : 1048576 < s.size
  · go_enter Try.func5, Try.ntmps5
    go_wp2_with fail
    go_ret
    exact ⟨rfl, Below.refl _ _⟩
  go_enter Try.func5, Try.ntmps5
  go_wp2_with (first | (go_at_call 9; refine (H1.out _).mono ?_; rintro e w' ⟨rfl, rfl⟩) | (go_at_call 10; refine (H2.out _).mono ?_; rintro e w' ⟨rfl, rfl⟩))
  go_ret
  exact ⟨rfl, Below.refl _ _⟩
end Go.Proofs.Ytbgfdhghhaoabaa
