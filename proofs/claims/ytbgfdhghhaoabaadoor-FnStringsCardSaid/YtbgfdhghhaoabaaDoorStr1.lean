/- LessString and Checksum: both sides compute one value. -/
import Derived.Test.YtbgfdhghhaoabaaDoorScalar
namespace Go.Proofs.YtbgfdhghhaoabaaDoor
open Go.RowKit

theorem ret_two {a b c d : Value} (h1 : a = c) (h2 : b = d) : Ending.returned (.tuple #[a, b]) = .returned (.tuple #[c, d]) := by rw [h1, h2]
theorem specLess_any (a b : ByteArray) (w : World) : Calls Tryd.prog 30 #[.string a, .string b] w fun e w' => e = .returned (.bool (Op.bytesLess a.toList b.toList)) ∧ w = w' := by
  go_enter Tryd.func30, Tryd.ntmps30
  go_wp2
  go_ret
  exact ⟨rfl, rfl⟩
theorem implLess_any (a b : ByteArray) (w : World) : Calls Tryd.prog 29 #[.string a, .string b] w fun e w' => e = .returned (.bool (Op.bytesLess a.toList b.toList)) ∧ w = w' := by
  go_enter Tryd.func29, Tryd.ntmps29
  go_wp2
  go_ret
  exact ⟨rfl, rfl⟩
/-- the checksum of the first k bytes -/
def sumTo (s : ByteArray) : Nat → Int
  | 0 => 7
  | k + 1 => if h : k < s.size then (41 * sumTo s k + (s[k].toNat : Int) + 1) % 999979 else sumTo s k
theorem sumTo_bd (s : ByteArray) (k : Nat) : 0 ≤ sumTo s k ∧ sumTo s k ≤ 999978 := by
  induction k with
  | zero => simp [sumTo]
  | succ k ih =>
    rw [sumTo]
    split
    · omega
    · exact ih
theorem sumTo_succ {s : ByteArray} {k : Nat} (h : k < s.size) : sumTo s (k + 1) = (41 * sumTo s k + (s[k].toNat : Int) + 1) % 999979 := by rw [sumTo, dif_pos h]
def sumF (s : ByteArray) : Int := sumTo s s.size
set_option maxHeartbeats 400000 in
theorem l1Sum_any (s : ByteArray) (w : World) (hm : s.size ≤ maxLen) : Calls Tryd.prog 57 #[.string s] w fun e w' => e = .returned (.int .i64 (sumF s)) ∧ w = w' := by
  unfold maxLen at hm
  go_enter Tryd.func57, Tryd.ntmps57
  go_wp2
  go_loop [3, 4] (fun q i => ∃ k : Nat, k ≤ s.size ∧ i = .int .i64 k ∧ q = .int .i64 (sumTo s k)) (fun _ i => s.size - (intOf i).toNat)
  case atStart => exact ⟨0, Nat.zero_le _, rfl, rfl⟩
  case round =>
    obtain ⟨k, hk, rfl, rfl⟩ := hrel
    obtain ⟨b1, b2⟩ := sumTo_bd s k
    by_cases hlt : k < s.size
    · have hs := Lib.hid (sumTo_succ hlt)
      have hb := s[k].toNat_lt
      go_wp2
      go_round
      case rel => exact ⟨k + 1, by omega, by go_num, by rw [hs.out]⟩
      case measure => simp [intOf]; omega
    · obtain rfl : k = s.size := by omega
      go_wp2
      go_ret
      exact ⟨rfl, rfl⟩
set_option maxHeartbeats 400000 in
theorem implChecksum_any (s : ByteArray) (w : World) (hm : s.size ≤ maxLen) : Calls Tryd.prog 44 #[.string s] w fun e w' => e = .returned (.tuple #[.int .i64 (if s.size ≤ 4000 then sumF s else 0), .bool (decide (s.size ≤ 4000))]) ∧ w = w' := by
  unfold maxLen at hm
  by_cases h : s.size ≤ 4000
  · simp only [h, if_true, decide_true]
    go_enter Tryd.func44, Tryd.ntmps44
    go_wp2
    go_loop [4, 11] (fun q i => ∃ k : Nat, k ≤ s.size ∧ i = .int .i64 k ∧ q = .int .i64 (sumTo s k)) (fun _ i => s.size - (intOf i).toNat)
    case atStart => exact ⟨0, Nat.zero_le _, rfl, rfl⟩
    case round =>
      obtain ⟨k, hk, rfl, rfl⟩ := hrel
      obtain ⟨b1, b2⟩ := sumTo_bd s k
      by_cases hlt : k < s.size
      · have hs := Lib.hid (sumTo_succ hlt)
        have hb := s[k].toNat_lt
        go_wp2
        go_round
        case rel => exact ⟨k + 1, by omega, by go_num, by rw [hs.out]⟩
        case measure => simp [intOf]; omega
      · obtain rfl : k = s.size := by omega
        go_wp2
        go_ret2
        exact ⟨rfl, rfl⟩
  · simp only [h, if_false, decide_false]
    go_enter Tryd.func44, Tryd.ntmps44
    go_wp2_with fail
    go_ret2
    exact ⟨rfl, rfl⟩
end Go.Proofs.YtbgfdhghhaoabaaDoor
