/- Words: letters from a to z, one to ten of them; both sides. -/
import Derived.Test.YtmnlkcclcnnhmaaGreatDoorScalar
import Derived.Test.YtmnlkcclcnnhmaaGreatDoorQuiet
namespace Go.Proofs.YtmnlkcclcnnhmaaGreatDoor
open Go.RowKit

def letB (s : ByteArray) (i : Nat) : Bool := if h : i < s.size then decide (97 ≤ s[i].toNat) && decide (s[i].toNat ≤ 122) else false
def wordB (s : ByteArray) : Bool := allB s.size (letB s) && inB (s.size : Int) 1 10
theorem letB_of {s : ByteArray} {i : Nat} (h : i < s.size) : letB s i = (decide (97 ≤ s[i].toNat) && decide (s[i].toNat ≤ 122)) := by simp [letB, h]
set_option maxHeartbeats 400000 in
theorem l2Word_any (s : ByteArray) (w : World) (hm : s.size ≤ maxLen) : Calls Tryz.prog 57 #[.string s] w fun e w' => e = .returned (.bool (wordB s)) ∧ w = w' := by
  unfold maxLen at hm
  go_enter Tryz.func57, Tryz.ntmps57
  go_wp2
  go_loop [3] (fun i => ∃ k : Nat, k ≤ s.size ∧ i = .int .i64 k ∧ Hid (allB k (letB s) = true)) (fun i => s.size - (intOf i).toNat)
  case atStart => exact ⟨0, Nat.zero_le _, rfl, allB_zero _⟩
  case round =>
    obtain ⟨k, hk, rfl, ht⟩ := hrel
    by_cases hlt : k < s.size
    · by_cases h1 : 97 ≤ s[k].toNat
      · by_cases h2 : s[k].toNat ≤ 122
        · have hP := Lib.hid (allB_step ht.out (show letB s k = true by rw [letB_of hlt]; simp [h1, h2]))
          go_wp2
          go_round
          case rel => exact ⟨k + 1, by omega, by go_num, hP⟩
          case measure => simp [intOf]; omega
        · have hP := Lib.hid (allB_no hlt (show letB s k = false by rw [letB_of hlt]; simp [h2]))
          have h3 : 122 < s[k].toNat := by omega
          go_wp2
          go_ret
          exact ⟨ret_bool (by rw [wordB, hP.out]; rfl), rfl⟩
      · have hP := Lib.hid (allB_no hlt (show letB s k = false by rw [letB_of hlt]; simp [h1]))
        have h3 : s[k].toNat < 97 := by omega
        go_wp2
        go_ret
        exact ⟨ret_bool (by rw [wordB, hP.out]; rfl), rfl⟩
    · have heq := Lib.hid (show allB s.size (letB s) = true by rw [show s.size = k from by omega]; exact ht.out)
      go_wp2_with (go_at_call 44; refine (l1In_any _ _ _ _).mono ?_; rintro e w' ⟨rfl, rfl⟩)
      go_ret
      exact ⟨ret_bool (by rw [wordB, heq.out]; rfl), rfl⟩
set_option maxHeartbeats 400000 in
theorem isWord_any (s : ByteArray) (w : World) (hm : s.size ≤ maxLen) : Calls Tryz.prog 55 #[.string s] w fun e w' => e = .returned (.bool (wordB s)) ∧ w = w' := by
  unfold maxLen at hm
  go_enter Tryz.func55, Tryz.ntmps55
  go_wp2
  go_loop [6] (fun i => ∃ k : Nat, k ≤ s.size ∧ i = .int .i64 k ∧ Hid (allB k (letB s) = true)) (fun i => s.size - (intOf i).toNat)
  case atStart => exact ⟨0, Nat.zero_le _, rfl, allB_zero _⟩
  case round =>
    obtain ⟨k, hk, rfl, ht⟩ := hrel
    by_cases hlt : k < s.size
    · by_cases h1 : 97 ≤ s[k].toNat
      · by_cases h2 : s[k].toNat ≤ 122
        · have hP := Lib.hid (allB_step ht.out (show letB s k = true by rw [letB_of hlt]; simp [h1, h2]))
          go_wp2
          go_round
          case rel => exact ⟨k + 1, by omega, by go_num, hP⟩
          case measure => simp [intOf]; omega
        · have hP := Lib.hid (allB_no hlt (show letB s k = false by rw [letB_of hlt]; simp [h2]))
          have h3 : 122 < s[k].toNat := by omega
          go_wp2
          go_ret
          exact ⟨ret_bool (by rw [wordB, hP.out]; rfl), rfl⟩
      · have hP := Lib.hid (allB_no hlt (show letB s k = false by rw [letB_of hlt]; simp [h1]))
        have h3 : s[k].toNat < 97 := by omega
        go_wp2
        go_ret
        exact ⟨ret_bool (by rw [wordB, hP.out]; rfl), rfl⟩
    · have heq := Lib.hid (show allB s.size (letB s) = true by rw [show s.size = k from by omega]; exact ht.out)
      go_wp2_with (go_at_call 50; refine (inRange_any _ _ _ _).mono ?_; rintro e w' ⟨rfl, rfl⟩)
      go_ret
      exact ⟨ret_bool (by rw [wordB, heq.out]; rfl), rfl⟩
end Go.Proofs.YtmnlkcclcnnhmaaGreatDoor
