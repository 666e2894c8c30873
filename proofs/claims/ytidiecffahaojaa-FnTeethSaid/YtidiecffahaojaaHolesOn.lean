/- HolesOn: both functions compute one value. -/
import Derived.Test.YtidiecffahaojaaScalar
namespace Go.Proofs.Ytidiecffahaojaa
open Go.RowKit

def holesOnF (l g : Int) : Int × Bool := if inB l 500 9999 = true ∧ inB g 500 2000 = true then (l * g / 200000 + 1, true) else (0, false)
theorem ret_tuple2 {a b : Value} {c d : Value} (h1 : a = c) (h2 : b = d) : Ending.returned (.tuple #[a, b]) = .returned (.tuple #[c, d]) := by rw [h1, h2]
theorem HolesOn_bound {l g : Int} (h1 : inB l 500 9999 = true) (h2 : inB g 500 2000 = true) : 0 ≤ l * g ∧ l * g ≤ 9999 * 2000 := by
  rw [inB_true] at h1 h2
  exact ⟨Int.mul_nonneg (by omega) (by omega), Int.mul_le_mul (by omega) (by omega) (by omega) (by omega)⟩
set_option maxHeartbeats 400000 in
theorem specHolesOn_any (l g : Int) (w : World) : Calls Try.prog 28 #[.int .i64 l, .int .i64 g] w fun e w' => e = .returned (.tuple #[.int .i64 (holesOnF l g).1, .bool (holesOnF l g).2]) ∧ w = w' := by
  cases h1 : inB l 500 9999 <;> cases h2 : inB g 500 2000
  case true.true =>
    have hb := HolesOn_bound h1 h2
    have e1 : holesOnF l g = (l * g / 200000 + 1, true) := by simp [holesOnF, h1, h2]
    rw [e1]
    go_enter Try.func28, Try.ntmps28
    go_wp2_with (first | (go_at_call 51; refine (l1In_any _ _ _ _).mono ?_; rintro e w' ⟨rfl, rfl⟩) | (go_at_call 42; refine (l5Gauge_any _ _).mono ?_; rintro e w' ⟨rfl, rfl⟩))
    go_ret2
    exact ⟨rfl, rfl⟩
  all_goals
    have e1 : holesOnF l g = (0, false) := by simp [holesOnF, h1, h2]
    rw [e1]
    go_enter Try.func28, Try.ntmps28
    go_wp2_with (first | (go_at_call 51; refine (l1In_any _ _ _ _).mono ?_; rintro e w' ⟨rfl, rfl⟩) | (go_at_call 42; refine (l5Gauge_any _ _).mono ?_; rintro e w' ⟨rfl, rfl⟩))
    go_ret2
    exact ⟨rfl, rfl⟩
set_option maxHeartbeats 400000 in
theorem implHolesOn_any (l g : Int) (w : World) : Calls Try.prog 27 #[.int .i64 l, .int .i64 g] w fun e w' => e = .returned (.tuple #[.int .i64 (holesOnF l g).1, .bool (holesOnF l g).2]) ∧ w = w' := by
  cases h1 : inB l 500 9999 <;> cases h2 : inB g 500 2000
  case true.true =>
    have hb := HolesOn_bound h1 h2
    have e1 : holesOnF l g = (l * g / 200000 + 1, true) := by simp [holesOnF, h1, h2]
    rw [e1]
    go_enter Try.func27, Try.ntmps27
    go_wp2_with (first | (go_at_call 47; refine (inRange_any _ _ _ _).mono ?_; rintro e w' ⟨rfl, rfl⟩) | (go_at_call 40; refine (isGauge_any _ _).mono ?_; rintro e w' ⟨rfl, rfl⟩))
    go_ret2
    exact ⟨rfl, rfl⟩
  all_goals
    have e1 : holesOnF l g = (0, false) := by simp [holesOnF, h1, h2]
    rw [e1]
    go_enter Try.func27, Try.ntmps27
    go_wp2_with (first | (go_at_call 47; refine (inRange_any _ _ _ _).mono ?_; rintro e w' ⟨rfl, rfl⟩) | (go_at_call 40; refine (isGauge_any _ _).mono ?_; rintro e w' ⟨rfl, rfl⟩))
    go_ret2
    exact ⟨rfl, rfl⟩
end Go.Proofs.Ytidiecffahaojaa
