/- The name of a position: both sides, at each of the eight positions and outside. -/
import Derived.Test.YtolajlkijeaacaaPos
namespace Go.Proofs.Ytolajlkijeaacaa
open Go.RowKit

abbrev nm0 : ByteArray := ⟨#[117, 112, 114, 105, 103, 104, 116]⟩
abbrev nm1 : ByteArray := ⟨#[114, 105, 103, 104, 116]⟩
abbrev nm2 : ByteArray := ⟨#[105, 110, 118, 101, 114, 116, 101, 100]⟩
abbrev nm3 : ByteArray := ⟨#[108, 101, 102, 116]⟩
theorem nameAt0 (w : World) : (Instr.index 52 (.agg #[.string nm0, .string nm1, .string nm2, .string nm3]) (.int .i64 0)).run Try.prog w = .ok (.string nm0) w := by kernel_rfl
theorem nameAt1 (w : World) : (Instr.index 52 (.agg #[.string nm0, .string nm1, .string nm2, .string nm3]) (.int .i64 1)).run Try.prog w = .ok (.string nm1) w := by kernel_rfl
theorem nameAt2 (w : World) : (Instr.index 52 (.agg #[.string nm0, .string nm1, .string nm2, .string nm3]) (.int .i64 2)).run Try.prog w = .ok (.string nm2) w := by kernel_rfl
theorem nameAt3 (w : World) : (Instr.index 52 (.agg #[.string nm0, .string nm1, .string nm2, .string nm3]) (.int .i64 3)).run Try.prog w = .ok (.string nm3) w := by kernel_rfl
def full0 : ByteArray := ⟨#[117, 112, 114, 105, 103, 104, 116]⟩
def full1 : ByteArray := ⟨#[114, 105, 103, 104, 116]⟩
def full2 : ByteArray := ⟨#[105, 110, 118, 101, 114, 116, 101, 100]⟩
def full3 : ByteArray := ⟨#[108, 101, 102, 116]⟩
def full4 : ByteArray := ⟨#[114, 101, 118, 101, 114, 115, 101, 100, 32, 117, 112, 114, 105, 103, 104, 116]⟩
def full5 : ByteArray := ⟨#[114, 101, 118, 101, 114, 115, 101, 100, 32, 114, 105, 103, 104, 116]⟩
def full6 : ByteArray := ⟨#[114, 101, 118, 101, 114, 115, 101, 100, 32, 105, 110, 118, 101, 114, 116, 101, 100]⟩
def full7 : ByteArray := ⟨#[114, 101, 118, 101, 114, 115, 101, 100, 32, 108, 101, 102, 116]⟩
set_option maxRecDepth 100000 in
set_option maxHeartbeats 1000000 in
theorem specName_0 (w : World) : Calls Try.prog 15 #[.int .i64 0] w fun e w' => e = .returned (.tuple #[.string full0, .bool true]) ∧ Below w.heap.size w w' := by
  have e1 : inB 0 0 7 = true := by decide
  have i0 := nameAt0
  go_enter Try.func15, Try.ntmps15
  go_wp2_with (go_at_call 28; refine (l3Position_any _ _).mono ?_; rintro e w' ⟨rfl, rfl⟩)
  go_ret2
  exact ⟨rfl, Go.Joins.below_alloc1 _ _⟩
set_option maxRecDepth 100000 in
set_option maxHeartbeats 1000000 in
theorem specName_1 (w : World) : Calls Try.prog 15 #[.int .i64 1] w fun e w' => e = .returned (.tuple #[.string full1, .bool true]) ∧ Below w.heap.size w w' := by
  have e1 : inB 1 0 7 = true := by decide
  have i0 := nameAt1
  go_enter Try.func15, Try.ntmps15
  go_wp2_with (go_at_call 28; refine (l3Position_any _ _).mono ?_; rintro e w' ⟨rfl, rfl⟩)
  go_ret2
  exact ⟨rfl, Go.Joins.below_alloc1 _ _⟩
set_option maxRecDepth 100000 in
set_option maxHeartbeats 1000000 in
theorem specName_2 (w : World) : Calls Try.prog 15 #[.int .i64 2] w fun e w' => e = .returned (.tuple #[.string full2, .bool true]) ∧ Below w.heap.size w w' := by
  have e1 : inB 2 0 7 = true := by decide
  have i0 := nameAt2
  go_enter Try.func15, Try.ntmps15
  go_wp2_with (go_at_call 28; refine (l3Position_any _ _).mono ?_; rintro e w' ⟨rfl, rfl⟩)
  go_ret2
  exact ⟨rfl, Go.Joins.below_alloc1 _ _⟩
set_option maxRecDepth 100000 in
set_option maxHeartbeats 1000000 in
theorem specName_3 (w : World) : Calls Try.prog 15 #[.int .i64 3] w fun e w' => e = .returned (.tuple #[.string full3, .bool true]) ∧ Below w.heap.size w w' := by
  have e1 : inB 3 0 7 = true := by decide
  have i0 := nameAt3
  go_enter Try.func15, Try.ntmps15
  go_wp2_with (go_at_call 28; refine (l3Position_any _ _).mono ?_; rintro e w' ⟨rfl, rfl⟩)
  go_ret2
  exact ⟨rfl, Go.Joins.below_alloc1 _ _⟩
set_option maxRecDepth 100000 in
set_option maxHeartbeats 1000000 in
theorem specName_4 (w : World) : Calls Try.prog 15 #[.int .i64 4] w fun e w' => e = .returned (.tuple #[.string full4, .bool true]) ∧ Below w.heap.size w w' := by
  have e1 : inB 4 0 7 = true := by decide
  have i0 := nameAt0
  go_enter Try.func15, Try.ntmps15
  go_wp2_with (go_at_call 28; refine (l3Position_any _ _).mono ?_; rintro e w' ⟨rfl, rfl⟩)
  go_ret2
  exact ⟨rfl, Go.Joins.below_alloc1 _ _⟩
set_option maxRecDepth 100000 in
set_option maxHeartbeats 1000000 in
theorem specName_5 (w : World) : Calls Try.prog 15 #[.int .i64 5] w fun e w' => e = .returned (.tuple #[.string full5, .bool true]) ∧ Below w.heap.size w w' := by
  have e1 : inB 5 0 7 = true := by decide
  have i0 := nameAt1
  go_enter Try.func15, Try.ntmps15
  go_wp2_with (go_at_call 28; refine (l3Position_any _ _).mono ?_; rintro e w' ⟨rfl, rfl⟩)
  go_ret2
  exact ⟨rfl, Go.Joins.below_alloc1 _ _⟩
set_option maxRecDepth 100000 in
set_option maxHeartbeats 1000000 in
theorem specName_6 (w : World) : Calls Try.prog 15 #[.int .i64 6] w fun e w' => e = .returned (.tuple #[.string full6, .bool true]) ∧ Below w.heap.size w w' := by
  have e1 : inB 6 0 7 = true := by decide
  have i0 := nameAt2
  go_enter Try.func15, Try.ntmps15
  go_wp2_with (go_at_call 28; refine (l3Position_any _ _).mono ?_; rintro e w' ⟨rfl, rfl⟩)
  go_ret2
  exact ⟨rfl, Go.Joins.below_alloc1 _ _⟩
set_option maxRecDepth 100000 in
set_option maxHeartbeats 1000000 in
theorem specName_7 (w : World) : Calls Try.prog 15 #[.int .i64 7] w fun e w' => e = .returned (.tuple #[.string full7, .bool true]) ∧ Below w.heap.size w w' := by
  have e1 : inB 7 0 7 = true := by decide
  have i0 := nameAt3
  go_enter Try.func15, Try.ntmps15
  go_wp2_with (go_at_call 28; refine (l3Position_any _ _).mono ?_; rintro e w' ⟨rfl, rfl⟩)
  go_ret2
  exact ⟨rfl, Go.Joins.below_alloc1 _ _⟩
set_option maxHeartbeats 1000000 in
theorem specName_no (a : Int) (w : World) (e1 : inB a 0 7 = false) : Calls Try.prog 15 #[.int .i64 a] w fun e w' => e = .returned (.tuple #[.string .empty, .bool false]) ∧ w = w' := by
  go_enter Try.func15, Try.ntmps15
  go_wp2_with (go_at_call 28; refine (l3Position_any _ _).mono ?_; rintro e w' ⟨rfl, rfl⟩)
  go_ret2
  exact ⟨rfl, rfl⟩
set_option maxRecDepth 100000 in
set_option maxHeartbeats 1000000 in
theorem implName_0 (w : World) : Calls Try.prog 14 #[.int .i64 0] w fun e w' => e = .returned (.tuple #[.string full0, .bool true]) ∧ Below w.heap.size w w' := by
  have e1 : inB 0 0 7 = true := by decide
  have i0 := nameAt0
  go_enter Try.func14, Try.ntmps14
  go_wp2_with (go_at_call 26; refine (inRange_any _ _ _ _).mono ?_; rintro e w' ⟨rfl, rfl⟩)
  go_ret2
  exact ⟨rfl, Below.refl _ _⟩
set_option maxRecDepth 100000 in
set_option maxHeartbeats 1000000 in
theorem implName_1 (w : World) : Calls Try.prog 14 #[.int .i64 1] w fun e w' => e = .returned (.tuple #[.string full1, .bool true]) ∧ Below w.heap.size w w' := by
  have e1 : inB 1 0 7 = true := by decide
  have i0 := nameAt1
  go_enter Try.func14, Try.ntmps14
  go_wp2_with (go_at_call 26; refine (inRange_any _ _ _ _).mono ?_; rintro e w' ⟨rfl, rfl⟩)
  go_ret2
  exact ⟨rfl, Below.refl _ _⟩
set_option maxRecDepth 100000 in
set_option maxHeartbeats 1000000 in
theorem implName_2 (w : World) : Calls Try.prog 14 #[.int .i64 2] w fun e w' => e = .returned (.tuple #[.string full2, .bool true]) ∧ Below w.heap.size w w' := by
  have e1 : inB 2 0 7 = true := by decide
  have i0 := nameAt2
  go_enter Try.func14, Try.ntmps14
  go_wp2_with (go_at_call 26; refine (inRange_any _ _ _ _).mono ?_; rintro e w' ⟨rfl, rfl⟩)
  go_ret2
  exact ⟨rfl, Below.refl _ _⟩
set_option maxRecDepth 100000 in
set_option maxHeartbeats 1000000 in
theorem implName_3 (w : World) : Calls Try.prog 14 #[.int .i64 3] w fun e w' => e = .returned (.tuple #[.string full3, .bool true]) ∧ Below w.heap.size w w' := by
  have e1 : inB 3 0 7 = true := by decide
  have i0 := nameAt3
  go_enter Try.func14, Try.ntmps14
  go_wp2_with (go_at_call 26; refine (inRange_any _ _ _ _).mono ?_; rintro e w' ⟨rfl, rfl⟩)
  go_ret2
  exact ⟨rfl, Below.refl _ _⟩
set_option maxRecDepth 100000 in
set_option maxHeartbeats 1000000 in
theorem implName_4 (w : World) : Calls Try.prog 14 #[.int .i64 4] w fun e w' => e = .returned (.tuple #[.string full4, .bool true]) ∧ Below w.heap.size w w' := by
  have e1 : inB 4 0 7 = true := by decide
  have i0 := nameAt0
  go_enter Try.func14, Try.ntmps14
  go_wp2_with (go_at_call 26; refine (inRange_any _ _ _ _).mono ?_; rintro e w' ⟨rfl, rfl⟩)
  go_ret2
  exact ⟨rfl, Below.refl _ _⟩
set_option maxRecDepth 100000 in
set_option maxHeartbeats 1000000 in
theorem implName_5 (w : World) : Calls Try.prog 14 #[.int .i64 5] w fun e w' => e = .returned (.tuple #[.string full5, .bool true]) ∧ Below w.heap.size w w' := by
  have e1 : inB 5 0 7 = true := by decide
  have i0 := nameAt1
  go_enter Try.func14, Try.ntmps14
  go_wp2_with (go_at_call 26; refine (inRange_any _ _ _ _).mono ?_; rintro e w' ⟨rfl, rfl⟩)
  go_ret2
  exact ⟨rfl, Below.refl _ _⟩
set_option maxRecDepth 100000 in
set_option maxHeartbeats 1000000 in
theorem implName_6 (w : World) : Calls Try.prog 14 #[.int .i64 6] w fun e w' => e = .returned (.tuple #[.string full6, .bool true]) ∧ Below w.heap.size w w' := by
  have e1 : inB 6 0 7 = true := by decide
  have i0 := nameAt2
  go_enter Try.func14, Try.ntmps14
  go_wp2_with (go_at_call 26; refine (inRange_any _ _ _ _).mono ?_; rintro e w' ⟨rfl, rfl⟩)
  go_ret2
  exact ⟨rfl, Below.refl _ _⟩
set_option maxRecDepth 100000 in
set_option maxHeartbeats 1000000 in
theorem implName_7 (w : World) : Calls Try.prog 14 #[.int .i64 7] w fun e w' => e = .returned (.tuple #[.string full7, .bool true]) ∧ Below w.heap.size w w' := by
  have e1 : inB 7 0 7 = true := by decide
  have i0 := nameAt3
  go_enter Try.func14, Try.ntmps14
  go_wp2_with (go_at_call 26; refine (inRange_any _ _ _ _).mono ?_; rintro e w' ⟨rfl, rfl⟩)
  go_ret2
  exact ⟨rfl, Below.refl _ _⟩
set_option maxHeartbeats 1000000 in
theorem implName_no (a : Int) (w : World) (e1 : inB a 0 7 = false) : Calls Try.prog 14 #[.int .i64 a] w fun e w' => e = .returned (.tuple #[.string .empty, .bool false]) ∧ w = w' := by
  go_enter Try.func14, Try.ntmps14
  go_wp2_with (go_at_call 26; refine (inRange_any _ _ _ _).mono ?_; rintro e w' ⟨rfl, rfl⟩)
  go_ret2
  exact ⟨rfl, rfl⟩
theorem name_key (a : Int) : ∃ (s : ByteArray) (b : Bool), (∀ w, Calls Try.prog 15 #[.int .i64 a] w fun e w' => e = .returned (.tuple #[.string s, .bool b]) ∧ Below w.heap.size w w') ∧ (∀ w, Calls Try.prog 14 #[.int .i64 a] w fun e w' => e = .returned (.tuple #[.string s, .bool b]) ∧ Below w.heap.size w w') := by
    cases e1 : inB a 0 7
    · exact ⟨_, _, fun w => (specName_no a w e1).mono (fun e w' h => ⟨h.1, h.2 ▸ Below.refl _ _⟩), fun w => (implName_no a w e1).mono (fun e w' h => ⟨h.1, h.2 ▸ Below.refl _ _⟩)⟩
    · obtain ⟨h1, h2⟩ := inB_true.1 e1
      rcases (show a = 0 ∨ a = 1 ∨ a = 2 ∨ a = 3 ∨ a = 4 ∨ a = 5 ∨ a = 6 ∨ a = 7 by omega) with rfl | rfl | rfl | rfl | rfl | rfl | rfl | rfl
      · exact ⟨_, _, specName_0, implName_0⟩
      · exact ⟨_, _, specName_1, implName_1⟩
      · exact ⟨_, _, specName_2, implName_2⟩
      · exact ⟨_, _, specName_3, implName_3⟩
      · exact ⟨_, _, specName_4, implName_4⟩
      · exact ⟨_, _, specName_5, implName_5⟩
      · exact ⟨_, _, specName_6, implName_6⟩
      · exact ⟨_, _, specName_7, implName_7⟩
end Go.Proofs.Ytolajlkijeaacaa
