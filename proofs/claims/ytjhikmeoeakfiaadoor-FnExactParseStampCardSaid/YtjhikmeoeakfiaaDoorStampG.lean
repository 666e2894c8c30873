/- Stamps that are valid, with rising ids. -/
import Derived.Test.YtjhikmeoeakfiaaDoorStampS
import Derived.Test.YtjhikmeoeakfiaaDoorScalar
import Derived.Test.YtjhikmeoeakfiaaDoorExt
namespace Go.Proofs.YtjhikmeoeakfiaaDoor
open Go.RowKit

def stampOk (c : StampT) : Bool := inB c.id 1 999 && inB c.face 0 9999 && inB c.color 0 99 && inB c.year 1840 2100
theorem l2Year_any (n : Int) (w : World) : Calls Tryd.prog 30 #[.int .i64 n] w fun e w' => e = .returned (.bool (inB n 1840 2100)) ∧ w = w' := by
  go_enter Tryd.func30, Tryd.ntmps30
  go_wp2_with (go_at_call 14; refine (l1In_any _ _ _ _).mono ?_; rintro e w' ⟨rfl, rfl⟩)
  go_ret
  exact ⟨rfl, rfl⟩
set_option maxRecDepth 100000 in
set_option maxHeartbeats 2000000 in
theorem l2Stamp_any (c : StampT) (w : World) : Calls Tryd.prog 18 #[c.val] w fun e w' => e = .returned (.bool (stampOk c)) ∧ Below w.heap.size w w' := by
  unfold stampOk
  cases e1 : inB c.id 1 999 <;> cases e2 : inB c.face 0 9999 <;> cases e3 : inB c.color 0 99 <;> cases e4 : inB c.year 1840 2100
  all_goals
    go_enter Tryd.func18, Tryd.ntmps18
    go_wp2_with (first | (go_at_call 14; refine (l1In_any _ _ _ _).mono ?_; rintro e w' ⟨rfl, rfl⟩) | (go_at_call 30; refine (l2Year_any _ _).mono ?_; rintro e w' ⟨rfl, rfl⟩))
    go_ret
    exact ⟨rfl, Go.Joins.below_alloc1 _ _⟩
set_option maxRecDepth 100000 in
set_option maxHeartbeats 2000000 in
theorem isStamp_any (c : StampT) (w : World) : Calls Tryd.prog 20 #[c.val] w fun e w' => e = .returned (.bool (stampOk c)) ∧ Below w.heap.size w w' := by
  unfold stampOk
  cases e1 : inB c.id 1 999 <;> cases e2 : inB c.face 0 9999 <;> cases e3 : inB c.color 0 99 <;> cases e4 : inB c.year 1840 2100
  all_goals
    go_enter Tryd.func20, Tryd.ntmps20
    go_wp2_with (first | (go_at_call 16; refine (inRange_any _ _ _ _).mono ?_; rintro e w' ⟨rfl, rfl⟩))
    go_ret
    exact ⟨rfl, Go.Joins.below_alloc1 _ _⟩
def stampAt (zs : List StampT) (i : Nat) : Bool := stampOk (zs.getD i stamp0) && (decide (i = 0) || decide ((zs.getD (i - 1) stamp0).id < (zs.getD i stamp0).id))
def stampsOk (zs : List StampT) : Bool := allB zs.length (stampAt zs) && decide (zs.length ≤ 12)
theorem stamp_getD {zs : List StampT} {k : Nat} (h : k < zs.length) : zs.getD k stamp0 = zs[k] := by simp [List.getD, h]
end Go.Proofs.YtjhikmeoeakfiaaDoor
