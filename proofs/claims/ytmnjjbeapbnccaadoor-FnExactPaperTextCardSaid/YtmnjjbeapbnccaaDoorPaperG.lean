/- Papers that are valid, with rising ids. -/
import Derived.Test.YtmnjjbeapbnccaaDoorPaperS
import Derived.Test.YtmnjjbeapbnccaaDoorWord
import Derived.Test.YtmnjjbeapbnccaaDoorExt
namespace Go.Proofs.YtmnjjbeapbnccaaDoor
open Go.RowKit

def emptyB (s : ByteArray) : Bool := s.toList.isEmpty
def paperOk (c : PaperT) : Bool := inB c.id 1 99 && inB c.thick 1 300 && inB c.tint 0 9 && (emptyB c.mark || wordB c.mark)
set_option maxRecDepth 100000 in
set_option maxHeartbeats 2000000 in
theorem l3One_any (c : PaperT) (w : World) (hm : c.mark.size ≤ maxLen) : Calls Tryd.prog 12 #[c.val] w fun e w' => e = .returned (.bool (paperOk c)) ∧ Below w.heap.size w w' := by
  unfold paperOk
  cases e1 : inB c.id 1 99
  · go_enter Tryd.func12, Tryd.ntmps12
    go_wp2_with (first | (go_at_call 17; refine (l1In_any _ _ _ _).mono ?_; rintro e w' ⟨rfl, rfl⟩))
    go_ret
    exact ⟨rfl, Go.Joins.below_alloc1 _ _⟩
  cases e2 : inB c.thick 1 300
  · go_enter Tryd.func12, Tryd.ntmps12
    go_wp2_with (first | (go_at_call 17; refine (l1In_any _ _ _ _).mono ?_; rintro e w' ⟨rfl, rfl⟩))
    go_ret
    exact ⟨rfl, Go.Joins.below_alloc1 _ _⟩
  cases e3 : inB c.tint 0 9
  · go_enter Tryd.func12, Tryd.ntmps12
    go_wp2_with (first | (go_at_call 17; refine (l1In_any _ _ _ _).mono ?_; rintro e w' ⟨rfl, rfl⟩))
    go_ret
    exact ⟨rfl, Go.Joins.below_alloc1 _ _⟩
  have hW := Lib.hid (fun w => l2Word_any c.mark w hm)
  unfold emptyB
  cases e4 : c.mark.toList.isEmpty
  · go_enter Tryd.func12, Tryd.ntmps12
    go_wp2_with (first | (go_at_call 17; refine (l1In_any _ _ _ _).mono ?_; rintro e w' ⟨rfl, rfl⟩) | (go_at_call 25; refine (hW.out _).mono ?_; rintro e w' ⟨rfl, rfl⟩))
    go_ret
    exact ⟨ret_bool (by simp), Go.Joins.below_alloc1 _ _⟩
  · go_enter Tryd.func12, Tryd.ntmps12
    go_wp2_with (first | (go_at_call 17; refine (l1In_any _ _ _ _).mono ?_; rintro e w' ⟨rfl, rfl⟩) | (go_at_call 25; refine (hW.out _).mono ?_; rintro e w' ⟨rfl, rfl⟩))
    go_ret
    exact ⟨ret_bool (by simp), Go.Joins.below_alloc1 _ _⟩
set_option maxRecDepth 100000 in
set_option maxHeartbeats 2000000 in
theorem isPaper_any (c : PaperT) (w : World) (hm : c.mark.size ≤ maxLen) : Calls Tryd.prog 14 #[c.val] w fun e w' => e = .returned (.bool (paperOk c)) ∧ Below w.heap.size w w' := by
  unfold paperOk
  cases e1 : inB c.id 1 99
  · go_enter Tryd.func14, Tryd.ntmps14
    go_wp2_with (first | (go_at_call 27; refine (inRange_any _ _ _ _).mono ?_; rintro e w' ⟨rfl, rfl⟩))
    go_ret
    exact ⟨rfl, Go.Joins.below_alloc1 _ _⟩
  cases e2 : inB c.thick 1 300
  · go_enter Tryd.func14, Tryd.ntmps14
    go_wp2_with (first | (go_at_call 27; refine (inRange_any _ _ _ _).mono ?_; rintro e w' ⟨rfl, rfl⟩))
    go_ret
    exact ⟨rfl, Go.Joins.below_alloc1 _ _⟩
  cases e3 : inB c.tint 0 9
  · go_enter Tryd.func14, Tryd.ntmps14
    go_wp2_with (first | (go_at_call 27; refine (inRange_any _ _ _ _).mono ?_; rintro e w' ⟨rfl, rfl⟩))
    go_ret
    exact ⟨rfl, Go.Joins.below_alloc1 _ _⟩
  have hW := Lib.hid (fun w => isWord_any c.mark w hm)
  unfold emptyB
  cases e4 : c.mark.toList.isEmpty
  · go_enter Tryd.func14, Tryd.ntmps14
    go_wp2_with (first | (go_at_call 27; refine (inRange_any _ _ _ _).mono ?_; rintro e w' ⟨rfl, rfl⟩) | (go_at_call 28; refine (hW.out _).mono ?_; rintro e w' ⟨rfl, rfl⟩))
    go_ret
    exact ⟨ret_bool (by simp), Go.Joins.below_alloc1 _ _⟩
  · go_enter Tryd.func14, Tryd.ntmps14
    go_wp2_with (first | (go_at_call 27; refine (inRange_any _ _ _ _).mono ?_; rintro e w' ⟨rfl, rfl⟩) | (go_at_call 28; refine (hW.out _).mono ?_; rintro e w' ⟨rfl, rfl⟩))
    go_ret
    exact ⟨ret_bool (by simp), Go.Joins.below_alloc1 _ _⟩
def paperAt (zs : List PaperT) (i : Nat) : Bool := paperOk (zs.getD i paper0) && (decide (i = 0) || decide ((zs.getD (i - 1) paper0).id < (zs.getD i paper0).id))
def papersOk (zs : List PaperT) : Bool := allB zs.length (paperAt zs) && decide (zs.length ≤ 10)
theorem paper_getD {zs : List PaperT} {k : Nat} (h : k < zs.length) : zs.getD k paper0 = zs[k] := by simp [List.getD, h]
end Go.Proofs.YtmnjjbeapbnccaaDoor
