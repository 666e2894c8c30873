/- The laws of IsPaper, ArePapers, walked out of the contracts. -/
import Derived.Test.YtmnlkcclcnnhmaaGreatDoorPaperG
import Derived.Test.YtmnlkcclcnnhmaaGreatDoorOwn
namespace Go.Proofs.YtmnlkcclcnnhmaaGreatDoor
open Go.ChangeShapes Go.WideShapes Go.ChangeAt Go.RowKit

theorem specArePapers_any (a : Option Addr) (cap : Nat) (zs : List PaperT) (w : World) (hm : zs.length ≤ maxLen) (hr : Reads w a (papers zs)) (hfit : ∀ z ∈ zs, z.mark.size ≤ maxLen) :
    Calls Tryz.prog 27 #[.slice a zs.length cap] w fun e w' => e = .returned (.bool (papersOk zs)) ∧ Below w.heap.size w w' := by
  have H := Lib.hid (l3Good_any a cap zs w hm hr hfit)
  clear hr hfit
  go_enter Tryz.func27, Tryz.ntmps27
  go_wp2_with fail
  refine H.out.mono ?_
  rintro e w1 ⟨rfl, hb⟩
  go_wp2_with fail
  go_ret
  exact ⟨rfl, hb⟩
theorem implArePapers_any (a : Option Addr) (cap : Nat) (zs : List PaperT) (w : World) (hm : zs.length ≤ maxLen) (hr : Reads w a (papers zs)) (hfit : ∀ z ∈ zs, z.mark.size ≤ maxLen) :
    Calls Tryz.prog 26 #[.slice a zs.length cap] w fun e w' => e = .returned (.bool (papersOk zs)) ∧ Below w.heap.size w w' := by
  have H := Lib.hid (arePapers_any a cap zs w hm hr hfit)
  clear hr hfit
  go_enter Tryz.func26, Tryz.ntmps26
  go_wp2_with fail
  refine H.out.mono ?_
  rintro e w1 ⟨rfl, hb⟩
  go_wp2_with fail
  go_ret
  exact ⟨rfl, hb⟩
theorem implIsPaper_any (c : PaperT) (w : World) (hm : c.mark.size ≤ maxLen) :
    Calls Tryz.prog 8 #[c.val] w fun e w' => e = .returned (.bool (paperOk c)) ∧ Below w.heap.size w w' := by
  have H := Lib.hid (fun w => isPaper_any c w hm)
  go_enter Tryz.func8, Tryz.ntmps8
  go_wp2_with fail
  refine (H.out _).mono ?_
  rintro e w1 ⟨rfl, hb⟩
  have HB := Lib.hid hb
  clear hb
  go_wp2_with fail
  go_ret
  exact ⟨rfl, by first | exact HB.out | exact (Go.Joins.below_alloc1 _ _).trans (HB.out.mono (by simp))⟩
end Go.Proofs.YtmnlkcclcnnhmaaGreatDoor
