/- The laws of IsPaper, ArePapers, walked out of the contracts. -/
import Derived.Test.YtmnjjbeapbnccaaDoorPaperA
import Derived.Test.YtmnjjbeapbnccaaDoorPaperG
import Derived.Test.YtmnjjbeapbnccaaDoorOwn
namespace Go.Proofs.YtmnjjbeapbnccaaDoor
open Go.ChangeShapes Go.WideShapes Go.ChangeAt Go.RowKit

theorem szPaper_any (c : PaperT) (left : Int) (w : World) (h1 : 0 ≤ left) (h2 : left ≤ 1048576) (hm : c.mark.size ≤ maxLen) :
    Calls Tryd.prog 5 #[.agg #[.int .i64 c.id, .int .i64 c.thick, .int .i64 c.tint, .string c.mark, .bool c.laid], .int .i64 left] w fun e w' => ∃ r : Int, e = .returned (.int .i64 r) ∧ (r = -1 ∨ (0 ≤ r ∧ r ≤ left)) ∧ Below w.heap.size w w' := by
  unfold maxLen at hm
  by_cases h : left - (c.mark.size : Int) < 0
  · go_enter Tryd.func5, Tryd.ntmps5
    go_wp2
    go_ret
    exact ⟨-1, rfl, .inl rfl, Go.Joins.below_alloc1 _ _⟩
  · go_enter Tryd.func5, Tryd.ntmps5
    go_wp2
    go_ret
    exact ⟨left - (c.mark.size : Int), rfl, .inr ⟨by omega, by omega⟩, Go.Joins.below_alloc1 _ _⟩
/-- one paper by value -/
theorem arg_paper {H : Type} {enc : TypeId × Value → H} {W : World} {base : Nat} {v : Value} {d : DataW H} {p : List MemPlace} (hv : Value.okWide Tryd.prog W .any base 23 v) (h : DataW.Trod enc Tryd.prog W 0 (fun _ => true) true 23 v d p) :
    ∃ c : PaperT, v = c.val ∧ c.Fits := by
  obtain ⟨fs, hfs, _⟩ := laws_paper_fields
  obtain ⟨cs, rfl, hsz⟩ := okWide_struct hfs hv
  obtain ⟨fuel, hf⟩ := h
  obtain ⟨c, hc, hfit⟩ := paper_of_trod hf
  refine ⟨c, ?_, hfit⟩
  have : cs.toList = c.cells := by simpa [Value.cells] using hc
  show Value.agg cs = Value.agg _
  congr 1
  apply Array.ext'
  rw [this]; rfl

end Go.Proofs.YtmnjjbeapbnccaaDoor
