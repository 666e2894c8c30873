/- SplitString: both sides hand back the same parts; the law. -/
import Derived.Test.YtmnlkcclcnnhmaaGreatDoorSplitS
import Derived.Test.YtmnlkcclcnnhmaaGreatDoorFrame
import Derived.Test.YtmnlkcclcnnhmaaGreatDoorShelf
import Derived.Test.YtmnlkcclcnnhmaaGreatDoorShelfB
namespace Go.Proofs.YtmnlkcclcnnhmaaGreatDoor
open Go.RowKit

/-- what the kit's contract of strings.Split asks of the library's own variable -/
def MaxCell (w : World) : Prop := ∃ m, w.cell? ⟨0, 0, none⟩ = some (.int .i64 m)
theorem maxCell_of {w : World} (h : w.ShapedOpen Tryz.prog) : MaxCell w := Tryz.laysM146.s1_3 w h
theorem MaxCell.below {w w' : World} (h : MaxCell w) (hb : Below w.heap.size w w') : MaxCell w' := by
  obtain ⟨m, hm⟩ := h
  exact ⟨m, (hb.cell (p := ⟨0, 0, none⟩) (World.block_lt_of_cell? w _ hm)).trans hm⟩
def cutOk (s sep : ByteArray) : Bool := decide (s.size ≤ 4000) && decide (sep.size = 1)
def cutR (s sep : ByteArray) : List ByteArray := if h : cutOk s sep = true then splitF s (sep[0]'(by simp [cutOk] at h; omega)) else []
theorem cutR_no {s sep : ByteArray} (h : cutOk s sep = false) : cutR s sep = [] := by rw [cutR, dif_neg (by simp [h])]
theorem cutR_yes {s sep : ByteArray} (h : cutOk s sep = true) (h2 : 0 < sep.size) : cutR s sep = splitF s sep[0] := by rw [cutR, dif_pos h]
theorem cutR_le (s sep : ByteArray) : (cutR s sep).length ≤ 4001 := by
  unfold cutR
  split
  · rename_i h
    have := splitF_le s (sep[0]'(by simp [cutOk] at h; omega))
    simp [cutOk] at h; omega
  · simp
theorem sep_one {sep : ByteArray} (h : sep.size = 1) : sep = ⟨#[sep[0]]⟩ := by
  obtain ⟨⟨l⟩⟩ := sep
  match l, h with
  | [x], _ => rfl
end Go.Proofs.YtmnlkcclcnnhmaaGreatDoor
