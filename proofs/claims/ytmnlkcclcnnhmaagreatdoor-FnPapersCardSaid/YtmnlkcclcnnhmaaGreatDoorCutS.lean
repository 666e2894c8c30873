/- strings.Cut and strings.Split at one byte; the reference's number of a word. -/
import Derived.Test.YtmnlkcclcnnhmaaGreatDoorSplitL
import Derived.Test.YtmnlkcclcnnhmaaGreatDoorReadL
namespace Go.Proofs.YtmnlkcclcnnhmaaGreatDoor
open Go.RowKit

theorem ErrVar.stays {w w' : World} {n : String} {g : Nat} (hg : Tryz.prog.globalNamed n = some g) (h : ErrVar w n) (hb : Below w.heap.size w w') : ErrVar w' n := by
  obtain ⟨tp, p, h⟩ := h
  exact ⟨tp, p, Go.Joins.var_stays hg h hb (Nat.le_refl _)⟩
/-- the library's variables that the walks read -/
structure Tabs (w : World) : Prop where
  pow : PowTab w
  e1 : ErrVar w "strconv.ErrRange"
  e2 : ErrVar w "strconv.ErrSyntax"
  mx : MaxCell w
theorem Tabs.below {w w' : World} (h : Tabs w) (hb : Below w.heap.size w w') : Tabs w' :=
  ⟨h.pow.stays hb (Nat.le_refl _), h.e1.stays (g := 2) (by kernel_rfl) hb, h.e2.stays (g := 1) (by kernel_rfl) hb, h.mx.below hb⟩
/-- the two parts of a text around the first place of another -/
def cutF (s sep : ByteArray) : ByteArray × ByteArray := (⟨(Lib.cut s.data.toList sep.data.toList).1.toArray⟩, ⟨(Lib.cut s.data.toList sep.data.toList).2.1.toArray⟩)
theorem cutF_le (s sep : ByteArray) : (cutF s sep).1.size ≤ s.size ∧ (cutF s sep).2.size ≤ s.size := by
  have hl : s.data.toList.length = s.size := by simp
  show (Lib.cut s.data.toList sep.data.toList).1.toArray.size ≤ s.size ∧ (Lib.cut s.data.toList sep.data.toList).2.1.toArray.size ≤ s.size
  simp only [List.size_toArray]
  rw [← hl]
  unfold Lib.cut
  split <;> simp <;> omega
theorem split_any (s : ByteArray) (c : UInt8) (w : World) (hs : s.size ≤ 1048576) (hx : MaxCell w) : Calls Tryz.prog 33 #[.string s, .string ⟨#[c]⟩] w fun e w' => e = .returned (.slice (some ⟨w.heap.size, 0, none⟩) (splitF s c).length (splitF s c).length) ∧
    RowIs w' w.heap.size 9 (strs (splitF s c)) ∧ Below w.heap.size w w' := by
  obtain ⟨m, hm⟩ := hx
  have hS := Tryz.strings_Split s ⟨#[c]⟩ m w (by omega) hm (by have : (⟨#[c]⟩ : ByteArray).size = 1 := rfl; omega)
  rw [show Lib.splitB ⟨#[c]⟩ 0 (Lib.countB s ⟨#[c]⟩) s = splitF s c from rfl, show Lib.countB s ⟨#[c]⟩ + 1 = (splitF s c).length by rw [splitF_len]] at hS
  exact hS.mono fun _ _ ⟨he, hw⟩ => ⟨he, by rw [hw]; exact RowIs.new w 9 (strs (splitF s c)), by rw [hw]; exact Go.Joins.below_alloc1 w _⟩
end Go.Proofs.YtmnlkcclcnnhmaaGreatDoor
