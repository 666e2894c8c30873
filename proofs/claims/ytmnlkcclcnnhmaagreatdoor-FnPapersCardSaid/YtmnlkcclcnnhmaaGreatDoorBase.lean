/- Base lemmas of this seat's walks: endings, reading rows, the 'draws only' world relation. -/
import Derived.Test.YtmnlkcclcnnhmaaGreatDoorProg
import Derived.WalkKit
import Derived.WalkLawsBesides
import Derived.WalkSpells
import Derived.Deep.QuietTactic
import Derived.BigQuiet
import Derived.Lib.Hide
import Derived.Lib.SmallJoins
import Derived.Deep.DeepFit
namespace Go.Proofs.YtmnlkcclcnnhmaaGreatDoor
open Go.RowKit

/-- the world turned by draws alone -/
def Dr (w w' : World) : Prop := ∃ n, w' = w.drewN n
theorem Dr.refl (w : World) : Dr w w := ⟨0, rfl⟩
theorem Dr.of (w : World) (n : Nat) : Dr w (w.drewN n) := ⟨n, rfl⟩
theorem Dr.trans {a b c : World} (h : Dr a b) (k : Dr b c) : Dr a c := by
  obtain ⟨n, rfl⟩ := h; obtain ⟨m, rfl⟩ := k; exact ⟨n + m, by simp⟩
theorem Dr.drew {a b : World} (h : Dr a b) : Dr a b.drew := by
  obtain ⟨n, rfl⟩ := h; exact ⟨n + 1, by simp⟩
theorem Dr.below {a b : World} (h : Dr a b) (B : Nat) : Below B a b := by
  obtain ⟨n, rfl⟩ := h; exact Go.Joins.below_draws B a n
theorem Dr.cell {a b : World} (h : Dr a b) (p : Addr) : b.cell? p = a.cell? p := by
  obtain ⟨n, rfl⟩ := h; rfl
theorem Dr.heap {a b : World} (h : Dr a b) : b.heap = a.heap := by
  obtain ⟨n, rfl⟩ := h; rfl

theorem ret_int {k : IntKind} {a b : Int} (h : a = b) : Ending.returned (.int k a) = .returned (.int k b) := by rw [h]
theorem ret_bool {a b : Bool} (h : a = b) : Ending.returned (.bool a) = .returned (.bool b) := by rw [h]

/-- a row of cells that is read: nothing is asked where it is empty -/
def Reads (w : World) (a : Option Addr) (xs : List Value) : Prop :=
  xs = [] ∨ ∃ b off, a = some ⟨b, off, none⟩ ∧ b < w.heap.size ∧ ∀ j u, xs[j]? = some u → w.cell? ⟨b, off + j, none⟩ = some u
theorem Reads.below {w w' : World} {a : Option Addr} {xs : List Value} (h : Reads w a xs) (hb : Below w.heap.size w w') : Reads w' a xs := by
  rcases h with h | ⟨b, off, h1, h2, h3⟩
  · exact .inl h
  · exact .inr ⟨b, off, h1, Nat.lt_of_lt_of_le h2 hb.size, fun j u hu => (hb.cell (p := ⟨b, off + j, none⟩) h2).trans (h3 j u hu)⟩
theorem Reads.dr {w w' : World} {a : Option Addr} {xs : List Value} (h : Reads w a xs) (hb : Dr w w') : Reads w' a xs := h.below (hb.below _)
end Go.Proofs.YtmnlkcclcnnhmaaGreatDoor
