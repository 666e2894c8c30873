/- What the call owns stays owned. -/
import Derived.Test.YtmnlkcclcnnhmaaGreatDoorMarkS
namespace Go.Proofs.YtmnlkcclcnnhmaaGreatDoor
open Go.RowKit
section
variable {w w' : World} {base n sz : Nat} {e : TypeId} {v : Value} {xs : List Value}
theorem own_below (h : w.ownsRow base e sz v n xs) (hb : Below w.heap.size w w') : w'.ownsRow base e sz v n xs :=
  h.kept (row := none) ⟨hb.os, hb.tape, hb.output, hb.size, fun k hk _ => hb.block k hk⟩ (by cases hv : v.ownBlock <;> simp)
theorem own_dr (h : w.ownsRow base e sz v n xs) (hd : Dr w w') : w'.ownsRow base e sz v n xs := own_below h (hd.below _)
theorem own_kept {row : Option Nat} (h : w.ownsRow base e sz v n xs) (hg : w.grownBy w' row) (hne : ∀ q, v.ownBlock = some q → row ≠ some q) : w'.ownsRow base e sz v n xs :=
  h.kept hg (by
    cases hv : v.ownBlock with
    | none => exact .inl rfl
    | some q => exact .inr (fun e => hne q hv e.symm))
end
section
variable {w : World} {B n sz : Nat} {e : TypeId} {v u : Value} {xs : List Value}
theorem ne_later (h : ∀ q, u.ownBlock = some q → q < B) (k : w.ownsRow B e sz v n xs) : ∀ q, v.ownBlock = some q → u.ownBlock ≠ some q := fun q hq e => by
  have h1 := h q e; have h2 := (k.lt q hq).1; omega
theorem ne_earlier (h : ∀ q, v.ownBlock = some q → q < B) (k : w.ownsRow B e sz u n xs) : ∀ q, v.ownBlock = some q → u.ownBlock ≠ some q := fun q hq e => by
  have h1 := h q hq; have h2 := (k.lt q e).1; omega
end
end Go.Proofs.YtmnlkcclcnnhmaaGreatDoor
