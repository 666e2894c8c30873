/- Contracts met inside a region that draws its order; loops that ask one question of every index. -/
import Derived.Test.YtmnlkcclcnnhmaaGreatDoorMarkS
namespace Go.Proofs.YtmnlkcclcnnhmaaGreatDoor
open Go.RowKit

theorem quiet_same {P : Program} {f : FuncId} {args : Array Value} {w : World} {n : Nat} {v : Value}
    (h : Calls P f args (w.drewN n) fun e w' => e = .returned v ∧ w.drewN n = w') : Calls P f args (w.drewN n) fun e w'' => e = .returned v ∧ ∃ m, w'' = w.drewN m :=
  h.mono fun _ _ ⟨he, hm⟩ => ⟨he, n, hm.symm⟩
theorem quiet_dr {P : Program} {f : FuncId} {args : Array Value} {w : World} {n : Nat} {v : Value}
    (h : Calls P f args (w.drewN n) fun e w' => e = .returned v ∧ Dr (w.drewN n) w') : Calls P f args (w.drewN n) fun e w'' => e = .returned v ∧ ∃ m, w'' = w.drewN m :=
  h.mono fun _ _ ⟨he, m, hm⟩ => ⟨he, n + m, by rw [hm, World.drewN_drewN]⟩

theorem Dr.more {a b : World} (h : Dr a b) (n : Nat) : Dr a (b.drewN n) := h.trans (Dr.of _ _)
theorem cell_more {w : World} {p : Addr} {v : Value} (h : w.cell? p = some v) (n : Nat) : (w.drewN n).cell? p = some v := h
/-- one question asked of every index below n -/
def allB (n : Nat) (P : Nat → Bool) : Bool := (List.range n).all P
theorem allB_true {n : Nat} {P : Nat → Bool} : allB n P = true ↔ ∀ i, i < n → P i = true := by simp [allB]
theorem allB_no {n : Nat} {P : Nat → Bool} {k : Nat} (hk : k < n) (h : P k = false) : allB n P = false := by
  rw [Bool.eq_false_iff]; intro h2
  rw [allB_true] at h2
  have := h2 k hk; rw [h] at this; cases this
theorem allB_step {P : Nat → Bool} {k : Nat} (h : allB k P = true) (hk : P k = true) : allB (k + 1) P = true := by
  rw [allB_true] at *
  intro i hi
  by_cases h2 : i = k
  · subst h2; exact hk
  · exact h i (by omega)
theorem allB_zero (P : Nat → Bool) : allB 0 P = true := rfl
end Go.Proofs.YtmnlkcclcnnhmaaGreatDoor
