/- DoAgree: both sides ask the same letters. -/
import Derived.Test.YtenedmkjbmbapaaBlockS
namespace Go.Proofs.Ytenedmkjbmbapaa
open Go.RowKit

theorem gridB_bd {zs : List ByteArray} {most : Nat} (h : gridB zs most = true) : 1 ≤ zs.length ∧ zs.length ≤ most ∧ ∀ i, i < zs.length → (rowAt zs i).size = (rowAt zs 0).size ∧ 1 ≤ (rowAt zs i).size ∧ (rowAt zs i).size ≤ most := by
  simp only [gridB, Bool.and_eq_true, inB_true, allB_true] at h
  obtain ⟨⟨h1, h2⟩, h3⟩ := h
  refine ⟨by omega, by omega, fun i hi => ?_⟩
  have := h3 i hi
  simp only [rowOk, Bool.and_eq_true, decide_eq_true_eq, inB_true] at this
  omega
def diffB (x y : Nat) : Bool := !decide (x = 46) && !decide (y = 46) && !decide (x = y)
/-- the letter in a row and a column -/
def chIn (zs : List ByteArray) (i k : Nat) : Nat := chAt (rowAt zs i) k
def okS (xs ys : List ByteArray) (d r : Int) (i k : Nat) : Bool := !(inB ((i : Int) - d) 0 ((ys.length : Int) - 1) && inB ((k : Int) - r) 0 (((rowAt ys 0).size : Int) - 1) && diffB (chIn xs i k) (chIn ys ((i : Int) - d).toNat ((k : Int) - r).toNat))
def okI (xs ys : List ByteArray) (d r : Int) (i k : Nat) : Bool := !(inB ((i : Int) + d) 0 ((xs.length : Int) - 1) && inB ((k : Int) + r) 0 (((rowAt xs 0).size : Int) - 1) && diffB (chIn xs ((i : Int) + d).toNat ((k : Int) + r).toNat) (chIn ys i k))
def agS (xs ys : List ByteArray) (d r : Int) : Bool := allB xs.length (fun i => allB (rowAt xs 0).size (okS xs ys d r i))
def agI (xs ys : List ByteArray) (d r : Int) : Bool := allB ys.length (fun i => allB (rowAt ys i).size (okI xs ys d r i))
theorem ag_eq {xs ys : List ByteArray} {d r : Int} (hx : gridB xs 3 = true) (hy : gridB ys 3 = true) : agS xs ys d r = agI xs ys d r := by
  obtain ⟨_, _, hy3⟩ := gridB_bd hy
  obtain ⟨_, _, hx3⟩ := gridB_bd hx
  rw [Bool.eq_iff_iff]
  simp only [agS, agI, allB_true, okS, okI, Bool.not_eq_true', Bool.and_eq_false_iff]
  constructor
  · intro h i hi k hk
    rw [(hy3 i hi).1] at hk
    rcases hA : inB ((i : Int) + d) 0 ((xs.length : Int) - 1)
    · exact .inl (.inl rfl)
    rcases hB : inB ((k : Int) + r) 0 (((rowAt xs 0).size : Int) - 1)
    · exact .inl (.inr rfl)
    right
    obtain ⟨a1, a2⟩ := inB_true.1 hA
    obtain ⟨b1, b2⟩ := inB_true.1 hB
    have := h ((i : Int) + d).toNat (by omega) ((k : Int) + r).toNat (by omega)
    rw [show ((((i : Int) + d).toNat : Nat) : Int) - d = i by omega, show ((((k : Int) + r).toNat : Nat) : Int) - r = k by omega, inB_true.2 ⟨by omega, by omega⟩, inB_true.2 ⟨by omega, by omega⟩] at this
    simpa using this
  · intro h i hi k hk
    rcases hA : inB ((i : Int) - d) 0 ((ys.length : Int) - 1)
    · exact .inl (.inl rfl)
    rcases hB : inB ((k : Int) - r) 0 (((rowAt ys 0).size : Int) - 1)
    · exact .inl (.inr rfl)
    right
    obtain ⟨a1, a2⟩ := inB_true.1 hA
    obtain ⟨b1, b2⟩ := inB_true.1 hB
    have := h ((i : Int) - d).toNat (by omega) ((k : Int) - r).toNat (by rw [(hy3 _ (by omega)).1]; omega)
    rw [show ((((i : Int) - d).toNat : Nat) : Int) + d = i by omega, show ((((k : Int) - r).toNat : Nat) : Int) + r = k by omega, inB_true.2 ⟨by omega, by omega⟩, inB_true.2 ⟨by omega, by omega⟩] at this
    simpa using this
def agF (xs ys : List ByteArray) (d r : Int) : Bool × Bool := if (gridB xs 3 && gridB ys 3 && inB d (-2) 2 && inB r (-2) 2) = true then (agS xs ys d r, true) else (false, false)
/-- what the test of two letters says, in the walk's spelling -/
theorem diff_cases (x y : Nat) : (diffB x y = false ∧ ((x : Int) != 46) = false) ∨ (diffB x y = false ∧ ((x : Int) != 46) = true ∧ ((y : Int) != 46) = false) ∨
    (diffB x y = false ∧ ((x : Int) != 46) = true ∧ ((y : Int) != 46) = true ∧ ((x : Int) != (y : Int)) = false) ∨ (diffB x y = true ∧ ((x : Int) != 46) = true ∧ ((y : Int) != 46) = true ∧ ((x : Int) != (y : Int)) = true) := by
  by_cases h1 : x = 46
  · left; exact ⟨by simp [diffB, h1], by simp [h1]⟩
  right
  have e1 : ((x : Int) != 46) = true := by simp; omega
  by_cases h2 : y = 46
  · left; exact ⟨by simp [diffB, h2], e1, by simp [h2]⟩
  right
  have e2 : ((y : Int) != 46) = true := by simp; omega
  by_cases h3 : x = y
  · left; exact ⟨by simp [diffB, h3], e1, e2, by simp [h3]⟩
  · right; exact ⟨by simp [diffB, h1, h2, h3], e1, e2, by simp; omega⟩
theorem differ_any (x y : Nat) (w : World) : Calls Try.prog 81 #[.int .u8 (x : Int), .int .u8 (y : Int)] w fun e w' => e = .returned (.bool (diffB x y)) ∧ w = w' := by
  rcases diff_cases x y with ⟨h0, h1⟩ | ⟨h0, h1, h2⟩ | ⟨h0, h1, h2, h3⟩ | ⟨h0, h1, h2, h3⟩
  all_goals
    rw [h0]
    clear h0
    go_enter Try.func81, Try.ntmps81
    go_wp2
    go_ret
    exact ⟨rfl, rfl⟩

end Go.Proofs.Ytenedmkjbmbapaa
