/- markIntS, heldIntS: a row of the call's own is written, and read again. -/
import Derived.Test.YtmnlkcclcnnhmaaGreatDoorIntS
namespace Go.Proofs.YtmnlkcclcnnhmaaGreatDoor
open Go.RowKit

/-- the numbers from k on -/
def cnt (k : Int) (n : Nat) : List Int := (List.range n).map fun (i : Nat) => k + (i : Int)
theorem cnt_length (k : Int) (n : Nat) : (cnt k n).length = n := by simp [cnt]
theorem cnt_get {k : Int} {n i : Nat} (h : i < n) : (ints (cnt k n))[i]? = some (.int .i64 (k + (i : Int))) := by simp [ints, cnt, h]

theorem own_form {w : World} {base n cap sz : Nat} {e : TypeId} {a : Option Addr} {xs : List Value} (h : w.ownsRow base e sz (.slice a n cap) n xs) (hn : 0 < n) : ∃ g, a = some ⟨g, 0, none⟩ ∧ base ≤ g ∧ g < w.heap.size := by
  obtain ⟨g, c, hv⟩ := Go.Joins.ownsRow_form h hn
  simp only [Value.slice.injEq] at hv
  obtain ⟨rfl, _, rfl⟩ := hv
  have := h.lt g (by simp [Value.ownBlock])
  exact ⟨g, rfl, this.1, this.2⟩
theorem own_reads {w : World} {base n cap sz : Nat} {e : TypeId} {a : Option Addr} {xs : List Value} (h : w.ownsRow base e sz (.slice a n cap) n xs) : Reads w a xs := by
  by_cases hn : xs = []
  · exact .inl hn
  · have hl := h.1
    have h0 : 0 < n := by
      rcases Nat.eq_zero_or_pos n with h0 | h0
      · subst h0; simp at hl; exact absurd hl hn
      · exact h0
    obtain ⟨g, rfl, _, hg⟩ := own_form h h0
    refine .inr ⟨g, 0, rfl, hg, fun j u hu => ?_⟩
    rw [Nat.zero_add, h.cellAt j (by rw [← hl]; exact (List.getElem?_eq_some_iff.1 hu).1)]
    exact hu
theorem grownBy_trans {a b c : World} {row : Option Nat} (h : a.grownBy b row) (k : b.grownBy c row) : a.grownBy c row :=
  ⟨k.os.trans h.os, k.tape.trans h.tape, k.output.trans h.output, Nat.le_trans h.size k.size, fun i hi hne => (k.block i (Nat.lt_of_lt_of_le hi h.size) hne).trans (h.block i hi hne)⟩
/-- where a row may have been written, everything else stays -/
theorem grownBy_cell {a b : World} {row : Option Nat} (h : a.grownBy b row) {p : Addr} (hp : p.block < a.heap.size) (hne : some p.block ≠ row) : b.cell? p = a.cell? p := World.cell?_of_block (h.block p.block hp hne)
theorem Reads.grown {w w' : World} {a : Option Addr} {xs : List Value} {row : Option Nat} (h : Reads w a xs) (hg : w.grownBy w' row) (hne : ∀ p, a = some p → some p.block ≠ row) : Reads w' a xs := by
  rcases h with h | ⟨b, off, rfl, h2, h3⟩
  · exact .inl h
  · exact .inr ⟨b, off, rfl, Nat.lt_of_lt_of_le h2 hg.size, fun j u hu => (grownBy_cell hg (p := ⟨b, off + j, none⟩) h2 (hne ⟨b, off, none⟩ rfl)).trans (h3 j u hu)⟩

theorem markInts_step {xs : List Value} {k : Int} {j : Nat} (hj : j < xs.length) : (ints (cnt k j) ++ xs.drop j).set j (.int .i64 (k + (j : Int))) = ints (cnt k (j + 1)) ++ xs.drop (j + 1) := by
  have e0 : (ints (cnt k j)).length = j := by simp [ints, cnt_length]
  rw [List.set_append_right _ _ (by omega), e0, Nat.sub_self, List.drop_eq_getElem_cons hj, List.set_cons_zero]
  simp [ints, cnt, List.range_succ]

end Go.Proofs.YtmnlkcclcnnhmaaGreatDoor
