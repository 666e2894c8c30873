/- Rows of texts: sizes, copies. -/
import Derived.Test.YtmnlkcclcnnhmaaGreatDoorMarkT
namespace Go.Proofs.YtmnlkcclcnnhmaaGreatDoor
open Go.RowKit

/-- the lengths of the first k texts, together -/
def lensTo (zs : List ByteArray) (k : Nat) : Nat := ((zs.take k).map ByteArray.size).sum
theorem lensTo_zero (zs : List ByteArray) : lensTo zs 0 = 0 := by simp [lensTo]
theorem lensTo_succ {zs : List ByteArray} {k : Nat} (h : k < zs.length) : lensTo zs (k + 1) = lensTo zs k + zs[k].size := by
  unfold lensTo; rw [List.take_succ_eq_append_getElem h, List.map_append, List.sum_append]; simp only [List.map_cons, List.map_nil, List.sum_cons, List.sum_nil, Nat.add_zero]
theorem lensTo_mono (zs : List ByteArray) : ∀ {j k : Nat}, j ≤ k → k ≤ zs.length → lensTo zs j ≤ lensTo zs k := by
  intro j k hjk hk
  induction k with
  | zero => rw [show j = 0 by omega]; exact Nat.le_refl _
  | succ k ih =>
    rcases Nat.lt_or_ge k j with h | h
    · rw [show j = k + 1 by omega]; exact Nat.le_refl _
    · have := ih h (by omega)
      rw [lensTo_succ (by omega)]; omega
def totS (zs : List ByteArray) : Nat := zs.length + lensTo zs zs.length
theorem totS_at {zs : List ByteArray} {k : Nat} (h : k < zs.length) : zs[k].size ≤ totS zs := by
  have h1 := lensTo_succ h
  have h2 := lensTo_mono zs (j := k + 1) (k := zs.length) (by omega) (by omega)
  unfold totS; omega
theorem totS_mem {zs : List ByteArray} {z : ByteArray} (h : z ∈ zs) : z.size ≤ totS zs := by
  obtain ⟨k, hk, rfl⟩ := List.getElem_of_mem h
  exact totS_at hk
theorem info_string : (Tryz.prog.info? 9).map (fun i => (i.zero, i.size, i.bytes)) = some (some (.string .empty), 1, 16) := by kernel_rfl
/-- 'make([]string, n)' -/
theorem make_strs (n : Nat) (hn : n ≤ 2097152) (u : World) : (Instr.makeSlice 45 (.int .i64 (n : Int)) (.int .i64 (n : Int))).run Tryz.prog u =
    .ok (.slice (some ⟨u.heap.size, 0, none⟩) n n) (u.alloc (.cells (List.replicate n (Value.string .empty)).toArray 9)) := by
  obtain ⟨i0, hi, hz0, hz1, hz2⟩ := info_parts info_string
  have h := run_make (P := Tryz.prog) u 45 9 i0 (.string .empty) Tryz.underlying45 hi hz0 .i64 .i64 (n : Int) (n : Int) (by omega) (Int.le_refl _) (by rw [hz2]; omega) (by omega)
  have e1 : madeCells #[Value.string .empty] n = (List.replicate n (Value.string .empty)).toArray := by
    apply Array.ext'
    rw [toList_madeCells_one]
  rw [← e1]
  simpa [hz1, Value.cells] using h
end Go.Proofs.YtmnlkcclcnnhmaaGreatDoor
