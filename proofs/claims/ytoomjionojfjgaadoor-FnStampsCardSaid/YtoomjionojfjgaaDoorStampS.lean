/- Stamp: the struct, its rows of cells, its conversion, comparison and marks. -/
import Derived.Test.YtoomjionojfjgaaDoorMarkS
import Derived.StillTailTactics
import Derived.ChangeArms
namespace Go.Proofs.YtoomjionojfjgaaDoor
open Go.RowKit

structure StampT where
  id : Int
  face : Int
  color : Int
  year : Int
deriving DecidableEq
def StampT.cells (c : StampT) : List Value := [.int .i64 c.id, .int .i64 c.face, .int .i64 c.color, .int .i64 c.year]
abbrev StampT.val (c : StampT) : Value := .agg #[.int .i64 c.id, .int .i64 c.face, .int .i64 c.color, .int .i64 c.year]
def stamps (zs : List StampT) : List Value := zs.flatMap StampT.cells
theorem stamps_length (zs : List StampT) : (stamps zs).length = zs.length * 4 := by
  induction zs with
  | nil => rfl
  | cons z zs ih => rw [show stamps (z :: zs) = z.cells ++ stamps zs from rfl, List.length_append, ih, List.length_cons]; simp [StampT.cells]; omega
theorem stamps_get {zs : List StampT} {k : Nat} (h : k < zs.length) : (stamps zs)[k * 4]? = some (.int .i64 zs[k].id) ∧ (stamps zs)[k * 4 + 1]? = some (.int .i64 zs[k].face) ∧ (stamps zs)[k * 4 + 2]? = some (.int .i64 zs[k].color) ∧ (stamps zs)[k * 4 + 3]? = some (.int .i64 zs[k].year) := by
  induction zs generalizing k with
  | nil => simp at h
  | cons z zs ih =>
    cases k with
    | zero => simp [stamps, StampT.cells]
    | succ k =>
      have := ih (k := k) (by simpa using h)
      rw [show (k + 1) * 4 = k * 4 + 1 + 1 + 1 + 1 from by omega]
      simpa [stamps, StampT.cells] using this
theorem stamps_set (zs : List StampT) (k : Nat) (c : StampT) (h : k < zs.length) : (((((stamps zs).set (k * 4) (.int .i64 c.id)).set (k * 4 + 1) (.int .i64 c.face)).set (k * 4 + 2) (.int .i64 c.color)).set (k * 4 + 3) (.int .i64 c.year)) = stamps (zs.set k c) := by
  induction zs generalizing k with
  | nil => simp at h
  | cons z zs ih =>
    cases k with
    | zero => simp [stamps, StampT.cells]
    | succ k =>
      have := ih k (by simpa using h)
      rw [show (k + 1) * 4 = k * 4 + 1 + 1 + 1 + 1 from by omega]
      simpa [stamps, StampT.cells] using this
theorem info_stamp : (Tryd.prog.info? 25).map (fun i => (i.zero, i.size, i.bytes)) = some (some (.agg #[.int .i64 0, .int .i64 0, .int .i64 0, .int .i64 0]), 4, 32) := by kernel_rfl
def stamp0 : StampT := ⟨0, 0, 0, 0⟩
theorem made_stamps (n : Nat) : madeCells #[.int .i64 0, .int .i64 0, .int .i64 0, .int .i64 0] (n * 4) = (stamps (List.replicate n stamp0)).toArray := by
  apply Array.ext'
  apply List.ext_getElem?
  intro j
  by_cases hj : j < n * 4
  · obtain ⟨q, r, hq, hr, rfl⟩ : ∃ q r, q < n ∧ r < 4 ∧ j = q * 4 + r := ⟨j / 4, j % 4, by omega, by omega, by omega⟩
    have hg := stamps_get (zs := List.replicate n stamp0) (k := q) (by simpa using hq)
    simp only [List.getElem_replicate] at hg
    have hm : (madeCells #[.int .i64 0, .int .i64 0, .int .i64 0, .int .i64 0] (n * 4)).toList[q * 4 + r]? = (#[.int .i64 0, .int .i64 0, .int .i64 0, .int .i64 0] : Array Value)[r]? := by
      simp [madeCells, hj, show (q * 4 + r) % 4 = r from by omega]
      match r, hr with
      | 0, _ => rfl
      | 1, _ => rfl
      | 2, _ => rfl
      | 3, _ => rfl
    rw [hm]
    match r, hr with
    | 0, _ => exact (hg.1).symm
    | 1, _ => exact (hg.2.1).symm
    | 2, _ => exact (hg.2.2.1).symm
    | 3, _ => exact (hg.2.2.2).symm
  · have h1 := stamps_length (List.replicate n stamp0)
    simp at h1
    rw [List.getElem?_eq_none (by simp [madeCells]; omega), List.getElem?_eq_none (by simp [h1, stamp0] at *; omega)]
/-- 'make([]impl.Stamp, n)' -/
theorem make_stamps (n : Nat) (hn : n ≤ 2097152) (u : World) : (Instr.makeSlice 33 (.int .i64 (n : Int)) (.int .i64 (n : Int))).run Tryd.prog u =
    .ok (.slice (some ⟨u.heap.size, 0, none⟩) n n) (u.alloc (.cells (stamps (List.replicate n stamp0)).toArray 25)) := by
  obtain ⟨i0, hi, hz0, hz1, hz2⟩ := info_parts info_stamp
  have h := run_make (P := Tryd.prog) u 33 25 i0 _ Tryd.underlying33 hi hz0 .i64 .i64 (n : Int) (n : Int) (by omega) (Int.le_refl _) (by rw [hz2]; omega) (by omega)
  have e : ((n : Nat) : Int).toNat = n := by omega
  rw [e, hz1] at h
  rw [← made_stamps]
  exact h
theorem RowIs.made' (w : World) (e : TypeId) (xs : List Value) : RowIs (w.alloc (.cells xs.toArray e)) w.heap.size e xs := by
  unfold RowIs
  rw [heap_alloc_new w (.cells xs.toArray e)]
end Go.Proofs.YtoomjionojfjgaaDoor
