/- Paper: the struct, its rows of cells, its conversion, comparison and marks. -/
import Derived.Test.YtmnlkcclcnnhmaaGreatDoorMarkS
import Derived.Test.YtmnlkcclcnnhmaaGreatDoorMarkT
import Derived.StillTailTactics
import Derived.ChangeArms
namespace Go.Proofs.YtmnlkcclcnnhmaaGreatDoor
open Go.RowKit

structure PaperT where
  id : Int
  thick : Int
  tint : Int
  mark : ByteArray
  laid : Bool
deriving DecidableEq
def PaperT.cells (c : PaperT) : List Value := [.int .i64 c.id, .int .i64 c.thick, .int .i64 c.tint, .string c.mark, .bool c.laid]
abbrev PaperT.val (c : PaperT) : Value := .agg #[.int .i64 c.id, .int .i64 c.thick, .int .i64 c.tint, .string c.mark, .bool c.laid]
def papers (zs : List PaperT) : List Value := zs.flatMap PaperT.cells
theorem papers_length (zs : List PaperT) : (papers zs).length = zs.length * 5 := by
  induction zs with
  | nil => rfl
  | cons z zs ih => rw [show papers (z :: zs) = z.cells ++ papers zs from rfl, List.length_append, ih, List.length_cons]; simp [PaperT.cells]; omega
theorem papers_get {zs : List PaperT} {k : Nat} (h : k < zs.length) : (papers zs)[k * 5]? = some (.int .i64 zs[k].id) ∧ (papers zs)[k * 5 + 1]? = some (.int .i64 zs[k].thick) ∧ (papers zs)[k * 5 + 2]? = some (.int .i64 zs[k].tint) ∧ (papers zs)[k * 5 + 3]? = some (.string zs[k].mark) ∧ (papers zs)[k * 5 + 4]? = some (.bool zs[k].laid) := by
  induction zs generalizing k with
  | nil => simp at h
  | cons z zs ih =>
    cases k with
    | zero => simp [papers, PaperT.cells]
    | succ k =>
      have := ih (k := k) (by simpa using h)
      rw [show (k + 1) * 5 = k * 5 + 1 + 1 + 1 + 1 + 1 from by omega]
      simpa [papers, PaperT.cells] using this
theorem papers_set (zs : List PaperT) (k : Nat) (c : PaperT) (h : k < zs.length) : ((((((papers zs).set (k * 5) (.int .i64 c.id)).set (k * 5 + 1) (.int .i64 c.thick)).set (k * 5 + 2) (.int .i64 c.tint)).set (k * 5 + 3) (.string c.mark)).set (k * 5 + 4) (.bool c.laid)) = papers (zs.set k c) := by
  induction zs generalizing k with
  | nil => simp at h
  | cons z zs ih =>
    cases k with
    | zero => simp [papers, PaperT.cells]
    | succ k =>
      have := ih k (by simpa using h)
      rw [show (k + 1) * 5 = k * 5 + 1 + 1 + 1 + 1 + 1 from by omega]
      simpa [papers, PaperT.cells] using this
theorem info_paper : (Tryz.prog.info? 25).map (fun i => (i.zero, i.size, i.bytes)) = some (some (.agg #[.int .i64 0, .int .i64 0, .int .i64 0, .string .empty, .bool false]), 5, 48) := by kernel_rfl
def paper0 : PaperT := ⟨0, 0, 0, .empty, false⟩
theorem made_papers (n : Nat) : madeCells #[.int .i64 0, .int .i64 0, .int .i64 0, .string .empty, .bool false] (n * 5) = (papers (List.replicate n paper0)).toArray := by
  apply Array.ext'
  apply List.ext_getElem?
  intro j
  by_cases hj : j < n * 5
  · obtain ⟨q, r, hq, hr, rfl⟩ : ∃ q r, q < n ∧ r < 5 ∧ j = q * 5 + r := ⟨j / 5, j % 5, by omega, by omega, by omega⟩
    have hg := papers_get (zs := List.replicate n paper0) (k := q) (by simpa using hq)
    simp only [List.getElem_replicate] at hg
    have hm : (madeCells #[.int .i64 0, .int .i64 0, .int .i64 0, .string .empty, .bool false] (n * 5)).toList[q * 5 + r]? = (#[.int .i64 0, .int .i64 0, .int .i64 0, .string .empty, .bool false] : Array Value)[r]? := by
      simp [madeCells, hj, show (q * 5 + r) % 5 = r from by omega]
      match r, hr with
      | 0, _ => rfl
      | 1, _ => rfl
      | 2, _ => rfl
      | 3, _ => rfl
      | 4, _ => rfl
    rw [hm]
    match r, hr with
    | 0, _ => exact (hg.1).symm
    | 1, _ => exact (hg.2.1).symm
    | 2, _ => exact (hg.2.2.1).symm
    | 3, _ => exact (hg.2.2.2.1).symm
    | 4, _ => exact (hg.2.2.2.2).symm
  · have h1 := papers_length (List.replicate n paper0)
    simp at h1
    rw [List.getElem?_eq_none (by simp [madeCells]; omega), List.getElem?_eq_none (by simp [h1, paper0] at *; omega)]
/-- 'make([]impl.Paper, n)' -/
theorem make_papers (n : Nat) (hn : n ≤ 2097152) (u : World) : (Instr.makeSlice 33 (.int .i64 (n : Int)) (.int .i64 (n : Int))).run Tryz.prog u =
    .ok (.slice (some ⟨u.heap.size, 0, none⟩) n n) (u.alloc (.cells (papers (List.replicate n paper0)).toArray 25)) := by
  obtain ⟨i0, hi, hz0, hz1, hz2⟩ := info_parts info_paper
  have h := run_make (P := Tryz.prog) u 33 25 i0 _ Tryz.underlying33 hi hz0 .i64 .i64 (n : Int) (n : Int) (by omega) (Int.le_refl _) (by rw [hz2]; omega) (by omega)
  have e : ((n : Nat) : Int).toNat = n := by omega
  rw [e, hz1] at h
  rw [← made_papers]
  exact h
theorem RowIs.made' (w : World) (e : TypeId) (xs : List Value) : RowIs (w.alloc (.cells xs.toArray e)) w.heap.size e xs := by
  unfold RowIs
  rw [heap_alloc_new w (.cells xs.toArray e)]
end Go.Proofs.YtmnlkcclcnnhmaaGreatDoor
