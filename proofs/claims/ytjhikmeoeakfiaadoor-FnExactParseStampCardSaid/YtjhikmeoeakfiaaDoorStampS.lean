/- Stamp: the struct, its rows of cells, its conversion, comparison and marks. -/
import Derived.Test.YtjhikmeoeakfiaaDoorMarkS
import Derived.StillTailTactics
import Derived.ChangeArms
namespace Go.Proofs.YtjhikmeoeakfiaaDoor
open Go.RowKit

structure StampT where
  id : Int
  face : Int
  color : Int
  year : Int
deriving DecidableEq
def StampT.cells (c : StampT) : List Value := [.int .i64 c.id, .int .i64 c.face, .int .i64 c.color, .int .i64 c.year]
abbrev StampT.val (c : StampT) : Value := .agg #[.int .i64 c.id, .int .i64 c.face, .int .i64 c.color, .int .i64 c.year]
def stamps (zs : List StampT) : List Value := zs.flatMap StampT.cells
theorem stamps_length (zs : List StampT) : (stamps zs).length = zs.length * 4 := by
  induction zs with
  | nil => rfl
  | cons z zs ih => rw [show stamps (z :: zs) = z.cells ++ stamps zs from rfl, List.length_append, ih, List.length_cons]; simp [StampT.cells]; omega
theorem stamps_get {zs : List StampT} {k : Nat} (h : k < zs.length) : (stamps zs)[k * 4]? = some (.int .i64 zs[k].id) ∧ (stamps zs)[k * 4 + 1]? = some (.int .i64 zs[k].face) ∧ (stamps zs)[k * 4 + 2]? = some (.int .i64 zs[k].color) ∧ (stamps zs)[k * 4 + 3]? = some (.int .i64 zs[k].year) := by
  induction zs generalizing k with
  | nil => simp at h
  | cons z zs ih =>
    cases k with
    | zero => simp [stamps, StampT.cells]
    | succ k =>
      have := ih (k := k) (by simpa using h)
      rw [show (k + 1) * 4 = k * 4 + 1 + 1 + 1 + 1 from by omega]
      simpa [stamps, StampT.cells] using this
theorem stamps_set (zs : List StampT) (k : Nat) (c : StampT) (h : k < zs.length) : (((((stamps zs).set (k * 4) (.int .i64 c.id)).set (k * 4 + 1) (.int .i64 c.face)).set (k * 4 + 2) (.int .i64 c.color)).set (k * 4 + 3) (.int .i64 c.year)) = stamps (zs.set k c) := by
  induction zs generalizing k with
  | nil => simp at h
  | cons z zs ih =>
    cases k with
    | zero => simp [stamps, StampT.cells]
    | succ k =>
      have := ih k (by simpa using h)
      rw [show (k + 1) * 4 = k * 4 + 1 + 1 + 1 + 1 from by omega]
      simpa [stamps, StampT.cells] using this
theorem info_stamp : (Tryd.prog.info? 28).map (fun i => (i.zero, i.size, i.bytes)) = some (some (.agg #[.int .i64 0, .int .i64 0, .int .i64 0, .int .i64 0]), 4, 32) := by kernel_rfl
def stamp0 : StampT := ⟨0, 0, 0, 0⟩
theorem made_stamps (n : Nat) : madeCells #[.int .i64 0, .int .i64 0, .int .i64 0, .int .i64 0] (n * 4) = (stamps (List.replicate n stamp0)).toArray := by
  apply Array.ext'
  apply List.ext_getElem?
  intro j
  by_cases hj : j < n * 4
  · obtain ⟨q, r, hq, hr, rfl⟩ : ∃ q r, q < n ∧ r < 4 ∧ j = q * 4 + r := ⟨j / 4, j % 4, by omega, by omega, by omega⟩
    have hg := stamps_get (zs := List.replicate n stamp0) (k := q) (by simpa using hq)
    simp only [List.getElem_replicate] at hg
    have hm : (madeCells #[.int .i64 0, .int .i64 0, .int .i64 0, .int .i64 0] (n * 4)).toList[q * 4 + r]? = (#[.int .i64 0, .int .i64 0, .int .i64 0, .int .i64 0] : Array Value)[r]? := by
      simp [madeCells, hj, show (q * 4 + r) % 4 = r from by omega]
      match r, hr with
      | 0, _ => rfl
      | 1, _ => rfl
      | 2, _ => rfl
      | 3, _ => rfl
    rw [hm]
    match r, hr with
    | 0, _ => exact (hg.1).symm
    | 1, _ => exact (hg.2.1).symm
    | 2, _ => exact (hg.2.2.1).symm
    | 3, _ => exact (hg.2.2.2).symm
  · have h1 := stamps_length (List.replicate n stamp0)
    simp at h1
    rw [List.getElem?_eq_none (by simp [madeCells]; omega), List.getElem?_eq_none (by simp [h1, stamp0] at *; omega)]
theorem RowIs.made' (w : World) (e : TypeId) (xs : List Value) : RowIs (w.alloc (.cells xs.toArray e)) w.heap.size e xs := by
  unfold RowIs
  rw [heap_alloc_new w (.cells xs.toArray e)]
theorem toStamp_any (c : StampT) (w : World) : Calls Tryd.prog 9 #[c.val] w fun e w' => e = .returned c.val ∧ Below w.heap.size w w' := by
  go_enter Tryd.func9, Tryd.ntmps9
  go_wp2
  exact bodyPost_ret (v := c.val) (by simp [results, Tryd.results9, go_sem]) rfl ⟨rfl, Go.Joins.below_alloc3 _ _ _ _⟩

theorem eqStamp_any (c d : StampT) (w : World) : Calls Tryd.prog 13 #[c.val, d.val] w fun e w' => e = .returned (.bool (decide (c = d))) ∧ Below w.heap.size w w' := by
  have hcd : decide (c = d) = (decide (c.id = d.id) && decide (c.face = d.face) && decide (c.color = d.color) && decide (c.year = d.year)) := by
    cases c; cases d
    rw [Bool.eq_iff_iff]
    simp [and_assoc]
  rw [hcd]
  clear hcd
  go_enter Tryd.func13, Tryd.ntmps13
  go_wp2
  all_goals go_ret
  all_goals refine ⟨ret_bool ?_, Go.Joins.below_alloc2 _ _ _⟩
  all_goals simp_all

end Go.Proofs.YtjhikmeoeakfiaaDoor
