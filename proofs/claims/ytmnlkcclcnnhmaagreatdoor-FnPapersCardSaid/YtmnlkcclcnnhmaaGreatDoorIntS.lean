/- Slices of integers: opening an argument; toIntS, eqIntS, markIntS, heldIntS. -/
import Derived.Test.YtmnlkcclcnnhmaaGreatDoorBase
namespace Go.Proofs.YtmnlkcclcnnhmaaGreatDoor
open Go.RowKit

abbrev ints (zs : List Int) : List Value := zs.map (Value.int .i64)
theorem ints_get {zs : List Int} {k : Nat} (h : k < zs.length) : (ints zs)[k]? = some (.int .i64 zs[k]) := by simp [ints, h]

/-- block g is a row of the call's own that holds just xs -/
def RowIs (w : World) (g : Nat) (e : TypeId) (xs : List Value) : Prop := w.heap[g]? = some (.cells xs.toArray e (0, 0))
theorem RowIs.lt {w : World} {g : Nat} {e : TypeId} {xs : List Value} (h : RowIs w g e xs) : g < w.heap.size := (Array.getElem?_eq_some_iff.1 h).1
theorem RowIs.cell {w : World} {g : Nat} {e : TypeId} {xs : List Value} (h : RowIs w g e xs) {j : Nat} {u : Value} (hu : xs[j]? = some u) : w.cell? ⟨g, j, none⟩ = some u := by
  rw [Go.Joins.cell_of_block h]; simpa using hu
theorem RowIs.free {w : World} {g : Nat} {e : TypeId} {xs : List Value} (h : RowIs w g e xs) (j : Nat) : w.frozen? ⟨g, j, none⟩ = false := Go.Joins.unfrozen_of_block h j
theorem RowIs.below {w w' : World} {g : Nat} {e : TypeId} {xs : List Value} (h : RowIs w g e xs) (hb : Below w.heap.size w w') : RowIs w' g e xs := (hb.block g h.lt).trans h
theorem RowIs.dr {w w' : World} {g : Nat} {e : TypeId} {xs : List Value} (h : RowIs w g e xs) (hb : Dr w w') : RowIs w' g e xs := h.below (hb.below _)
theorem RowIs.set {w : World} {g : Nat} {e : TypeId} {xs : List Value} (h : RowIs w g e xs) (j : Nat) (v : Value) : RowIs (w.setCell ⟨g, j, none⟩ v) g e (xs.set j v) := by
  have := Go.Joins.block_setCell (i := j) h v
  simpa [RowIs] using this
theorem RowIs.reads {w : World} {g : Nat} {e : TypeId} {xs : List Value} (h : RowIs w g e xs) : Reads w (some ⟨g, 0, none⟩) xs :=
  .inr ⟨g, 0, rfl, h.lt, fun j u hu => by rw [Nat.zero_add]; exact h.cell hu⟩
theorem RowIs.owns {w : World} {g n sz base : Nat} {e : TypeId} {xs : List Value} (h : RowIs w g e xs) (hl : xs.length = n * sz) (hm : n ≤ maxLen) (hb : base ≤ g) : w.ownsRow base e sz (.slice (some ⟨g, 0, none⟩) n n) n xs :=
  ⟨hl, .inr ⟨g, n, xs.toArray, rfl, hb, h, Nat.le_refl _, hm, by simpa using hl, by rw [← hl]; simp⟩⟩

theorem RowIs.made (w : World) (e : TypeId) (n : Nat) (z : Value) : RowIs (w.alloc (.cells (Array.replicate n z) e)) w.heap.size e (List.replicate n z) := by
  have h := heap_alloc_new w (.cells (Array.replicate n z) e)
  unfold RowIs
  rw [h]; simp

/-- what a row holds when the first k of xs have been stored -/
def fillTo {α : Type} (xs : List α) (z : α) (k : Nat) : List α := xs.take k ++ List.replicate (xs.length - k) z
theorem fillTo_zero {α : Type} (xs : List α) (z : α) : fillTo xs z 0 = List.replicate xs.length z := by simp [fillTo]
theorem fillTo_all {α : Type} (xs : List α) (z : α) : fillTo xs z xs.length = xs := by simp [fillTo]
theorem fillTo_length {α : Type} (xs : List α) (z : α) (k : Nat) (hk : k ≤ xs.length) : (fillTo xs z k).length = xs.length := by simp [fillTo]; omega
theorem fillTo_get {α : Type} (xs : List α) (z : α) (k : Nat) (hk : k < xs.length) : (fillTo xs z k)[k]? = some z := by
  unfold fillTo
  rw [List.getElem?_append_right (by simp; omega)]
  have e1 : k - (xs.take k).length = 0 := by simp; omega
  rw [e1, show xs.length - k = (xs.length - (k + 1)) + 1 from by omega, List.replicate_succ]; rfl
theorem fillTo_set {α : Type} (xs : List α) (z : α) (k : Nat) (v : α) (hv : xs[k]? = some v) : (fillTo xs z k).set k v = fillTo xs z (k + 1) := by
  obtain ⟨hk, rfl⟩ := List.getElem?_eq_some_iff.1 hv
  unfold fillTo
  rw [List.set_append_right _ _ (by simp; omega)]
  have e1 : k - (xs.take k).length = 0 := by simp; omega
  rw [e1, show xs.length - k = (xs.length - (k + 1)) + 1 from by omega, List.replicate_succ, List.set_cons_zero, List.take_succ_eq_append_getElem hk, List.append_assoc]
  rfl

theorem info_int : (Tryz.prog.info? 3).map (fun i => (i.zero, i.size, i.bytes)) = some (some (.int .i64 0), 1, 8) := by kernel_rfl
/-- 'make([]int, n)' -/
theorem make_ints (n : Nat) (hn : n ≤ 2097152) (u : World) : (Instr.makeSlice 36 (.int .i64 (n : Int)) (.int .i64 (n : Int))).run Tryz.prog u =
    .ok (.slice (some ⟨u.heap.size, 0, none⟩) n n) (u.alloc (.cells (List.replicate n (Value.int .i64 0)).toArray 3)) := by
  obtain ⟨i0, hi, hz0, hz1, hz2⟩ := info_parts info_int
  have h := run_make (P := Tryz.prog) u 36 3 i0 (.int .i64 0) Tryz.underlying36 hi hz0 .i64 .i64 (n : Int) (n : Int) (by omega) (Int.le_refl _) (by rw [hz2]; omega) (by omega)
  have e1 : madeCells #[Value.int .i64 0] n = (List.replicate n (Value.int .i64 0)).toArray := by
    apply Array.ext'
    rw [toList_madeCells_one]
  rw [← e1]
  simpa [hz1, Value.cells] using h

/-- an argument: a slice of integers -/
structure IntsArg (w : World) (a : Option Addr) (len : Nat) (zs : List Int) : Prop where
  size : zs.length = len
  most : len ≤ maxLen
  reads : Reads w a (ints zs)
  range : ∀ z ∈ zs, -9223372036854775808 ≤ z ∧ z ≤ 9223372036854775807


theorem take_eq_succ {α : Type} {xs ys : List α} {k : Nat} (h : xs.take k = ys.take k) (hx : k < xs.length) (hy : k < ys.length) (e : xs[k] = ys[k]) : xs.take (k + 1) = ys.take (k + 1) := by
  rw [List.take_succ_eq_append_getElem hx, List.take_succ_eq_append_getElem hy, h, e]

end Go.Proofs.YtmnlkcclcnnhmaaGreatDoor
