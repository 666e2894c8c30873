/- Rows of the call's own beside each other: what a store or an append leaves. -/
import Derived.Test.YtmnlkcclcnnhmaaGreatDoorOwn
import Derived.Test.YtmnlkcclcnnhmaaGreatDoorIntS
namespace Go.Proofs.YtmnlkcclcnnhmaaGreatDoor
open Go.RowKit

theorem grownBy_setCell (w : World) (p : Addr) (v : Value) : w.grownBy (w.setCell p v) (some p.block) :=
  ⟨rfl, rfl, rfl, by simp, fun k _ hne => Below.heap_setCell w p v k (fun e => hne (by rw [e]))⟩
/-- the second and the third of three new blocks of one cell -/
theorem three_new (w : World) (o1 : Obj) (v2 v3 : Value) (t2 t3 : TypeId) : RowIs (((w.alloc o1).alloc (.cells #[v2] t2)).alloc (.cells #[v3] t3)) (w.heap.size + 1) t2 [v2] ∧ RowIs (((w.alloc o1).alloc (.cells #[v2] t2)).alloc (.cells #[v3] t3)) (w.heap.size + 1 + 1) t3 [v3] := by
  have h2 := heap_alloc_new (w.alloc o1) (.cells #[v2] t2)
  have s1 : (w.alloc o1).heap.size = w.heap.size + 1 := by simp
  rw [s1] at h2
  have h3 := heap_alloc_new ((w.alloc o1).alloc (.cells #[v2] t2)) (.cells #[v3] t3)
  have s2 : ((w.alloc o1).alloc (.cells #[v2] t2)).heap.size = w.heap.size + 1 + 1 := by simp
  rw [s2] at h3
  exact ⟨(Below.heap_alloc _ _ (w.heap.size + 1) (by rw [s2]; omega)).trans h2, h3⟩
theorem two_new (w : World) (v1 v2 : Value) (t1 t2 : TypeId) : RowIs ((w.alloc (.cells #[v1] t1)).alloc (.cells #[v2] t2)) w.heap.size t1 [v1] ∧ RowIs ((w.alloc (.cells #[v1] t1)).alloc (.cells #[v2] t2)) (w.heap.size + 1) t2 [v2] := by
  have h1 := heap_alloc_new w (.cells #[v1] t1)
  have h2 := heap_alloc_new (w.alloc (.cells #[v1] t1)) (.cells #[v2] t2)
  have s1 : (w.alloc (.cells #[v1] t1)).heap.size = w.heap.size + 1 := by simp
  rw [s1] at h2
  exact ⟨(Below.heap_alloc _ _ w.heap.size (by rw [s1]; omega)).trans h1, h2⟩
theorem cell_later {w w' : World} {p : Addr} {v : Value} (hb : Below w.heap.size w w') (h : w.cell? p = some v) : w'.cell? p = some v := (hb.cell (World.block_lt_of_cell? w p h)).trans h
theorem Reads.drew {w : World} {a : Option Addr} {xs : List Value} (h : Reads w a xs) : Reads w.drew a xs := h
theorem RowIs.new (w : World) (e : TypeId) (xs : List Value) : RowIs (w.alloc (.cells xs.toArray e)) w.heap.size e xs := by
  unfold RowIs
  rw [heap_alloc_new w (.cells xs.toArray e)]
theorem below_grown' {w w' : World} (h : Below w.heap.size w w') (row : Option Nat) : w.grownBy w' row := ⟨h.os, h.tape, h.output, h.size, fun k hk _ => h.block k hk⟩
section
variable {w w' : World} {g g' : Nat} {e e' : TypeId} {xs ys : List Value}
theorem RowIs.grown {row : Option Nat} (h : RowIs w g e xs) (hg : w.grownBy w' row) (hne : some g ≠ row) : RowIs w' g e xs := (hg.block g h.lt hne).trans h
theorem RowIs.far (h : RowIs w g e xs) {p : Addr} (hp : g ≠ p.block) (u : Value) : RowIs (w.setCell p u) g e xs := (Below.heap_setCell w p u g hp).trans h
theorem RowIs.alloc (h : RowIs w g e xs) (o : Obj) : RowIs (w.alloc o) g e xs := (Below.heap_alloc w o g h.lt).trans h
theorem RowIs.ne (h : RowIs w g e xs) (h' : RowIs w g' e' ys) (hne : e ≠ e') : g ≠ g' := by
  rintro rfl
  unfold RowIs at h h'
  rw [h] at h'
  injection h' with h'
  injection h' with _ ht
  exact hne ht
theorem own_row_ne {base n sz : Nat} {v : Value} (h : w.ownsRow base e sz v n xs) (hr : RowIs w g e' ys) (hne : e ≠ e') : v.ownBlock ≠ some g := by
  rcases h.2 with ⟨rfl, _⟩ | ⟨g', cap, cur, rfl, _, hh, _⟩
  · simp [Value.ownBlock]
  · intro he
    have : g' = g := by simpa [Value.ownBlock] using he
    subst this
    unfold RowIs at hr
    rw [hh] at hr
    injection hr with hr
    injection hr with _ ht
    exact hne ht
theorem own_far {base n sz : Nat} {v : Value} (h : w.ownsRow base e sz v n xs) {p : Addr} (hp : v.ownBlock ≠ some p.block) (u : Value) : (w.setCell p u).ownsRow base e sz v n xs :=
  own_kept h (grownBy_setCell w p u) (fun q hq e => hp (by rw [hq]; exact e.symm))
end
end Go.Proofs.YtmnlkcclcnnhmaaGreatDoor
