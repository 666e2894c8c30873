/- A number drawn out of a list that is written out. -/
import Derived.Test.YtmnlkcclcnnhmaaGreatDoorCurD
namespace Go.Proofs.YtmnlkcclcnnhmaaGreatDoor
open Go.RowKit

/-- 'c.among([]int{..})': the list is built first -/
theorem among_lit (g n : Nat) (zs : List Int) (w : World) (h : Cur w g n) (hn : n ≤ 1048570) (h1 : 2 ≤ zs.length) (h2 : zs.length ≤ 200) (os : Array Value) (ho : os = (ints zs).toArray) (k : Nat) (hk : k = zs.length) :
    Calls Tryz.prog 40 #[.pointer (some ⟨g, 0, none⟩), .slice (some ⟨w.heap.size, 0, none⟩) k k] (w.alloc (.cells os 3)) (Drawn w g (n + 2) (fun t => t ∈ zs)) := by
  subst ho; subst hk
  have hb := Go.Joins.below_alloc1 w (.cells (ints zs).toArray 3)
  have H0 := among_any g n zs.length (some ⟨w.heap.size, 0, none⟩) zs (w.alloc (.cells (ints zs).toArray 3)) (h.below hb) hn h1 h2 (RowIs.new w 3 (ints zs)).reads
    (fun p hp => by injection hp with hp; rw [← hp]; exact Nat.ne_of_gt h.lt)
  exact H0.mono fun _ _ ⟨t, e, ht, hc, hg⟩ => ⟨t, e, ht, hc, grownBy_trans (World.grownBy_alloc w _ (some g)) hg⟩
theorem grown_set {w w' : World} {row : Option Nat} {p : Addr} (h : w.grownBy w' row) (hp : w.heap.size ≤ p.block) (v : Value) : w.grownBy (w'.setCell p v) row :=
  ⟨h.os, h.tape, h.output, Nat.le_trans h.size (by simp), fun k hk hne => (Below.heap_setCell w' p v k (by omega)).trans (h.block k hk hne)⟩
theorem grown_alloc {w w' : World} {row : Option Nat} (h : w.grownBy w' row) (o : Obj) : w.grownBy (w'.alloc o) row := grownBy_trans h (World.grownBy_alloc w' o row)
theorem grown_below {w w' w'' : World} {row : Option Nat} (h : w.grownBy w' row) (hb : Below w'.heap.size w' w'') : w.grownBy w'' row := grownBy_trans h (below_grown' hb row)
theorem Cur.set {w : World} {g n : Nat} (h : Cur w g n) {p : Addr} (hp : g < p.block) (v : Value) : Cur (w.setCell p v) g n := h.kept (grownBy_setCell w p v) (fun q hq => by injection hq with hq; omega)
theorem Cur.alloc {w : World} {g n : Nat} (h : Cur w g n) (o : Obj) : Cur (w.alloc o) g n := h.below (Go.Joins.below_alloc1 w o)
end Go.Proofs.YtmnlkcclcnnhmaaGreatDoor
