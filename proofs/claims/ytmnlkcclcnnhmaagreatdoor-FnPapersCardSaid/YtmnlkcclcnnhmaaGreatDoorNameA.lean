/- append within a region that draws its order: whatever number is appended, none too; the row's own blocks lie at or behind a base. -/
import Derived.Test.YtmnlkcclcnnhmaaGreatDoorRowX
import Derived.Deep.Onto
import Derived.RegionTactic
namespace Go.Proofs.YtmnlkcclcnnhmaaGreatDoor
open Go.RowKit

section
variable {P : Program} (w : World)
theorem step_append_any {ops : Array Oper} {o : Oper} {a : Act} {K : Act → World → Prop} {Q : Exit → Act → World → Prop} {E : Prop} (hgd : o.guard = none) (s x : Operand) (t : TypeId)
    (ho : o.op = .call { callee := .builtin .append, args := #[s, x], argTypes := #[t, t] })
    (base : Nat) (e : TypeId) (i : TypeInfo) (z : Value) (size bytes : Nat) (ht : P.underlying t = some (.slice e)) (hi : P.info? e = some i) (hz : i.zero = some z)
    (hsize : i.size = size) (hby : i.bytes = bytes) (hzs : z.cells.size = size) (hsz : 0 < size) (v : Value) (n : Nat) (xs : List Value) (hs : a.eval s = v) (hown : w.ownsRow base e size v n xs)
    (ad : Addr) (m c : Nat) (news : List Value) (hx : a.eval x = .slice (some ad) m c) (hl : news.length = m * size) (hnews : ∀ j u, news[j]? = some u → w.cell? (ad.add j) = some u) (h1 : ∀ u ∈ news, u.oneCell' = true)
    (h63 : n + m ≤ maxLen) (hbytes : (n + m) * bytes ≤ 140737488355328) (hbase : base ≤ w.heap.size)
    (h : ∀ v' w', w'.ownsRow base e size v' (n + m) (xs ++ news) → w.grownBy w' v.ownBlock → K (a.put o.dst v') w') :
    if Region.wanted o (yielded ops a.tmps) = true then Oper.wp P o a w K Q else E := by
  have hw : Region.wanted o (yielded ops a.tmps) = true := by simp [Region.wanted, hgd]
  rw [if_pos hw]
  obtain ⟨v', w', hr, h2, h3, _⟩ := run_append_own (P := P) w base t o.type e i z size bytes ht hi hz hsize hby hzs hsz v n xs hown ad m c news hl hnews h1 h63 hbytes hbase
  unfold Oper.wp execOp
  simp only [ho, resolve, invoke, builtin, Sem.run_bind, Sem.run_pure, Result.andThen_ok, List.map_toArray, List.map_cons, List.map_nil, hs, hx, hr]
  exact h v' w' h2 h3
end
/-- behind an append to a row that lies at or behind the base: what lay ahead of the base is as it was -/
theorem below_app {w0 w w' : World} {base n sz : Nat} {e : TypeId} {v : Value} {xs : List Value} (hb : Below base w0 w) (ho : w.ownsRow base e sz v n xs) (hg : w.grownBy w' v.ownBlock) (hs : base ≤ w.heap.size) : Below base w0 w' :=
  hb.grown hg hs (fun q hq => (ho.lt q hq).1)
theorem emp_new (w : World) (t : TypeId) : (w.alloc (.cells #[] t)).ownsRow w.heap.size t 1 (.slice (some ⟨w.heap.size, 0, none⟩) 0 0) 0 [] :=
  RowIs.owns (RowIs.new w t []) (n := 0) (sz := 1) rfl (by unfold maxLen; omega) (Nat.le_refl _)
theorem emp_second (w : World) (o : Obj) (t : TypeId) : ((w.alloc o).alloc (.cells #[] t)).ownsRow w.heap.size t 1 (.slice (some ⟨w.heap.size + 1, 0, none⟩) 0 0) 0 [] := by
  have h := RowIs.new (w.alloc o) t []
  rw [show (w.alloc o).heap.size = w.heap.size + 1 by simp] at h
  exact RowIs.owns h (n := 0) (sz := 1) rfl (by unfold maxLen; omega) (by omega)
theorem own_cap {w : World} {base n cap sz g : Nat} {e : TypeId} {xs : List Value} (h : w.ownsRow base e sz (.slice (some ⟨g, 0, none⟩) n cap) n xs) : n ≤ cap ∧ cap ≤ maxLen ∧ base ≤ g ∧ g < w.heap.size := by
  rcases h.2 with ⟨h0, _⟩ | ⟨g', c, cur, e1, hb, hg, hnc, hcm, hcs, htake⟩
  · simp at h0
  · simp only [Value.slice.injEq, Option.some.injEq, Addr.mk.injEq, and_true, true_and] at e1
    obtain ⟨rfl, rfl⟩ := e1
    exact ⟨hnc, hcm, hb, (Array.getElem?_eq_some_iff.1 hg).1⟩
theorem own_cells {w : World} {base n cap g : Nat} {e : TypeId} {xs : List Value} (h : w.ownsRow base e 1 (.slice (some ⟨g, 0, none⟩) n cap) n xs) : ∀ j u, xs[j]? = some u → w.cell? ⟨g, j, none⟩ = some u := by
  intro j u hj
  have h2 := h.cells (g := g) rfl j u hj
  by_cases h0 : j = 0
  · subst h0; simpa [Addr.add] using h2
  · simpa [Addr.add, h0] using h2
theorem add_at (g k j : Nat) : (⟨g, k, none⟩ : Addr).add j = ⟨g, k + j, none⟩ := by
  by_cases h0 : j = 0
  · subst h0; simp [Addr.add]
  · simp [Addr.add, h0]
theorem cell_new (w : World) (v : Value) (t : TypeId) : (w.alloc (.cells #[v] t)).cell? ⟨w.heap.size, 0, none⟩ = some v :=
  (Go.Joins.cell_of_block (heap_alloc_new w _) 0).trans rfl
theorem cell_second (w : World) (o : Obj) (v : Value) (t : TypeId) : ((w.alloc o).alloc (.cells #[v] t)).cell? ⟨w.heap.size + 1, 0, none⟩ = some v := by
  have h := cell_new (w.alloc o) v t
  rw [show (w.alloc o).heap.size = w.heap.size + 1 by simp] at h
  exact h
theorem cell_first (w : World) (v : Value) (t : TypeId) (o : Obj) : ((w.alloc (.cells #[v] t)).alloc o).cell? ⟨w.heap.size, 0, none⟩ = some v :=
  ((Go.Joins.below_alloc1 (w.alloc (.cells #[v] t)) o).cell (p := ⟨w.heap.size, 0, none⟩) (by simp)).trans (cell_new w v t)
theorem bl1 (w : World) (o : Obj) : Below w.heap.size w (w.drew.alloc o) := ((Below.refl w.heap.size w).drew).alloc (Nat.le_refl _) o
theorem bl2 (w : World) (o o2 : Obj) : Below w.heap.size w ((w.drew.alloc o).alloc o2) := (bl1 w o).alloc (bl1 w o).size o2
theorem keepA {w w2 : World} {v : Value} {t : TypeId} (hg : ((w.drew.alloc (.cells #[] t)).alloc (.cells #[v] t)).grownBy w2 (Value.slice (some ⟨w.heap.size, 0, none⟩) 0 0).ownBlock) : w2.cell? ⟨w.heap.size + 1, 0, none⟩ = some v := by
  refine (grownBy_cell hg (p := ⟨w.heap.size + 1, 0, none⟩) ?_ ?_).trans (cell_second w.drew _ v t)
  · simp
  · simp [Value.ownBlock]
theorem keepC {w w2 : World} {v : Value} {t : TypeId} (hg : ((w.drew.alloc (.cells #[v] t)).alloc (.cells #[] t)).grownBy w2 (Value.slice (some ⟨w.heap.size + 1, 0, none⟩) 0 0).ownBlock) : w2.cell? ⟨w.heap.size, 0, none⟩ = some v := by
  refine (grownBy_cell hg (p := ⟨w.heap.size, 0, none⟩) ?_ ?_).trans (cell_first w.drew v t _)
  · simp; omega
  · simp [Value.ownBlock]
theorem one_news {w : World} {b : Nat} {v : Value} (h : w.cell? ⟨b, 0, none⟩ = some v) : ∀ j u, [v][j]? = some u → w.cell? ((⟨b, 0, none⟩ : Addr).add j) = some u := by
  intro j u hj
  match j, hj with
  | 0, hj => simp at hj; subst hj; simpa [Addr.add] using h
end Go.Proofs.YtmnlkcclcnnhmaaGreatDoor
