/- Rows of rows of numbers: eqIntSS, markIntSS, heldIntSS. -/
import Derived.Test.YtieopadbbciciaaRowX
import Derived.Test.YtieopadbbciciaaQuiet
import Derived.Test.YtieopadbbciciaaMarkS
namespace Go.Proofs.Ytieopadbbciciaa
open Go.RowKit

/-- an inner row: where it lies, and what it holds -/
structure Row2 where
  ad : Option Addr
  cap : Nat
  zs : List Int
abbrev Row2.val (r : Row2) : Value := .slice r.ad r.zs.length r.cap
def rows2 (rs : List Row2) : List Value := rs.map Row2.val
theorem rows2_get {rs : List Row2} {k : Nat} (h : k < rs.length) : (rows2 rs)[k]? = some rs[k].val := by simp [rows2, h]
theorem rows2_length (rs : List Row2) : (rows2 rs).length = rs.length := by simp [rows2]
def zss (rs : List Row2) : List (List Int) := rs.map Row2.zs
/-- how many numbers the first j rows hold -/
def offs (rs : List Row2) (j : Nat) : Nat := ((rs.take j).map (·.zs.length)).sum
theorem offs_zero (rs : List Row2) : offs rs 0 = 0 := by simp [offs]
theorem offs_succ {rs : List Row2} {j : Nat} (h : j < rs.length) : offs rs (j + 1) = offs rs j + rs[j].zs.length := by
  unfold offs; rw [List.take_succ_eq_append_getElem h, List.map_append, List.sum_append]; simp
theorem offs_mono (rs : List Row2) : ∀ {i j : Nat}, i ≤ j → j ≤ rs.length → offs rs i ≤ offs rs j := by
  intro i j hij hj
  induction j with
  | zero => rw [show i = 0 by omega]; exact Nat.le_refl _
  | succ j ih =>
    rcases Nat.lt_or_ge j i with h | h
    · rw [show i = j + 1 by omega]; exact Nat.le_refl _
    · have := ih h (by omega)
      rw [offs_succ (by omega)]; omega
/-- the rows with their numbers counted from k on -/
def marked (k : Int) (rs : List Row2) : List Row2 := (List.range rs.length).map fun i => match rs[i]? with
  | some r => { r with zs := cnt (k + (offs rs i : Int)) r.zs.length }
  | none => ⟨none, 0, []⟩
theorem marked_length (k : Int) (rs : List Row2) : (marked k rs).length = rs.length := by simp [marked]
theorem marked_get {k : Int} {rs : List Row2} {i : Nat} (h : i < rs.length) : (marked k rs)[i]'(by rw [marked_length]; exact h) = { rs[i] with zs := cnt (k + (offs rs i : Int)) rs[i].zs.length } := by
  simp [marked, h]
/-- the first j rows marked -/
def markTo (k : Int) (rs : List Row2) (j : Nat) : List Row2 := (marked k rs).take j ++ rs.drop j
theorem markTo_zero (k : Int) (rs : List Row2) : markTo k rs 0 = rs := by simp [markTo]
theorem markTo_all (k : Int) (rs : List Row2) : markTo k rs rs.length = marked k rs := by
  rw [markTo, List.drop_length, List.append_nil, List.take_of_length_le (by rw [marked_length]; exact Nat.le_refl _)]
theorem markTo_length {k : Int} {rs : List Row2} {j : Nat} (h : j ≤ rs.length) : (markTo k rs j).length = rs.length := by
  rw [markTo, List.length_append, List.length_take, List.length_drop, marked_length]; omega
theorem markTo_get {k : Int} {rs : List Row2} {j : Nat} (h : j < rs.length) : (markTo k rs j)[j]'(by rw [markTo_length (by omega)]; exact h) = rs[j] := by
  simp only [markTo]
  rw [List.getElem_append_right (by simp [marked_length]; omega)]
  simp [marked_length, show min j rs.length = j by omega]
theorem markTo_set {k : Int} {rs : List Row2} {j : Nat} (h : j < rs.length) : (markTo k rs j).set j { rs[j] with zs := cnt (k + (offs rs j : Int)) rs[j].zs.length } = markTo k rs (j + 1) := by
  have hm : j < (marked k rs).length := by rw [marked_length]; exact h
  unfold markTo
  rw [List.set_append_right _ _ (by simp [marked_length]; omega), List.take_succ_eq_append_getElem hm, marked_get h, show j - ((marked k rs).take j).length = 0 by simp [marked_length]; omega, List.drop_eq_getElem_cons h, List.set_cons_zero, List.append_assoc]
  rfl
/-- a row of rows of the call's own, no two in one block -/
structure Own2 (w : World) (base : Nat) (v : Value) (rs : List Row2) : Prop where
  outer : w.ownsRow base 24 1 v rs.length (rows2 rs)
  inner : ∀ k (h : k < rs.length), w.ownsRow base 3 1 rs[k].val rs[k].zs.length (ints rs[k].zs)
  apart : ∀ i j (hi : i < rs.length) (hj : j < rs.length), i ≠ j → ∀ q, rs[i].val.ownBlock = some q → rs[j].val.ownBlock ≠ some q
  split : ∀ k (h : k < rs.length) q, rs[k].val.ownBlock = some q → v.ownBlock ≠ some q
section
variable {w w' : World} {base : Nat} {v : Value} {rs : List Row2}
theorem Own2.below (h : Own2 w base v rs) (hb : Below w.heap.size w w') : Own2 w' base v rs :=
  ⟨own_below h.outer hb, fun k hk => own_below (h.inner k hk) hb, h.apart, h.split⟩
theorem Own2.dr (h : Own2 w base v rs) (hd : Dr w w') : Own2 w' base v rs := h.below (hd.below _)
theorem Own2.far (h : Own2 w base v rs) {B : Nat} (hb : Below B w w') (h1 : ∀ q, v.ownBlock = some q → q < B) (h2 : ∀ k (hk : k < rs.length) q, rs[k].val.ownBlock = some q → q < B) : Own2 w' base v rs := by
  have keep : ∀ {e : TypeId} {u : Value} {n : Nat} {xs : List Value}, w.ownsRow base e 1 u n xs → (∀ q, u.ownBlock = some q → q < B) → w'.ownsRow base e 1 u n xs := fun {e u n xs} hu hq => by
    rcases hu with ⟨hl, h0 | ⟨g, c, cur, e1, e2, e3, e4⟩⟩
    · exact ⟨hl, .inl h0⟩
    · refine ⟨hl, .inr ⟨g, c, cur, e1, e2, ?_, e4⟩⟩
      rw [hb.block g (hq g (by rw [e1]; rfl))]; exact e3
  exact ⟨keep h.outer h1, fun k hk => keep (h.inner k hk) (h2 k hk), h.apart, h.split⟩
theorem Own2.lt (h : Own2 w base v rs) : (∀ q, v.ownBlock = some q → q < w.heap.size) ∧ (∀ k (hk : k < rs.length) q, rs[k].val.ownBlock = some q → q < w.heap.size) :=
  ⟨fun q hq => (h.outer.lt q hq).2, fun k hk q hq => ((h.inner k hk).lt q hq).2⟩
theorem Own2.grown_hi {row : Option Nat} {B : Nat} (h : Own2 w base v rs) (hg : w.grownBy w' row) (hb : (∀ q, v.ownBlock = some q → q < B) ∧ (∀ k (hk : k < rs.length) q, rs[k].val.ownBlock = some q → q < B)) (hr : ∀ q, row = some q → B ≤ q) : Own2 w' base v rs :=
  ⟨own_kept h.outer hg (fun q hq e => by have := hb.1 q hq; have := hr q e; omega), fun k hk => own_kept (h.inner k hk) hg (fun q hq e => by have := hb.2 k hk q hq; have := hr q e; omega), h.apart, h.split⟩
theorem Own2.grown_lo {row : Option Nat} (h : Own2 w base v rs) (hg : w.grownBy w' row) (hr : ∀ q, row = some q → q < base) : Own2 w' base v rs :=
  ⟨own_kept h.outer hg (fun q hq e => by have := (h.outer.lt q hq).1; have := hr q e; omega), fun k hk => own_kept (h.inner k hk) hg (fun q hq e => by have := ((h.inner k hk).lt q hq).1; have := hr q e; omega), h.apart, h.split⟩
theorem own_under {e : TypeId} {u : Value} {b n sz B : Nat} {xs : List Value} (hu : w.ownsRow b e sz u n xs) (hb : Below B w w') (hq : ∀ q, u.ownBlock = some q → q < B) : w'.ownsRow b e sz u n xs := by
  rcases hu with ⟨hl, h0 | ⟨g, c, cur, e1, e2, e3, e4⟩⟩
  · exact ⟨hl, .inl h0⟩
  · refine ⟨hl, .inr ⟨g, c, cur, e1, e2, ?_, e4⟩⟩
    rw [hb.block g (hq g (by rw [e1]; rfl))]; exact e3
end
theorem offs_bd {rs : List Row2} {M : Nat} (h : ∀ r ∈ rs, r.zs.length ≤ M) : ∀ j, j ≤ rs.length → offs rs j ≤ j * M := by
  intro j
  induction j with
  | zero => intro _; rw [offs_zero]; omega
  | succ j ih =>
    intro hj
    have := ih (by omega)
    have h2 := h _ (List.getElem_mem (show j < rs.length by omega))
    rw [offs_succ (by omega), Nat.add_mul]
    omega
end Go.Proofs.Ytieopadbbciciaa
