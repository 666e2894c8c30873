/- Rebuildings, in plain lists: all ways to lay blocks on a sheet, in order. -/
import Derived.Test.YtenedmkjbmbapaaPlaceS
import Derived.Test.YtenedmkjbmbapaaLayI
namespace Go.Proofs.Ytenedmkjbmbapaa
open Go.RowKit

abbrev Leaf := List (Int × Int) × List ByteArray
def leaves : List (List ByteArray) → List ByteArray → List (Int × Int) → List Leaf
  | [], s, ps => [(ps, s)]
  | b :: bs, s, ps => (plF s b).flatMap fun p => leaves bs (layR s b p.1 p.2) (ps ++ [p])
/-- told one by one, until it is enough -/
def runL {σ : Type} (step : σ → Leaf → σ × Bool) : σ → List Leaf → σ × Bool
  | st, [] => (st, true)
  | st, l :: ls => if (step st l).2 = true then runL step (step st l).1 ls else ((step st l).1, false)
theorem runL_append {σ : Type} (step : σ → Leaf → σ × Bool) : ∀ (a b : List Leaf) (st : σ), runL step st (a ++ b) = if (runL step st a).2 = true then runL step (runL step st a).1 b else runL step st a := by
  intro a
  induction a with
  | nil => intro b st; simp [runL]
  | cons l a ih =>
    intro b st
    simp only [List.cons_append, runL]
    by_cases h : (step st l).2 = true
    · simp only [h, if_true]; exact ih b _
    · simp [h]
theorem runL_one {σ : Type} (step : σ → Leaf → σ × Bool) (st : σ) (l : Leaf) : runL step st [l] = step st l := by
  simp only [runL]
  by_cases h : (step st l).2 = true
  · rw [if_pos h]; exact Prod.ext rfl h.symm
  · rw [if_neg h]; exact Prod.ext rfl (by simpa using h)
/-- the leaves below the first k places -/
def leavesTo (b : List ByteArray) (bs : List (List ByteArray)) (s : List ByteArray) (ps : List (Int × Int)) (k : Nat) : List Leaf := ((plF s b).take k).flatMap fun p => leaves bs (layR s b p.1 p.2) (ps ++ [p])
theorem leavesTo_zero (b : List ByteArray) (bs : List (List ByteArray)) (s : List ByteArray) (ps : List (Int × Int)) : leavesTo b bs s ps 0 = [] := by simp [leavesTo]
theorem leavesTo_succ {b : List ByteArray} {bs : List (List ByteArray)} {s : List ByteArray} {ps : List (Int × Int)} {k : Nat} (h : k < (plF s b).length) :
    leavesTo b bs s ps (k + 1) = leavesTo b bs s ps k ++ leaves bs (layR s b ((plF s b)[k]).1 ((plF s b)[k]).2) (ps ++ [(plF s b)[k]]) := by
  unfold leavesTo
  rw [List.take_succ_eq_append_getElem h, List.flatMap_append]
  simp
theorem leavesTo_all (b : List ByteArray) (bs : List (List ByteArray)) (s : List ByteArray) (ps : List (Int × Int)) : leavesTo b bs s ps (plF s b).length = leaves (b :: bs) s ps := by
  simp [leavesTo, leaves]
/-- a sheet on which a block is laid is a sheet -/
theorem rowAt_layTo {xs ys : List ByteArray} {r c i j : Nat} (h : j < xs.length) : rowAt (layTo xs ys r c i) j = if r ≤ j ∧ j < r + i then layRow (rowAt xs j) (rowAt ys (j - r)) c else rowAt xs j := by
  rw [rowAt_of (by rw [layTo_len]; exact h), layTo_at h]
theorem size_layTo {xs ys : List ByteArray} {r c i j : Nat} (h : j < xs.length) : (rowAt (layTo xs ys r c i) j).size = (rowAt xs j).size := by
  rw [rowAt_layTo h]; split
  · exact layRow_size _ _ _
  · rfl
theorem layF_grid {xs ys : List ByteArray} {r c : Nat} (gx : gridB xs 5 = true) (gy : gridB ys 3 = true) (_ : r + ys.length ≤ xs.length) : gridB (layF xs ys r c) 5 = true := by
  simp only [gridB, Bool.and_eq_true, allB_true, rowOk] at gx gy ⊢
  unfold layF
  rw [layTo_len]
  refine ⟨gx.1, fun i hi => ?_⟩
  obtain ⟨⟨h1, h2⟩, h3⟩ := gx.2 i hi
  have h0 : 0 < xs.length := by omega
  rw [size_layTo hi, size_layTo h0]
  refine ⟨⟨h1, h2⟩, ?_⟩
  rw [rowAt_layTo hi]
  split
  · rename_i q
    rw [← allB_true]
    have hy := (gy.2 (i - r) (by omega)).2
    have := layRow_ok (x := rowAt xs i) (y := rowAt ys (i - r)) (c := c) (by rw [allB_true]; exact h3) (by rw [allB_true]; exact hy)
    rw [layRow_size] at this
    exact this
  · exact h3
theorem layR_of {xs ys : List ByteArray} {r c : Nat} (h : fitsB xs ys (r : Int) (c : Int) = true) : layR xs ys (r : Int) (c : Int) = layF xs ys r c := by
  rw [layR, if_pos h, Int.toNat_natCast, Int.toNat_natCast]
theorem layR_grid {xs ys : List ByteArray} {p : Int × Int} (gx : gridB xs 5 = true) (gy : gridB ys 3 = true) (h : p ∈ plF xs ys) : gridB (layR xs ys p.1 p.2) 5 = true := by
  obtain ⟨r, c, rfl, _, _, hf⟩ := plF_in h
  rw [layR_of hf]
  have := (fits_of hf).2.1
  exact layF_grid gx gy (by omega)
theorem layR_len {xs ys : List ByteArray} {p : Int × Int} (h : p ∈ plF xs ys) : (layR xs ys p.1 p.2).length = xs.length := by
  obtain ⟨r, c, rfl, _, _, hf⟩ := plF_in h
  rw [layR_of hf, layF, layTo_len]
theorem plF_small {xs ys : List ByteArray} {p : Int × Int} (gx : gridB xs 5 = true) (h : p ∈ plF xs ys) : -10 ≤ p.1 ∧ p.1 ≤ 10 ∧ -10 ≤ p.2 ∧ p.2 ≤ 10 := by
  obtain ⟨r, c, rfl, h1, h2, _⟩ := plF_in h
  obtain ⟨x1, x2, x3⟩ := gridB_bd gx
  have := (x3 0 (by omega)).2.2
  simp only
  omega
theorem plF_len' {xs ys : List ByteArray} (hx : gridB xs 5 = true) : (plF xs ys).length ≤ 30 := by
  obtain ⟨x1, x2, x3⟩ := gridB_bd hx
  rw [← plTo_all]
  exact plTo_len (x3 0 (by omega)).2.2 (by omega) x2
/-- how many leaves there are -/
def cntB : List (List ByteArray) → List ByteArray → Nat
  | [], _ => 1
  | b :: bs, s => ((plF s b).map fun p => cntB bs (layR s b p.1 p.2)).sum
theorem leaves_len : ∀ (bs : List (List ByteArray)) (s : List ByteArray) (ps : List (Int × Int)), (leaves bs s ps).length = cntB bs s := by
  intro bs
  induction bs with
  | nil => intro s ps; rfl
  | cons b bs ih =>
    intro s ps
    simp only [leaves, cntB, List.length_flatMap]
    congr 1
    exact List.map_congr_left fun p _ => ih _ _
def cntTo' (b : List ByteArray) (bs : List (List ByteArray)) (s : List ByteArray) (k : Nat) : Nat := (((plF s b).take k).map fun p => cntB bs (layR s b p.1 p.2)).sum
theorem cntTo'_succ {b : List ByteArray} {bs : List (List ByteArray)} {s : List ByteArray} {k : Nat} (h : k < (plF s b).length) : cntTo' b bs s (k + 1) = cntTo' b bs s k + cntB bs (layR s b ((plF s b)[k]).1 ((plF s b)[k]).2) := by
  unfold cntTo'
  rw [List.take_succ_eq_append_getElem h, List.map_append, List.sum_append]; simp
theorem cntTo'_all (b : List ByteArray) (bs : List (List ByteArray)) (s : List ByteArray) : cntTo' b bs s (plF s b).length = cntB (b :: bs) s := by simp [cntTo', cntB]
theorem cntTo'_le (b : List ByteArray) (bs : List (List ByteArray)) (s : List ByteArray) (k : Nat) : cntTo' b bs s k ≤ cntB (b :: bs) s := by
  rw [← cntTo'_all]
  unfold cntTo'
  rw [List.take_length]
  conv => rhs; rw [← List.take_append_drop k (plF s b)]
  rw [List.map_append, List.sum_append]
  omega
/-- a block in memory -/
structure BlkT where
  ad : Option Addr
  cap : Nat
  zs : List ByteArray
abbrev BlkT.val (b : BlkT) : Value := .agg #[.slice b.ad b.zs.length b.cap]
def blks (bs : List BlkT) : List Value := bs.map fun b => .slice b.ad b.zs.length b.cap
theorem blks_get {bs : List BlkT} {k : Nat} (h : k < bs.length) : (blks bs)[k]? = some (.slice bs[k].ad bs[k].zs.length bs[k].cap) := by simp [blks, h]
theorem blks_length (bs : List BlkT) : (blks bs).length = bs.length := by simp [blks]
/-- blocks that may be read -/
structure BlksAt (w : World) (a : Option Addr) (bs : List BlkT) : Prop where
  outer : Reads w a (blks bs)
  inner : ∀ b ∈ bs, Reads w b.ad (strs b.zs)
theorem BlksAt.below {w w' : World} {a : Option Addr} {bs : List BlkT} (h : BlksAt w a bs) (hb : Below w.heap.size w w') : BlksAt w' a bs := ⟨h.outer.below hb, fun b hb2 => (h.inner b hb2).below hb⟩
end Go.Proofs.Ytenedmkjbmbapaa
