/- Arguments of the laws, opened: what the walk is told of each. -/
import Derived.Test.YtiiifoieigmfoaaFrame
import Derived.Test.YtiiifoieigmfoaaMarkS
import Derived.Deep.Slices
namespace Go.Proofs.Ytiiifoieigmfoaa
open Go.ChangeShapes Go.WideShapes Go.ChangeAt Go.RowKit

/-- a slice value -/
structure Slc where
  ad : Option Addr
  len : Nat
  cap : Nat
abbrev Slc.val (s : Slc) : Value := .slice s.ad s.len s.cap

theorem range_i64 {n : Int} (h : (Lit.int .i64 n).wf = true) : -9223372036854775808 ≤ n ∧ n ≤ 9223372036854775807 := by
  simpa [Lit.wf, IntKind.min, IntKind.max, IntKind.signed, IntKind.bits] using h
theorem range_u8 {n : Int} (h : (Lit.int .u8 n).wf = true) : 0 ≤ n ∧ n ≤ 255 := by
  simpa [Lit.wf, IntKind.min, IntKind.max, IntKind.signed, IntKind.bits] using h

structure IntsIn (w : World) (s : Slc) (zs : List Int) : Prop where
  size : zs.length = s.len
  most : s.len ≤ maxLen
  reads : Reads w s.ad (ints zs)
  range : ∀ z ∈ zs, -9223372036854775808 ≤ z ∧ z ≤ 9223372036854775807

theorem reads_of_cells {w : World} {a : Addr} {len : Nat} {xs : List Value} (hl : xs.length = len) (h : ∀ i u, xs[i]? = some u → w.cell? (a.add i) = some u) : Reads w (some a) xs := by
  by_cases h0 : xs = []
  · exact .inl h0
  · right
    have hpos : 0 < xs.length := by cases xs with | nil => exact absurd rfl h0 | cons => simp
    have hc := h 0 xs[0] (List.getElem?_eq_getElem hpos)
    obtain ⟨b, off, spot⟩ := a
    have hspot : spot = none := by simpa [Addr.add] using World.cell?_spot hc
    subst hspot
    refine ⟨b, off, rfl, ?_, fun j u hu => ?_⟩
    · have := World.block_lt_of_cell? w _ hc
      simpa [Addr.add] using this
    · have := h j u hu
      have hadd : (⟨b, off, none⟩ : Addr).add j = ⟨b, off + j, none⟩ := by unfold Addr.add; split <;> simp_all
      rw [hadd] at this; exact this

end Go.Proofs.Ytiiifoieigmfoaa
