/- Arguments of the laws, opened: what the walk is told of each. -/
import Derived.Test.YtmnlkcclcnnhmaaGreatDoorFrame
import Derived.Test.YtmnlkcclcnnhmaaGreatDoorMarkS
import Derived.Deep.Slices
namespace Go.Proofs.YtmnlkcclcnnhmaaGreatDoor
open Go.ChangeShapes Go.WideShapes Go.ChangeAt Go.RowKit

/-- a slice value -/
structure Slc where
  ad : Option Addr
  len : Nat
  cap : Nat
abbrev Slc.val (s : Slc) : Value := .slice s.ad s.len s.cap

theorem range_i64 {n : Int} (h : (Lit.int .i64 n).wf = true) : -9223372036854775808 ≤ n ∧ n ≤ 9223372036854775807 := by
  simpa [Lit.wf, IntKind.min, IntKind.max, IntKind.signed, IntKind.bits] using h
theorem range_u8 {n : Int} (h : (Lit.int .u8 n).wf = true) : 0 ≤ n ∧ n ≤ 255 := by
  simpa [Lit.wf, IntKind.min, IntKind.max, IntKind.signed, IntKind.bits] using h

structure IntsIn (w : World) (s : Slc) (zs : List Int) : Prop where
  size : zs.length = s.len
  most : s.len ≤ maxLen
  reads : Reads w s.ad (ints zs)
  range : ∀ z ∈ zs, -9223372036854775808 ≤ z ∧ z ≤ 9223372036854775807

theorem reads_of_cells {w : World} {a : Addr} {len : Nat} {xs : List Value} (hl : xs.length = len) (h : ∀ i u, xs[i]? = some u → w.cell? (a.add i) = some u) : Reads w (some a) xs := by
  by_cases h0 : xs = []
  · exact .inl h0
  · right
    have hpos : 0 < xs.length := by cases xs with | nil => exact absurd rfl h0 | cons => simp
    have hc := h 0 xs[0] (List.getElem?_eq_getElem hpos)
    obtain ⟨b, off, spot⟩ := a
    have hspot : spot = none := by simpa [Addr.add] using World.cell?_spot hc
    subst hspot
    refine ⟨b, off, rfl, ?_, fun j u hu => ?_⟩
    · have := World.block_lt_of_cell? w _ hc
      simpa [Addr.add] using this
    · have := h j u hu
      have hadd : (⟨b, off, none⟩ : Addr).add j = ⟨b, off + j, none⟩ := by unfold Addr.add; split <;> simp_all
      rw [hadd] at this; exact this

set_option maxRecDepth 100000 in
theorem arg_ints {H : Type} {enc : TypeId × Value → H} {W : World} {base : Nat} {v : Value} {d : DataW H} {p : List MemPlace} (hv : Value.okWide Tryz.prog W .any base 36 v) (h : DataW.Trod enc Tryz.prog W 0 (fun _ => true) true 36 v d p) :
    ∃ x : Slc × List Int, v = x.1.val ∧ IntsIn W x.1 x.2 := by
  obtain ⟨a, len, cap, rfl⟩ := okWide_slice Tryz.underlying36 hv
  obtain ⟨fuel, hf⟩ := h
  rcases open_ints Tryz.underlying36 Tryz.underlying3 (by kernel_rfl) hf with ⟨hcs, _⟩ | ⟨x, l, c, zs, hcs, _, hl, hm, hz, _, hcell, hwz⟩
  · simp [Value.cells] at hcs
    obtain ⟨rfl, rfl, rfl⟩ := hcs
    exact ⟨(⟨none, 0, 0⟩, []), rfl, rfl, by simp [maxLen], .inl rfl, by simp⟩
  · simp [Value.cells] at hcs
    obtain ⟨rfl, rfl, rfl⟩ := hcs
    have hz' : zs.length = cap := by simpa using hz
    refine ⟨(⟨some x, len, cap⟩, zs.take len), rfl, by simp; omega, by show len ≤ maxLen; omega, ?_, fun z hz2 => range_i64 (hwz z (List.mem_of_mem_take hz2))⟩
    refine reads_of_cells (len := len) (by simp [ints]; omega) (fun i u hu => ?_)
    obtain ⟨hi, rfl⟩ := List.getElem?_eq_some_iff.1 hu
    simp [ints] at hi
    have := hcell i (by omega)
    simp only [ints, List.getElem_map, List.getElem_take]
    rw [this]
    simp [List.getD, show i < zs.length by omega]
end Go.Proofs.YtmnlkcclcnnhmaaGreatDoor
