/- An argument: a slice of texts, opened; a block by value, opened. -/
import Derived.Test.YtbgfdhghhaoabaaArgs
import Derived.Test.YtbgfdhghhaoabaaStrS
import Derived.SliceStrings
import Derived.ChangeArms
namespace Go.Proofs.Ytbgfdhghhaoabaa
open Go.ChangeShapes Go.WideShapes Go.ChangeAt Go.RowKit

structure StrsIn (w : World) (s : Slc) (zs : List ByteArray) : Prop where
  size : zs.length = s.len
  most : s.len ≤ maxLen
  reads : Reads w s.ad (strs zs)
  fits : ∀ z ∈ zs, z.size ≤ maxLen
theorem strings_of_trod {H : Type} {enc : TypeId × Value → H} {W : World} {base fuel : Nat} {held : Bool} {cs : List Value} {x : DataW H × List MemPlace} (hf : DataW.trod enc Try.prog W base (fun _ => true) held fuel 27 cs = some x) :
    ∃ x : Slc × List ByteArray, cs = [x.1.val] ∧ StrsIn W x.1 x.2 := by
  rcases open_strings Try.underlying27 Try.underlying9 (by kernel_rfl) hf with ⟨hcs, _⟩ | ⟨x, len, cap, zs, hcs, _, hl, hm, hz, _, hcell, hwz⟩
  · subst hcs
    exact ⟨(⟨none, 0, 0⟩, []), rfl, rfl, by simp [maxLen], .inl rfl, by simp⟩
  · subst hcs
    have hz' : zs.length = cap := by simpa using hz
    refine ⟨(⟨some x, len, cap⟩, zs.take len), rfl, by simp; omega, by show len ≤ maxLen; omega, ?_, fun z hz2 => hwz z (List.mem_of_mem_take hz2)⟩
    refine reads_of_cells (len := len) (by simp [strs]; omega) (fun i u hu => ?_)
    obtain ⟨hi, rfl⟩ := List.getElem?_eq_some_iff.1 hu
    simp [strs] at hi
    have := hcell i (by omega)
    simp only [strs, List.getElem_map, List.getElem_take]
    rw [this]
    simp [List.getD, show i < zs.length by omega]
theorem arg_strings {H : Type} {enc : TypeId × Value → H} {W : World} {base : Nat} {v : Value} {d : DataW H} {p : List MemPlace} (hv : Value.okWide Try.prog W .any base 27 v) (h : DataW.Trod enc Try.prog W 0 (fun _ => true) true 27 v d p) :
    ∃ x : Slc × List ByteArray, v = x.1.val ∧ StrsIn W x.1 x.2 := by
  obtain ⟨a, len, cap, rfl⟩ := okWide_slice Try.underlying27 hv
  obtain ⟨fuel, hf⟩ := h
  obtain ⟨x, hx, hs⟩ := strings_of_trod hf
  exact ⟨x, by simpa [Value.cells] using hx, hs⟩
end Go.Proofs.Ytbgfdhghhaoabaa
