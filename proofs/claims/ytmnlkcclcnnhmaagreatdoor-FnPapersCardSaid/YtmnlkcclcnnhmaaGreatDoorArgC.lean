/- An argument: a slice of bytes, opened. -/
import Derived.Test.YtmnlkcclcnnhmaaGreatDoorArgs
namespace Go.Proofs.YtmnlkcclcnnhmaaGreatDoor
open Go.ChangeShapes Go.WideShapes Go.ChangeAt Go.RowKit

abbrev bytesV (zs : List Int) : List Value := zs.map (Value.int .u8)
theorem bytesV_get {zs : List Int} {k : Nat} (h : k < zs.length) : (bytesV zs)[k]? = some (.int .u8 zs[k]) := by simp [bytesV, h]
structure BytesIn (w : World) (s : Slc) (zs : List Int) : Prop where
  size : zs.length = s.len
  most : s.len ≤ maxLen
  reads : Reads w s.ad (bytesV zs)
  range : ∀ z ∈ zs, 0 ≤ z ∧ z ≤ 255
set_option maxRecDepth 100000 in
theorem arg_bytes {H : Type} {enc : TypeId × Value → H} {W : World} {base : Nat} {v : Value} {d : DataW H} {p : List MemPlace} (hv : Value.okWide Tryz.prog W .any base 22 v) (h : DataW.Trod enc Tryz.prog W 0 (fun _ => true) true 22 v d p) :
    ∃ x : Slc × List Int, v = x.1.val ∧ BytesIn W x.1 x.2 := by
  obtain ⟨a, len, cap, rfl⟩ := okWide_slice Tryz.underlying22 hv
  obtain ⟨fuel, hf⟩ := h
  rcases open_ints Tryz.underlying22 Tryz.underlying5 (by kernel_rfl) hf with ⟨hcs, _⟩ | ⟨x, l, c, zs, hcs, _, hl, hm, hz, _, hcell, hwz⟩
  · simp [Value.cells] at hcs
    obtain ⟨rfl, rfl, rfl⟩ := hcs
    exact ⟨(⟨none, 0, 0⟩, []), rfl, rfl, by simp [maxLen], .inl rfl, by simp⟩
  · simp [Value.cells] at hcs
    obtain ⟨rfl, rfl, rfl⟩ := hcs
    have hz' : zs.length = cap := by simpa using hz
    refine ⟨(⟨some x, len, cap⟩, zs.take len), rfl, by simp; omega, by show len ≤ maxLen; omega, ?_, fun z hz2 => range_u8 (hwz z (List.mem_of_mem_take hz2))⟩
    refine reads_of_cells (len := len) (by simp [bytesV]; omega) (fun i u hu => ?_)
    obtain ⟨hi, rfl⟩ := List.getElem?_eq_some_iff.1 hu
    simp [bytesV] at hi
    have := hcell i (by omega)
    simp only [bytesV, List.getElem_map, List.getElem_take]
    rw [this]
    simp [List.getD, show i < zs.length by omega]
end Go.Proofs.YtmnlkcclcnnhmaaGreatDoor
