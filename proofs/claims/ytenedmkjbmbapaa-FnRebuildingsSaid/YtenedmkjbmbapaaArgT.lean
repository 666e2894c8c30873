/- An argument: a slice of texts, opened; a block by value, opened. -/
import Derived.Test.YtenedmkjbmbapaaArgs
import Derived.Test.YtenedmkjbmbapaaStrS
import Derived.SliceStrings
import Derived.ChangeArms
namespace Go.Proofs.Ytenedmkjbmbapaa
open Go.ChangeShapes Go.WideShapes Go.ChangeAt Go.RowKit
set_option maxRecDepth 100000

structure StrsIn (w : World) (s : Slc) (zs : List ByteArray) : Prop where
  size : zs.length = s.len
  most : s.len ≤ maxLen
  reads : Reads w s.ad (strs zs)
  fits : ∀ z ∈ zs, z.size ≤ maxLen
theorem strings_of_trod {H : Type} {enc : TypeId × Value → H} {W : World} {base fuel : Nat} {held : Bool} {cs : List Value} {x : DataW H × List MemPlace} (hf : DataW.trod enc Try.prog W base (fun _ => true) held fuel 31 cs = some x) :
    ∃ x : Slc × List ByteArray, cs = [x.1.val] ∧ StrsIn W x.1 x.2 := by
  rcases open_strings Try.underlying31 Try.underlying9 (by kernel_rfl) hf with ⟨hcs, _⟩ | ⟨x, len, cap, zs, hcs, _, hl, hm, hz, _, hcell, hwz⟩
  · subst hcs
    exact ⟨(⟨none, 0, 0⟩, []), rfl, rfl, by simp [maxLen], .inl rfl, by simp⟩
  · subst hcs
    have hz' : zs.length = cap := by simpa using hz
    refine ⟨(⟨some x, len, cap⟩, zs.take len), rfl, by simp; omega, by show len ≤ maxLen; omega, ?_, fun z hz2 => hwz z (List.mem_of_mem_take hz2)⟩
    refine reads_of_cells (len := len) (by simp [strs]; omega) (fun i u hu => ?_)
    obtain ⟨hi, rfl⟩ := List.getElem?_eq_some_iff.1 hu
    simp [strs] at hi
    have := hcell i (by omega)
    simp only [strs, List.getElem_map, List.getElem_take]
    rw [this]
    simp [List.getD, show i < zs.length by omega]
theorem arg_strings {H : Type} {enc : TypeId × Value → H} {W : World} {base : Nat} {v : Value} {d : DataW H} {p : List MemPlace} (hv : Value.okWide Try.prog W .any base 31 v) (h : DataW.Trod enc Try.prog W 0 (fun _ => true) true 31 v d p) :
    ∃ x : Slc × List ByteArray, v = x.1.val ∧ StrsIn W x.1 x.2 := by
  obtain ⟨a, len, cap, rfl⟩ := okWide_slice Try.underlying31 hv
  obtain ⟨fuel, hf⟩ := h
  obtain ⟨x, hx, hs⟩ := strings_of_trod hf
  exact ⟨x, by simpa [Value.cells] using hx, hs⟩
theorem laws_block_fields : ∃ fs : Array Field, Try.prog.underlying 71 = some (.struct fs) ∧ fs.toList.map (fun f => (f.type, f.offset)) = [(31, 0)] := ⟨_, Try.underlying71, rfl⟩
theorem laws_block_cells : Try.prog.cellsOf 71 = 1 := by kernel_rfl
theorem cells_strings1 : Try.prog.cellsOf 31 = 1 := by kernel_rfl
theorem block_of_trod {H : Type} {enc : TypeId × Value → H} {W : World} {base fuel : Nat} {held : Bool} {cs : List Value} {x : DataW H × List MemPlace}
    (h : DataW.trod enc Try.prog W base (fun _ => true) held fuel 71 cs = some x) : ∃ x : Slc × List ByteArray, cs = [x.1.val] ∧ StrsIn W x.1 x.2 := by
  obtain ⟨fs, hfs, hm⟩ := laws_block_fields
  obtain ⟨xs, n', _, _, hlen, hxs, hfld⟩ := DataW.trod_struct hfs h
  rw [laws_block_cells] at hlen
  have hsz : fs.size = 1 := by have := congrArg List.length hm; simpa using this
  have hget : ∃ f : Field, fs[0]? = some f ∧ (f.type, f.offset) = (31, 0) := by
    have hp : (fs.toList.map (fun f => (f.type, f.offset)))[0]? = some (31, 0) := by rw [hm]; rfl
    rw [List.getElem?_map] at hp
    obtain ⟨f, hf, hp2⟩ := Option.map_eq_some_iff.1 hp
    exact ⟨f, by simpa using hf, hp2⟩
  match cs, hlen with
  | [c0], _ =>
    obtain ⟨f0, hf0, hp0⟩ := hget
    simp only [Prod.mk.injEq] at hp0
    have t0 := hfld 0 f0 hf0
    rw [hp0.1, hp0.2, cells_strings1, List.getElem?_eq_getElem (show 0 < xs.length by omega)] at t0
    obtain ⟨x, hx, hs⟩ := strings_of_trod t0
    exact ⟨x, by simpa using hx, hs⟩
theorem arg_block {H : Type} {enc : TypeId × Value → H} {W : World} {base : Nat} {v : Value} {d : DataW H} {p : List MemPlace} (hv : Value.okWide Try.prog W .any base 71 v) (h : DataW.Trod enc Try.prog W 0 (fun _ => true) true 71 v d p) :
    ∃ x : Slc × List ByteArray, v = .agg #[x.1.val] ∧ StrsIn W x.1 x.2 := by
  obtain ⟨fs, hfs, _⟩ := laws_block_fields
  obtain ⟨cs, rfl, hsz⟩ := okWide_struct hfs hv
  obtain ⟨fuel, hf⟩ := h
  obtain ⟨x, hc, hs⟩ := block_of_trod hf
  refine ⟨x, ?_, hs⟩
  have : cs.toList = [x.1.val] := by simpa [Value.cells] using hc
  congr 1
  apply Array.ext'
  rw [this]
end Go.Proofs.Ytenedmkjbmbapaa
