/- Opening an argument: a slice of Stamps. -/
import Derived.Test.YtieopadbbciciaaArgs
import Derived.Test.YtieopadbbciciaaStampS
import Derived.ChangeArms
namespace Go.Proofs.Ytieopadbbciciaa
open Go.ChangeShapes Go.WideShapes Go.ChangeAt Go.RowKit Go.Deep

def StampT.Fits (c : StampT) : Prop := -9223372036854775808 ≤ c.id ∧ c.id ≤ 9223372036854775807 ∧ -9223372036854775808 ≤ c.face ∧ c.face ≤ 9223372036854775807 ∧ -9223372036854775808 ≤ c.color ∧ c.color ≤ 9223372036854775807 ∧ -9223372036854775808 ≤ c.year ∧ c.year ≤ 9223372036854775807
instance : Inhabited StampT := ⟨stamp0⟩
structure StampsIn (w : World) (s : Slc) (zs : List StampT) : Prop where
  size : zs.length = s.len
  most : s.len ≤ maxLen
  reads : Reads w s.ad (stamps zs)
  fits : ∀ z ∈ zs, z.Fits
theorem laws_stamp_fields : ∃ fs : Array Field, Try.prog.underlying 55 = some (.struct fs) ∧ fs.toList.map (fun f => (f.type, f.offset)) = [(3, 0), (3, 1), (3, 2), (3, 3)] := ⟨_, Try.underlying55, rfl⟩
theorem laws_stamp_cells : Try.prog.cellsOf 55 = 4 := by kernel_rfl
theorem cells_int1 : Try.prog.cellsOf 3 = 1 := by kernel_rfl

/-- one struct's cells, read as data -/
theorem stamp_of_trod {H : Type} {enc : TypeId × Value → H} {W : World} {base : Nat} {spare : Nat → Bool} {held : Bool} {fuel : Nat} {cs : List Value} {x : DataW H × List MemPlace}
    (h : DataW.trod enc Try.prog W base spare held fuel 55 cs = some x) : ∃ c : StampT, cs = c.cells ∧ c.Fits := by
  obtain ⟨fs, hfs, hm⟩ := laws_stamp_fields
  obtain ⟨xs, n', _, _, hlen, hxs, hfld⟩ := DataW.trod_struct hfs h
  rw [laws_stamp_cells] at hlen
  have hsz : fs.size = 4 := by have := congrArg List.length hm; simpa using this
  have hget : ∀ (i : Nat) (p : TypeId × Nat), [(3, 0), (3, 1), (3, 2), (3, 3)][i]? = some p → ∃ f : Field, fs[i]? = some f ∧ (f.type, f.offset) = p := by
    intro i p hp
    rw [← hm, List.getElem?_map] at hp
    obtain ⟨f, hf, hp2⟩ := Option.map_eq_some_iff.1 hp
    exact ⟨f, by simpa using hf, hp2⟩
  match cs, hlen with
  | [c0, c1, c2, c3], _ =>
    obtain ⟨f0, hf0, hp0⟩ := hget 0 _ rfl
    simp only [Prod.mk.injEq] at hp0
    have t0 := hfld 0 f0 hf0
    rw [hp0.1, hp0.2, cells_int1, List.getElem?_eq_getElem (show 0 < xs.length by omega)] at t0
    obtain ⟨v0, e0, _, w0⟩ := DataW.trod_int Try.underlying3 t0
    simp at e0
    obtain ⟨f1, hf1, hp1⟩ := hget 1 _ rfl
    simp only [Prod.mk.injEq] at hp1
    have t1 := hfld 1 f1 hf1
    rw [hp1.1, hp1.2, cells_int1, List.getElem?_eq_getElem (show 1 < xs.length by omega)] at t1
    obtain ⟨v1, e1, _, w1⟩ := DataW.trod_int Try.underlying3 t1
    simp at e1
    obtain ⟨f2, hf2, hp2⟩ := hget 2 _ rfl
    simp only [Prod.mk.injEq] at hp2
    have t2 := hfld 2 f2 hf2
    rw [hp2.1, hp2.2, cells_int1, List.getElem?_eq_getElem (show 2 < xs.length by omega)] at t2
    obtain ⟨v2, e2, _, w2⟩ := DataW.trod_int Try.underlying3 t2
    simp at e2
    obtain ⟨f3, hf3, hp3⟩ := hget 3 _ rfl
    simp only [Prod.mk.injEq] at hp3
    have t3 := hfld 3 f3 hf3
    rw [hp3.1, hp3.2, cells_int1, List.getElem?_eq_getElem (show 3 < xs.length by omega)] at t3
    obtain ⟨v3, e3, _, w3⟩ := DataW.trod_int Try.underlying3 t3
    simp at e3
    exact ⟨⟨v0, v1, v2, v3⟩, by rw [e0, e1, e2, e3]; rfl, (range_i64 w0).1, (range_i64 w0).2, (range_i64 w1).1, (range_i64 w1).2, (range_i64 w2).1, (range_i64 w2).2, (range_i64 w3).1, (range_i64 w3).2⟩
theorem stamps_flat {zs : List StampT} {j : Nat} {u : Value} (h : (stamps zs)[j]? = some u) : ∃ i q, i < zs.length ∧ j = i * 4 + q ∧ ∃ z, zs[i]? = some z ∧ z.cells[q]? = some u := by
  induction zs generalizing j with
  | nil => simp [stamps] at h
  | cons z zs ih =>
    have e : stamps (z :: zs) = z.cells ++ stamps zs := rfl
    have hl : z.cells.length = 4 := rfl
    rw [e, List.getElem?_append] at h
    split at h
    · exact ⟨0, j, by simp, by omega, z, rfl, h⟩
    · rw [hl] at *
      obtain ⟨i, q, hi, hj, z', hz, hq⟩ := ih h
      exact ⟨i + 1, q, by simpa using hi, by omega, z', by simpa using hz, hq⟩
theorem arg_stamps {H : Type} {enc : TypeId × Value → H} {W : World} {base : Nat} {v : Value} {d : DataW H} {p : List MemPlace} (hv : Value.okWide Try.prog W .any base 22 v) (h : DataW.Trod enc Try.prog W 0 (fun _ => true) true 22 v d p) :
    ∃ x : Slc × List StampT, v = x.1.val ∧ StampsIn W x.1 x.2 := by
  obtain ⟨a, len, cap, rfl⟩ := okWide_slice Try.underlying22 hv
  obtain ⟨fuel, hf⟩ := h
  rcases open_slice Try.underlying22 hf with ⟨hcs, _⟩ | ⟨x, l, c, m, n, D, Pl, hcs, _, hl, hm, hmm, _, hel⟩
  · simp [Value.cells] at hcs
    obtain ⟨rfl, rfl, rfl⟩ := hcs
    exact ⟨(⟨none, 0, 0⟩, []), rfl, rfl, by simp [maxLen], .inl rfl, by simp⟩
  · simp [Value.cells] at hcs
    obtain ⟨rfl, rfl, rfl⟩ := hcs
    simp at hmm
    have key : ∀ i, i < len → ∃ c : StampT, c.Fits ∧ ∀ j u, c.cells[j]? = some u → W.cell? ((x.add (i * 4)).add j) = some u := by
      intro i hi
      obtain ⟨cs', h1, h2⟩ := hel i (by omega)
      obtain ⟨_, hlen, hcell⟩ := World.cells?_some h1
      obtain ⟨c, rfl, hfit⟩ := stamp_of_trod h2
      rw [laws_stamp_cells] at hcell
      refine ⟨c, hfit, fun j u hu => ?_⟩
      have hj : j < 4 := (List.getElem?_eq_some_iff.1 hu).1
      rw [hcell j hj, hu]
    obtain ⟨f, hfs⟩ := choose_lt key
    have hlenz : ((List.range len).map f).length = len := by simp
    refine ⟨(⟨some x, len, cap⟩, (List.range len).map f), rfl, hlenz, by show len ≤ maxLen; omega, ?_, ?_⟩
    · refine reads_of_cells (len := len * 4) (by rw [stamps_length, hlenz]) (fun j u hu => ?_)
      obtain ⟨i, q, hi, rfl, z, hz, hq⟩ := stamps_flat hu
      rw [hlenz] at hi
      simp [hi] at hz
      subst hz
      have := (hfs i hi).2 q u hq
      rw [Go.Deep.add_add] at this
      exact this
    · intro z hz
      simp only [List.mem_map, List.mem_range] at hz
      obtain ⟨i, hi, rfl⟩ := hz
      exact (hfs i hi).1
end Go.Proofs.Ytieopadbbciciaa
