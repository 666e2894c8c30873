/- Opening an argument: a slice of Papers. -/
import Derived.Test.YtolajlkijeaacaaArgs
import Derived.Test.YtolajlkijeaacaaPaperS
import Derived.ChangeArms
namespace Go.Proofs.Ytolajlkijeaacaa
open Go.ChangeShapes Go.WideShapes Go.ChangeAt Go.RowKit Go.Deep

def PaperT.Fits (c : PaperT) : Prop := -9223372036854775808 ≤ c.id ∧ c.id ≤ 9223372036854775807 ∧ -9223372036854775808 ≤ c.thick ∧ c.thick ≤ 9223372036854775807 ∧ -9223372036854775808 ≤ c.tint ∧ c.tint ≤ 9223372036854775807 ∧ c.mark.size ≤ maxLen
instance : Inhabited PaperT := ⟨paper0⟩
structure PapersIn (w : World) (s : Slc) (zs : List PaperT) : Prop where
  size : zs.length = s.len
  most : s.len ≤ maxLen
  reads : Reads w s.ad (papers zs)
  fits : ∀ z ∈ zs, z.Fits
theorem laws_paper_fields : ∃ fs : Array Field, Try.prog.underlying 55 = some (.struct fs) ∧ fs.toList.map (fun f => (f.type, f.offset)) = [(3, 0), (3, 1), (3, 2), (9, 3), (4, 4)] := ⟨_, Try.underlying55, rfl⟩
theorem laws_paper_cells : Try.prog.cellsOf 55 = 5 := by kernel_rfl
theorem cells_int1 : Try.prog.cellsOf 3 = 1 := by kernel_rfl

theorem cells_bool1 : Try.prog.cellsOf 4 = 1 := by kernel_rfl
theorem cells_string1 : Try.prog.cellsOf 9 = 1 := by kernel_rfl
/-- one struct's cells, read as data -/
theorem paper_of_trod {H : Type} {enc : TypeId × Value → H} {W : World} {base : Nat} {spare : Nat → Bool} {held : Bool} {fuel : Nat} {cs : List Value} {x : DataW H × List MemPlace}
    (h : DataW.trod enc Try.prog W base spare held fuel 55 cs = some x) : ∃ c : PaperT, cs = c.cells ∧ c.Fits := by
  obtain ⟨fs, hfs, hm⟩ := laws_paper_fields
  obtain ⟨xs, n', _, _, hlen, hxs, hfld⟩ := DataW.trod_struct hfs h
  rw [laws_paper_cells] at hlen
  have hsz : fs.size = 5 := by have := congrArg List.length hm; simpa using this
  have hget : ∀ (i : Nat) (p : TypeId × Nat), [(3, 0), (3, 1), (3, 2), (9, 3), (4, 4)][i]? = some p → ∃ f : Field, fs[i]? = some f ∧ (f.type, f.offset) = p := by
    intro i p hp
    rw [← hm, List.getElem?_map] at hp
    obtain ⟨f, hf, hp2⟩ := Option.map_eq_some_iff.1 hp
    exact ⟨f, by simpa using hf, hp2⟩
  match cs, hlen with
  | [c0, c1, c2, c3, c4], _ =>
    obtain ⟨f0, hf0, hp0⟩ := hget 0 _ rfl
    simp only [Prod.mk.injEq] at hp0
    have t0 := hfld 0 f0 hf0
    rw [hp0.1, hp0.2, cells_int1, List.getElem?_eq_getElem (show 0 < xs.length by omega)] at t0
    obtain ⟨v0, e0, _, w0⟩ := DataW.trod_int Try.underlying3 t0
    simp at e0
    obtain ⟨f1, hf1, hp1⟩ := hget 1 _ rfl
    simp only [Prod.mk.injEq] at hp1
    have t1 := hfld 1 f1 hf1
    rw [hp1.1, hp1.2, cells_int1, List.getElem?_eq_getElem (show 1 < xs.length by omega)] at t1
    obtain ⟨v1, e1, _, w1⟩ := DataW.trod_int Try.underlying3 t1
    simp at e1
    obtain ⟨f2, hf2, hp2⟩ := hget 2 _ rfl
    simp only [Prod.mk.injEq] at hp2
    have t2 := hfld 2 f2 hf2
    rw [hp2.1, hp2.2, cells_int1, List.getElem?_eq_getElem (show 2 < xs.length by omega)] at t2
    obtain ⟨v2, e2, _, w2⟩ := DataW.trod_int Try.underlying3 t2
    simp at e2
    obtain ⟨f3, hf3, hp3⟩ := hget 3 _ rfl
    simp only [Prod.mk.injEq] at hp3
    have t3 := hfld 3 f3 hf3
    rw [hp3.1, hp3.2, cells_string1, List.getElem?_eq_getElem (show 3 < xs.length by omega)] at t3
    obtain ⟨v3, e3, _, w3⟩ := DataW.trod_string Try.underlying9 t3
    simp at e3
    obtain ⟨f4, hf4, hp4⟩ := hget 4 _ rfl
    simp only [Prod.mk.injEq] at hp4
    have t4 := hfld 4 f4 hf4
    rw [hp4.1, hp4.2, cells_bool1, List.getElem?_eq_getElem (show 4 < xs.length by omega)] at t4
    obtain ⟨v4, e4, _⟩ := DataW.trod_bool Try.underlying4 t4
    simp at e4
    exact ⟨⟨v0, v1, v2, v3, v4⟩, by rw [e0, e1, e2, e3, e4]; rfl, (range_i64 w0).1, (range_i64 w0).2, (range_i64 w1).1, (range_i64 w1).2, (range_i64 w2).1, (range_i64 w2).2, w3⟩
theorem papers_flat {zs : List PaperT} {j : Nat} {u : Value} (h : (papers zs)[j]? = some u) : ∃ i q, i < zs.length ∧ j = i * 5 + q ∧ ∃ z, zs[i]? = some z ∧ z.cells[q]? = some u := by
  induction zs generalizing j with
  | nil => simp [papers] at h
  | cons z zs ih =>
    have e : papers (z :: zs) = z.cells ++ papers zs := rfl
    have hl : z.cells.length = 5 := rfl
    rw [e, List.getElem?_append] at h
    split at h
    · exact ⟨0, j, by simp, by omega, z, rfl, h⟩
    · rw [hl] at *
      obtain ⟨i, q, hi, hj, z', hz, hq⟩ := ih h
      exact ⟨i + 1, q, by simpa using hi, by omega, z', by simpa using hz, hq⟩
theorem arg_papers {H : Type} {enc : TypeId × Value → H} {W : World} {base : Nat} {v : Value} {d : DataW H} {p : List MemPlace} (hv : Value.okWide Try.prog W .any base 32 v) (h : DataW.Trod enc Try.prog W 0 (fun _ => true) true 32 v d p) :
    ∃ x : Slc × List PaperT, v = x.1.val ∧ PapersIn W x.1 x.2 := by
  obtain ⟨a, len, cap, rfl⟩ := okWide_slice Try.underlying32 hv
  obtain ⟨fuel, hf⟩ := h
  rcases open_slice Try.underlying32 hf with ⟨hcs, _⟩ | ⟨x, l, c, m, n, D, Pl, hcs, _, hl, hm, hmm, _, hel⟩
  · simp [Value.cells] at hcs
    obtain ⟨rfl, rfl, rfl⟩ := hcs
    exact ⟨(⟨none, 0, 0⟩, []), rfl, rfl, by simp [maxLen], .inl rfl, by simp⟩
  · simp [Value.cells] at hcs
    obtain ⟨rfl, rfl, rfl⟩ := hcs
    simp at hmm
    have key : ∀ i, i < len → ∃ c : PaperT, c.Fits ∧ ∀ j u, c.cells[j]? = some u → W.cell? ((x.add (i * 5)).add j) = some u := by
      intro i hi
      obtain ⟨cs', h1, h2⟩ := hel i (by omega)
      obtain ⟨_, hlen, hcell⟩ := World.cells?_some h1
      obtain ⟨c, rfl, hfit⟩ := paper_of_trod h2
      rw [laws_paper_cells] at hcell
      refine ⟨c, hfit, fun j u hu => ?_⟩
      have hj : j < 5 := (List.getElem?_eq_some_iff.1 hu).1
      rw [hcell j hj, hu]
    obtain ⟨f, hfs⟩ := choose_lt key
    have hlenz : ((List.range len).map f).length = len := by simp
    refine ⟨(⟨some x, len, cap⟩, (List.range len).map f), rfl, hlenz, by show len ≤ maxLen; omega, ?_, ?_⟩
    · refine reads_of_cells (len := len * 5) (by rw [papers_length, hlenz]) (fun j u hu => ?_)
      obtain ⟨i, q, hi, rfl, z, hz, hq⟩ := papers_flat hu
      rw [hlenz] at hi
      simp [hi] at hz
      subst hz
      have := (hfs i hi).2 q u hq
      rw [Go.Deep.add_add] at this
      exact this
    · intro z hz
      simp only [List.mem_map, List.mem_range] at hz
      obtain ⟨i, hi, rfl⟩ := hz
      exact (hfs i hi).1
end Go.Proofs.Ytolajlkijeaacaa
