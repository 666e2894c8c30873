/- SameGauges: the groups, in plain lists. -/
import Derived.Test.YtidiecffahaojaaCombG
namespace Go.Proofs.Ytidiecffahaojaa
open Go.RowKit

theorem combsOk_len {zs : List CombT} (h : combsOk zs = true) : zs.length ≤ 10 := by
  simp only [combsOk, Bool.and_eq_true, decide_eq_true_eq] at h; exact h.2
def idsToComb (p : CombT → Bool) (zs : List CombT) (k : Nat) : List Int := ((zs.take k).filter p).map (·.id)
def idsOfComb (p : CombT → Bool) (zs : List CombT) : List Int := (zs.filter p).map (·.id)
theorem idsToComb_all (p : CombT → Bool) (zs : List CombT) : idsToComb p zs zs.length = idsOfComb p zs := by simp [idsToComb, idsOfComb]
theorem idsToComb_le (p : CombT → Bool) (zs : List CombT) (k : Nat) : (idsToComb p zs k).length ≤ k := by
  simp only [idsToComb, List.length_map]
  exact Nat.le_trans (List.length_filter_le _ _) (by simp; omega)
theorem idsToComb_yes {p : CombT → Bool} {zs : List CombT} {k : Nat} (h : k < zs.length) (hp : p zs[k] = true) : idsToComb p zs (k + 1) = idsToComb p zs k ++ [zs[k].id] := by
  unfold idsToComb
  rw [List.take_succ_eq_append_getElem h, List.filter_append]
  simp [hp]
theorem idsToComb_no {p : CombT → Bool} {zs : List CombT} {k : Nat} (h : k < zs.length) (hp : p zs[k] = false) : idsToComb p zs (k + 1) = idsToComb p zs k := by
  unfold idsToComb
  rw [List.take_succ_eq_append_getElem h, List.filter_append]
  simp [hp]
def sameB (x c : CombT) : Bool := (x.wide == c.wide) && (x.high == c.high)
theorem sameB_refl (x : CombT) : sameB x x = true := by simp [sameB]
theorem sameB_symm (x c : CombT) : sameB x c = sameB c x := by
  rw [Bool.eq_iff_iff]; simp [sameB]; exact ⟨fun ⟨a, b⟩ => ⟨a.symm, b.symm⟩, fun ⟨a, b⟩ => ⟨a.symm, b.symm⟩⟩
theorem sameB_trans {x y z : CombT} (h1 : sameB x y = true) (h2 : sameB y z = true) : sameB x z = true := by
  simp [sameB] at *; exact ⟨h1.1.trans h2.1, h1.2.trans h2.2⟩
/-- the first one of each group -/
def firsts (l : List CombT) : List CombT := l.foldl (fun acc x => if acc.any (sameB x) then acc else acc ++ [x]) []
theorem firsts_snoc (l : List CombT) (x : CombT) : firsts (l ++ [x]) = if (firsts l).any (sameB x) then firsts l else firsts l ++ [x] := by
  unfold firsts; rw [List.foldl_append]; rfl
theorem firsts_ind {P : List CombT → Prop} (h0 : P []) (h1 : ∀ l x, P l → P (l ++ [x])) (l : List CombT) : P l := by
  have : ∀ n (l : List CombT), l.length = n → P l := by
    intro n
    induction n with
    | zero => intro l hl; rw [List.length_eq_zero_iff.1 hl]; exact h0
    | succ n ih =>
      intro l hl
      have hne : l ≠ [] := by intro e; rw [e] at hl; simp at hl
      rw [← List.dropLast_concat_getLast hne]
      exact h1 _ _ (ih _ (by rw [List.length_dropLast]; omega))
  exact this _ l rfl
theorem firsts_len (l : List CombT) : (firsts l).length ≤ l.length := by
  refine firsts_ind (P := fun l => (firsts l).length ≤ l.length) (by simp [firsts]) (fun l x h => ?_) l
  rw [firsts_snoc]; split <;> simp <;> omega
theorem any_firsts (l : List CombT) : ∀ x, (firsts l).any (sameB x) = l.any (sameB x) := by
  refine firsts_ind (P := fun l => ∀ x, (firsts l).any (sameB x) = l.any (sameB x)) (by simp [firsts]) (fun l y h => ?_) l
  intro x
  rw [firsts_snoc, List.any_append]
  split
  · rename_i hy
    rw [h x]
    cases hx : sameB x y
    · simp [hx]
    · simp only [List.any_cons, hx, Bool.true_or, Bool.or_true]
      rw [h y, List.any_eq_true] at hy
      obtain ⟨z, hz, hz2⟩ := hy
      rw [List.any_eq_true]
      exact ⟨z, hz, sameB_trans hx hz2⟩
  · rw [List.any_append, h x]
theorem firsts_apart (l : List CombT) : ∀ i j (hi : i < (firsts l).length) (hj : j < (firsts l).length), i ≠ j → sameB (firsts l)[i] (firsts l)[j] = false := by
  refine firsts_ind (P := fun l => ∀ i j (hi : i < (firsts l).length) (hj : j < (firsts l).length), i ≠ j → sameB (firsts l)[i] (firsts l)[j] = false) (by simp [firsts]) (fun l y h => ?_) l
  intro i j hi hj hne
  have e := firsts_snoc l y
  by_cases hy : (firsts l).any (sameB y) = true
  · rw [if_pos hy] at e
    simp only [e] at hi hj ⊢
    exact h i j hi hj hne
  · rw [if_neg hy] at e
    simp only [e] at hi hj ⊢
    have hno : ∀ k (hk : k < (firsts l).length), sameB y (firsts l)[k] = false := fun k hk => by
      rw [Bool.eq_false_iff]; intro h2
      exact hy (List.any_eq_true.2 ⟨_, List.getElem_mem hk, h2⟩)
    by_cases h1 : i < (firsts l).length
    · by_cases h2 : j < (firsts l).length
      · rw [List.getElem_append_left h1, List.getElem_append_left h2]
        exact h i j h1 h2 hne
      · rw [List.getElem_append_left h1, List.getElem_append_right (by omega)]
        simp only [List.getElem_singleton]
        rw [sameB_symm]
        exact hno i h1
    · by_cases h2 : j < (firsts l).length
      · rw [List.getElem_append_left h2, List.getElem_append_right (by omega)]
        simp only [List.getElem_singleton]
        exact hno j h2
      · simp at hi hj; omega
/-- the groups when k combs have been looked at -/
def sameTo (zs : List CombT) (k : Nat) : List (List Int) := (firsts (zs.take k)).map fun f => idsToComb (sameB f) zs k
/-- the whole groups of those whose first is among the first i -/
def sameAll (zs : List CombT) (i : Nat) : List (List Int) := (firsts (zs.take i)).map fun f => idsOfComb (sameB f) zs
theorem sameTo_all (zs : List CombT) : sameTo zs zs.length = sameAll zs zs.length := by
  unfold sameTo sameAll
  congr 1
  funext f
  exact idsToComb_all _ _
theorem take_snocC {zs : List CombT} {k : Nat} (h : k < zs.length) : zs.take (k + 1) = zs.take k ++ [zs[k]] := List.take_succ_eq_append_getElem h
theorem sameAll_no {zs : List CombT} {i : Nat} (h : i < zs.length) (hf : (zs.take i).any (sameB zs[i]) = true) : sameAll zs (i + 1) = sameAll zs i := by
  unfold sameAll
  rw [take_snocC h, firsts_snoc, any_firsts, if_pos hf]
theorem sameAll_yes {zs : List CombT} {i : Nat} (h : i < zs.length) (hf : (zs.take i).any (sameB zs[i]) = false) : sameAll zs (i + 1) = sameAll zs i ++ [idsOfComb (sameB zs[i]) zs] := by
  unfold sameAll
  rw [take_snocC h, firsts_snoc, any_firsts, if_neg (by rw [hf]; decide), List.map_append]
  rfl
theorem sameAll_len (zs : List CombT) (i : Nat) : (sameAll zs i).length ≤ zs.length := by
  unfold sameAll
  rw [List.length_map]
  refine Nat.le_trans (firsts_len _) ?_
  rw [List.length_take]; omega
theorem sameAll_in {zs : List CombT} {i : Nat} {l : List Int} (h : l ∈ sameAll zs i) : l.length ≤ zs.length := by
  simp only [sameAll, List.mem_map] at h
  obtain ⟨f, _, rfl⟩ := h
  unfold idsOfComb
  rw [List.length_map]
  exact List.length_filter_le _ _
theorem sameTo_len (zs : List CombT) (k : Nat) : (sameTo zs k).length = (firsts (zs.take k)).length := by simp [sameTo]
/-- one of a known group -/
theorem sameTo_old {zs : List CombT} {k at' : Nat} (h : k < zs.length) (ha : at' < (firsts (zs.take k)).length) (hs : sameB zs[k] (firsts (zs.take k))[at'] = true) :
    firsts (zs.take (k + 1)) = firsts (zs.take k) ∧ sameTo zs (k + 1) = (sameTo zs k).set at' ((sameTo zs k)[at']'(by rw [sameTo_len]; exact ha) ++ [zs[k].id]) := by
  have hany : (firsts (zs.take k)).any (sameB zs[k]) = true := List.any_eq_true.2 ⟨_, List.getElem_mem ha, hs⟩
  have e1 : firsts (zs.take (k + 1)) = firsts (zs.take k) := by rw [take_snocC h, firsts_snoc, if_pos hany]
  refine ⟨e1, ?_⟩
  apply List.ext_getElem
  · rw [List.length_set, sameTo_len, sameTo_len, e1]
  · intro j h1 h2
    rw [sameTo_len, e1] at h1
    rw [List.getElem_set]
    simp only [sameTo, List.getElem_map, e1]
    split
    · rename_i e; subst e
      exact idsToComb_yes h (by rw [sameB_symm]; exact hs)
    · rename_i hne
      refine idsToComb_no h ?_
      rw [Bool.eq_false_iff]; intro h3
      have := firsts_apart (zs.take k) j at' h1 ha (fun e => hne e.symm)
      rw [sameB_trans h3 hs] at this; cases this
/-- the first one of a new group -/
theorem sameTo_new {zs : List CombT} {k : Nat} (h : k < zs.length) (hs : (firsts (zs.take k)).any (sameB zs[k]) = false) :
    firsts (zs.take (k + 1)) = firsts (zs.take k) ++ [zs[k]] ∧ sameTo zs (k + 1) = sameTo zs k ++ [[zs[k].id]] := by
  have e1 : firsts (zs.take (k + 1)) = firsts (zs.take k) ++ [zs[k]] := by rw [take_snocC h, firsts_snoc, if_neg (by rw [hs]; decide)]
  refine ⟨e1, ?_⟩
  have hno : ∀ f ∈ firsts (zs.take k), sameB f zs[k] = false := fun f hf => by
    rw [Bool.eq_false_iff]; intro h2
    rw [Bool.eq_false_iff] at hs
    exact hs (List.any_eq_true.2 ⟨f, hf, by rw [sameB_symm]; exact h2⟩)
  unfold sameTo
  rw [e1, List.map_append]
  congr 1
  · exact List.map_congr_left fun f hf => idsToComb_no h (hno f hf)
  · simp only [List.map_cons, List.map_nil]
    rw [idsToComb_yes h (sameB_refl _)]
    have : (zs.take k).filter (sameB zs[k]) = [] := by
      rw [any_firsts, List.any_eq_false] at hs
      rw [List.filter_eq_nil_iff]
      intro a ha; exact hs a ha
    simp [idsToComb, this]
/-- where the first one of the same group stands -/
def idxF (x : CombT) (l : List CombT) : Int := match l.findIdx? (sameB x) with
  | some k => (k : Int)
  | none => -1
theorem idxF_none {x : CombT} {l : List CombT} (h : l.any (sameB x) = false) : idxF x l = -1 := by
  have : l.findIdx? (sameB x) = none := by
    rw [List.findIdx?_eq_none_iff]
    intro y hy
    rw [List.any_eq_false] at h
    simpa using h y hy
  simp [idxF, this]
theorem idxF_some {x : CombT} {l : List CombT} (h : l.any (sameB x) = true) : ∃ k, ∃ hk : k < l.length, idxF x l = (k : Int) ∧ sameB x l[k] = true := by
  cases e : l.findIdx? (sameB x) with
  | none =>
    rw [List.findIdx?_eq_none_iff] at e
    rw [List.any_eq_true] at h
    obtain ⟨y, hy, hs⟩ := h
    rw [e y hy] at hs; cases hs
  | some k =>
    rw [List.findIdx?_eq_some_iff_getElem] at e
    obtain ⟨hk, hs, _⟩ := e
    refine ⟨k, hk, ?_, hs⟩
    have : l.findIdx? (sameB x) = some k := by rw [List.findIdx?_eq_some_iff_getElem]; exact ⟨hk, hs, by assumption⟩
    simp [idxF, this]
theorem idxF_at {x : CombT} {l : List CombT} {k : Nat} (hk : k < l.length) (h1 : ∀ j (hj : j < k), sameB x (l[j]'(by omega)) = false) (h2 : sameB x l[k] = true) : idxF x l = (k : Int) := by
  have : l.findIdx? (sameB x) = some k := by
    rw [List.findIdx?_eq_some_iff_getElem]
    exact ⟨hk, h2, fun j hj => by rw [h1 j hj]; decide⟩
  simp [idxF, this]
theorem any_no {x : CombT} {l : List CombT} (h1 : ∀ j (hj : j < l.length), sameB x l[j] = false) : l.any (sameB x) = false := by
  rw [List.any_eq_false]
  intro y hy
  obtain ⟨j, hj, rfl⟩ := List.getElem_of_mem hy
  rw [h1 j hj]; decide
/-- has no one of the same group been seen ahead of i, after k of them -/
def firstTo (zs : List CombT) (x : CombT) (i k : Nat) : Bool := !((zs.take (min k i)).any (sameB x))
theorem firstTo_no {zs : List CombT} {x : CombT} {i k : Nat} (h : k < zs.length) (hs : sameB x zs[k] = false) : firstTo zs x i (k + 1) = firstTo zs x i k := by
  unfold firstTo
  by_cases hki : k < i
  · rw [show min (k + 1) i = k + 1 by omega, show min k i = k by omega, take_snocC h, List.any_append]
    simp [hs]
  · rw [show min (k + 1) i = min k i by omega]
theorem firstTo_yes {zs : List CombT} {x : CombT} {i k : Nat} (h : k < zs.length) (hs : sameB x zs[k] = true) : firstTo zs x i (k + 1) = (firstTo zs x i k && decide (i ≤ k)) := by
  unfold firstTo
  by_cases hki : k < i
  · rw [show min (k + 1) i = k + 1 by omega, take_snocC h, List.any_append, show decide (i ≤ k) = false by simp; omega]
    simp [hs]
  · rw [show min (k + 1) i = min k i by omega, show decide (i ≤ k) = true by simp; omega, Bool.and_true]
end Go.Proofs.Ytidiecffahaojaa
