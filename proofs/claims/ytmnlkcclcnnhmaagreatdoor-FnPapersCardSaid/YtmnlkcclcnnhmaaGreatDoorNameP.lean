/- MarkNames: the plain law: what both sides compute is one list. -/
import Derived.Test.YtmnlkcclcnnhmaaGreatDoorMarkT
import Derived.Lib.SlicesCompact
import Derived.Sort.EncStr
import Derived.Sort.Walk0
namespace Go.Proofs.YtmnlkcclcnnhmaaGreatDoor
open Go.RowKit

abbrev bsOf (b : ByteArray) : List UInt8 := b.data.toList
abbrev baOf (l : List UInt8) : ByteArray := ⟨l.toArray⟩
theorem baOf_bsOf (b : ByteArray) : baOf (bsOf b) = b := by cases b; simp
theorem less_dec (a b : ByteArray) : Op.bytesLess a.toList b.toList = decide (bsOf a < bsOf b) := by rw [bytesLess_eq, Lib.toList_data, Lib.toList_data]
theorem beq_dec (a b : ByteArray) : (a.toList == b.toList) = decide (bsOf a = bsOf b) := by
  rw [Lib.toList_data, Lib.toList_data]
  show (bsOf a == bsOf b) = _
  by_cases h : bsOf a = bsOf b
  · rw [h]; simp
  · rw [decide_eq_false h]; exact beq_false_of_ne h
theorem lt_of_not_lt {a b : List UInt8} (h : ¬ a < b) (hn : a ≠ b) : b < a := by
  by_cases h2 : b < a
  · exact h2
  · exact absurd (List.le_antisymm (List.not_lt.1 h2) (List.not_lt.1 h)) hn
/-- where a text goes: behind the last one that is not above it -/
def backN (name : ByteArray) (out : List ByteArray) : Nat → Nat
  | 0 => 0
  | k + 1 => if Op.bytesLess name.toList (out.getD k .empty).toList = true then backN name out k else k + 1
def knownN (name : ByteArray) (out : List ByteArray) (n : Nat) : Bool := name.toList.isEmpty || (out.take n).any (fun o => o.toList == name.toList)
def insN (out : List ByteArray) (name : ByteArray) : List ByteArray :=
  if knownN name out out.length = true then out else out.take (backN name out out.length) ++ [name] ++ out.drop (backN name out out.length)
def specN (ms : List ByteArray) : List ByteArray := ms.foldl insN []
theorem specN_snoc (ms : List ByteArray) (m : ByteArray) : specN (ms ++ [m]) = insN (specN ms) m := by simp [specN]
theorem backN_le (name : ByteArray) (out : List ByteArray) : ∀ k, backN name out k ≤ k
  | 0 => Nat.le_refl _
  | k + 1 => by
    unfold backN
    split
    · have := backN_le name out k; omega
    · exact Nat.le_refl _
theorem backN_hi (name : ByteArray) (out : List ByteArray) : ∀ k j, backN name out k ≤ j → j < k → bsOf name < bsOf (out.getD j .empty)
  | 0, _, _, h => absurd h (by omega)
  | k + 1, j, h1, h2 => by
    unfold backN at h1
    split at h1
    · rename_i h
      rcases Nat.lt_or_ge j k with h3 | h3
      · exact backN_hi name out k j h1 h3
      · obtain rfl : j = k := by omega
        rw [less_dec] at h; exact of_decide_eq_true h
    · omega
theorem backN_lo (name : ByteArray) (out : List ByteArray) : ∀ k, 0 < backN name out k → ¬ bsOf name < bsOf (out.getD (backN name out k - 1) .empty)
  | 0, h => absurd h (by simp [backN])
  | k + 1, h => by
    by_cases hc : Op.bytesLess name.toList (out.getD k .empty).toList = true
    · have e : backN name out (k + 1) = backN name out k := by rw [backN, if_pos hc]
      rw [e] at h ⊢
      exact backN_lo name out k h
    · have e : backN name out (k + 1) = k + 1 := by rw [backN, if_neg hc]
      rw [e]
      rw [less_dec] at hc
      simpa using hc
theorem insN_len (out : List ByteArray) (name : ByteArray) : (insN out name).length ≤ out.length + 1 := by
  unfold insN
  split
  · omega
  · simp; omega
theorem specN_len (ms : List ByteArray) : (specN ms).length ≤ ms.length := by
  have h : ∀ (ms out : List ByteArray), (ms.foldl insN out).length ≤ out.length + ms.length := by
    intro ms
    induction ms with
    | nil => intro out; simp
    | cons m ms ih => intro out; have h1 := ih (insN out m); have h2 := insN_len out m; simp only [List.foldl_cons, List.length_cons]; omega
  have := h ms []
  simpa [specN] using this
theorem ins_sorted {L : List (List UInt8)} {x : List UInt8} {k : Nat} (h : L.Pairwise (· < ·)) (hlo : ∀ a ∈ L.take k, a < x) (hhi : ∀ a ∈ L.drop k, x < a) : (L.take k ++ [x] ++ L.drop k).Pairwise (· < ·) := by
  rw [← List.take_append_drop k L] at h
  obtain ⟨h1, h2, h3⟩ := List.pairwise_append.1 h
  refine List.pairwise_append.2 ⟨List.pairwise_append.2 ⟨h1, by simp, ?_⟩, h2, ?_⟩
  · intro a ha b hb
    simp at hb; subst hb
    exact hlo a ha
  · intro a ha b hb
    rcases List.mem_append.1 ha with h4 | h4
    · exact h3 a h4 b hb
    · simp at h4; subst h4; exact hhi b hb
theorem sorted_lt {L : List (List UInt8)} (h : L.Pairwise (· < ·)) {i j : Nat} (hij : i < j) (hj : j < L.length) : L[i] < L[j] := List.pairwise_iff_getElem.1 h i j (by omega) hj hij
theorem insN_spec (out : List ByteArray) (name : ByteArray) (h : (out.map bsOf).Pairwise (· < ·)) :
    ((insN out name).map bsOf).Pairwise (· < ·) ∧ ∀ x, x ∈ (insN out name).map bsOf ↔ x ∈ out.map bsOf ∨ (x = bsOf name ∧ x ≠ []) := by
  unfold insN
  cases hk : knownN name out out.length
  · simp only [Bool.false_eq_true, if_false]
    simp only [knownN, List.take_length, Bool.or_eq_false_iff, List.any_eq_false, beq_dec, decide_eq_true_eq] at hk
    obtain ⟨he, hno⟩ := hk
    have hne : bsOf name ≠ [] := by
      intro e
      rw [Lib.toList_data, show name.data.toList = [] from e] at he
      simp at he
    have hnm : bsOf name ∉ out.map bsOf := by
      intro hm
      obtain ⟨o, ho, e⟩ := List.mem_map.1 hm
      exact hno o ho e
    have hle := backN_le name out out.length
    have hhi := backN_hi name out out.length
    have hlo := backN_lo name out out.length
    generalize hkk : backN name out out.length = k at *
    have hg : ∀ j (hj : j < out.length), bsOf (out.getD j .empty) = (out.map bsOf)[j]'(by simpa using hj) := by intro j hj; simp [List.getD, hj]
    constructor
    · rw [List.map_append, List.map_append, List.map_take, List.map_drop, List.map_cons, List.map_nil]
      refine ins_sorted h ?_ ?_
      · intro a ha
        obtain ⟨i, hi, rfl⟩ := List.getElem_of_mem ha
        simp only [List.length_take, List.length_map] at hi
        rw [List.getElem_take]
        have hlt : ¬ bsOf name < (out.map bsOf)[k - 1]'(by simp; omega) := by
          have h1 := hlo (by omega)
          rw [hg (k - 1) (by omega)] at h1
          exact h1
        have hne2 : bsOf name ≠ (out.map bsOf)[k - 1]'(by simp; omega) := by
          intro e
          exact hnm (by rw [e]; exact List.getElem_mem _)
        have h2 := lt_of_not_lt hlt hne2
        rcases Nat.lt_or_ge i (k - 1) with h3 | h3
        · exact List.lt_trans (sorted_lt h h3 (by simp; omega)) h2
        · have e : i = k - 1 := by omega
          subst e
          exact h2
      · intro a ha
        obtain ⟨i, hi, rfl⟩ := List.getElem_of_mem ha
        simp only [List.length_drop, List.length_map] at hi
        rw [List.getElem_drop]
        have h1 := hhi (k + i) (by omega) (by omega)
        rw [hg (k + i) (by omega)] at h1
        exact h1
    · intro x
      have e : x ∈ out.map bsOf ↔ x ∈ (out.take k).map bsOf ∨ x ∈ (out.drop k).map bsOf := by
        rw [← List.mem_append, ← List.map_append, List.take_append_drop]
      rw [e, List.map_append, List.map_append, List.mem_append, List.mem_append]
      constructor
      · rintro ((h1 | h1) | h1)
        · exact .inl (.inl h1)
        · simp at h1; subst h1; exact .inr ⟨rfl, hne⟩
        · exact .inl (.inr h1)
      · rintro ((h1 | h1) | ⟨rfl, _⟩)
        · exact .inl (.inl h1)
        · exact .inr h1
        · exact .inl (.inr (by simp))
  · simp only [if_true]
    refine ⟨h, fun x => ⟨.inl, ?_⟩⟩
    rintro (h1 | ⟨rfl, hne⟩)
    · exact h1
    · simp only [knownN, List.take_length, Bool.or_eq_true, List.any_eq_true, beq_dec, decide_eq_true_eq] at hk
      rcases hk with h1 | ⟨o, ho, e⟩
      · exact absurd (by simpa [Lib.toList_data] using h1) hne
      · exact List.mem_map.2 ⟨o, ho, e⟩
theorem specN_spec : ∀ (ms out : List ByteArray), (out.map bsOf).Pairwise (· < ·) →
    ((ms.foldl insN out).map bsOf).Pairwise (· < ·) ∧ ∀ x, x ∈ (ms.foldl insN out).map bsOf ↔ x ∈ out.map bsOf ∨ (x ∈ ms.map bsOf ∧ x ≠ [])
  | [], out, h => ⟨h, fun x => by simp⟩
  | m :: ms, out, h => by
    obtain ⟨h1, h2⟩ := insN_spec out m h
    obtain ⟨h3, h4⟩ := specN_spec ms (insN out m) h1
    refine ⟨h3, fun x => ?_⟩
    rw [List.foldl_cons, h4 x, h2 x, List.map_cons, List.mem_cons]
    constructor
    · rintro ((h5 | h5) | h5)
      · exact .inl h5
      · exact .inr ⟨.inl h5.1, h5.2⟩
      · exact .inr ⟨.inr h5.1, h5.2⟩
    · rintro (h5 | ⟨h5 | h5, h6⟩)
      · exact .inl (.inl h5)
      · exact .inl (.inr ⟨h5, h6⟩)
      · exact .inr ⟨h5, h6⟩
/-- what is kept of a sorted row: each element once -/
theorem compact_spec (d : Array (List UInt8)) (h : d.toList.Pairwise (· ≤ ·)) : ∀ m, m ≤ d.size →
    (Lib.compactUpTo d m).Pairwise (· < ·) ∧ (∀ x ∈ Lib.compactUpTo d m, x ≤ d[m - 1]!) ∧ ∀ x, x ∈ Lib.compactUpTo d m ↔ ∃ j, j < m ∧ d[j]! = x := by
  intro m
  induction m with
  | zero => intro _; simp [Lib.compactUpTo]
  | succ m ih =>
    intro hm
    obtain ⟨h1, h2, h3⟩ := ih (by omega)
    have hd : ∀ j, j < m → d[j]! ≤ d[m]! := by
      intro j hj
      have := List.pairwise_iff_getElem.1 h j m (by simp; omega) (by simp; omega) hj
      rw [getElem!_pos d j (by omega), getElem!_pos d m (by omega)]
      simpa using this
    rw [Lib.compactUpTo_succ]
    cases hk : Lib.keeps d m
    · have hk2 : 0 < m ∧ d[m]! = d[m - 1]! := by
        simp only [Lib.keeps, decide_eq_false_iff_not, not_or, Decidable.not_not] at hk
        exact ⟨by omega, hk.2⟩
      simp only [Bool.false_eq_true, if_false, List.append_nil, Nat.add_sub_cancel]
      refine ⟨h1, fun x hx => ?_, fun x => ?_⟩
      · rw [hk2.2]; exact h2 x hx
      · rw [h3 x]
        constructor
        · rintro ⟨j, hj, e⟩; exact ⟨j, by omega, e⟩
        · rintro ⟨j, hj, e⟩
          rcases Nat.lt_or_ge j m with h4 | h4
          · exact ⟨j, h4, e⟩
          · obtain rfl : j = m := by omega
            exact ⟨j - 1, by omega, by rw [← hk2.2]; exact e⟩
    · simp only [if_true, Nat.add_sub_cancel]
      have hlt : ∀ x ∈ Lib.compactUpTo d m, x < d[m]! := by
        intro x hx
        have hm0 : 0 < m := by
          rcases Nat.eq_zero_or_pos m with h0 | h0
          · subst h0; simp [Lib.compactUpTo] at hx
          · exact h0
        have hne : d[m]! ≠ d[m - 1]! := by
          simp only [Lib.keeps, decide_eq_true_eq] at hk
          rcases hk with h0 | h0
          · omega
          · exact h0
        have h4 : d[m - 1]! < d[m]! := lt_of_not_lt (List.not_lt.2 (hd (m - 1) (by omega))) hne
        have h5 := h2 x hx
        exact List.lt_of_le_of_lt h5 h4
      refine ⟨List.pairwise_append.2 ⟨h1, by simp, fun a ha b hb => ?_⟩, fun x hx => ?_, fun x => ?_⟩
      · simp at hb; subst hb; exact hlt a ha
      · rcases List.mem_append.1 hx with h4 | h4
        · exact List.le_of_lt (hlt x h4)
        · simp at h4; subst h4; exact List.le_refl _
      · rw [List.mem_append, h3 x]
        constructor
        · rintro (⟨j, hj, e⟩ | h4)
          · exact ⟨j, by omega, e⟩
          · simp at h4; exact ⟨m, by omega, h4.symm⟩
        · rintro ⟨j, hj, e⟩
          rcases Nat.lt_or_ge j m with h4 | h4
          · exact .inl ⟨j, h4, e⟩
          · obtain rfl : j = m := by omega
            exact .inr (by simp [e])
theorem compact_sorted (zs : List (List UInt8)) (h : zs.Pairwise (· ≤ ·)) : (Lib.compact zs).Pairwise (· < ·) ∧ ∀ x, x ∈ Lib.compact zs ↔ x ∈ zs := by
  obtain ⟨h1, _, h3⟩ := compact_spec zs.toArray (by simpa using h) zs.length (by simp)
  refine ⟨h1, fun x => ?_⟩
  rw [Lib.compact, h3 x]
  constructor
  · rintro ⟨j, hj, e⟩
    rw [getElem!_pos zs.toArray j (by simpa using hj)] at e
    rw [← e]
    simp
  · intro hx
    obtain ⟨j, hj, e⟩ := List.getElem_of_mem hx
    exact ⟨j, hj, by rw [getElem!_pos zs.toArray j (by simpa using hj)]; simpa using e⟩
def nonE (ms : List ByteArray) : List ByteArray := ms.filter (fun m => !m.toList.isEmpty)
def implL (ms : List ByteArray) : List (List UInt8) := Lib.compact (((nonE ms).map bsOf).mergeSort fun x y => decide (x ≤ y))
def implN (ms : List ByteArray) : List ByteArray := (implL ms).map baOf
theorem mem_nonE (ms : List ByteArray) (x : List UInt8) : x ∈ (nonE ms).map bsOf ↔ x ∈ ms.map bsOf ∧ x ≠ [] := by
  simp only [nonE, List.mem_map, List.mem_filter]
  constructor
  · rintro ⟨m, ⟨h1, h2⟩, rfl⟩
    refine ⟨⟨m, h1, rfl⟩, fun e => ?_⟩
    rw [Lib.toList_data, show m.data.toList = [] from e] at h2
    simp at h2
  · rintro ⟨⟨m, h1, rfl⟩, h2⟩
    refine ⟨m, ⟨h1, ?_⟩, rfl⟩
    rw [Lib.toList_data]
    cases hm : m.data.toList with
    | nil => exact absurd hm h2
    | cons a b => rfl
theorem names_eq (ms : List ByteArray) : implN ms = specN ms := by
  have tr : ∀ a b c : List UInt8, decide (a ≤ b) = true → decide (b ≤ c) = true → decide (a ≤ c) = true := fun a b c h1 h2 => by simp only [decide_eq_true_eq] at *; exact List.le_trans h1 h2
  have to : ∀ a b : List UInt8, (decide (a ≤ b) || decide (b ≤ a)) = true := fun a b => by simp only [Bool.or_eq_true, decide_eq_true_eq]; exact List.le_total a b
  have hs := (List.pairwise_mergeSort tr to ((nonE ms).map bsOf)).imp (S := (· ≤ ·)) (fun {a b} h => of_decide_eq_true h)
  obtain ⟨i1, i2⟩ := compact_sorted _ hs
  obtain ⟨s1, s2⟩ := specN_spec ms [] (by simp)
  have hm : ∀ x, x ∈ implL ms ↔ x ∈ (specN ms).map bsOf := by
    intro x
    rw [specN, s2 x, implL, i2 x, List.mem_mergeSort, mem_nonE]
    simp
  have hperm : (implL ms).Perm ((specN ms).map bsOf) := by
    refine (List.perm_ext_iff_of_nodup ?_ ?_).2 hm
    · exact i1.imp (fun {a b} h e => by subst e; exact List.lt_irrefl _ h)
    · exact s1.imp (fun {a b} h e => by subst e; exact List.lt_irrefl _ h)
  have heq : implL ms = (specN ms).map bsOf :=
    List.Perm.eq_of_pairwise (le := (· < ·)) (fun a b _ _ h1 h2 => absurd (List.lt_trans h1 h2) (List.lt_irrefl _)) i1 s1 hperm
  rw [implN, heq, List.map_map]
  conv => rhs; rw [← List.map_id (specN ms)]
  exact List.map_congr_left fun b _ => baOf_bsOf b
theorem nonE_len (ms : List ByteArray) : (nonE ms).length ≤ ms.length := List.length_filter_le _ _
theorem implL_len (ms : List ByteArray) : (implL ms).length ≤ ms.length := by
  have h := specN_len ms
  rw [← names_eq, implN, List.length_map] at h
  exact h
theorem strs_impl (ms : List ByteArray) : (implL ms).map encStr = strs (specN ms) := by
  rw [← names_eq, implN, strs, List.map_map]
  rfl
end Go.Proofs.YtmnlkcclcnnhmaaGreatDoor
