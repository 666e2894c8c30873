/- A block laid on a sheet, in plain lists of bytes. -/
import Derived.Test.YtenedmkjbmbapaaAgree
namespace Go.Proofs.Ytenedmkjbmbapaa
open Go.RowKit

/-- a byte of a text -/
def ub (s : ByteArray) (k : Nat) : UInt8 := s.data.toList.getD k 0
theorem ub_of {s : ByteArray} {k : Nat} (h : k < s.size) : ub s k = s[k] := by
  have h2 : k < s.data.toList.length := by simpa using h
  unfold ub
  rw [List.getD_eq_getElem?_getD, List.getElem?_eq_getElem h2]; rfl
theorem chAt_ub (s : ByteArray) (k : Nat) : chAt s k = (ub s k).toNat := by
  by_cases h : k < s.size
  · rw [chAt_of h, ub_of h]
  · have h2 : ¬ k < s.data.toList.length := by simpa using h
    unfold chAt ub
    rw [dif_neg h, List.getD_eq_getElem?_getD, List.getElem?_eq_none (by omega)]; rfl
theorem diffB_symm (x y : Nat) : diffB x y = diffB y x := by
  unfold diffB
  rw [Bool.eq_iff_iff]
  simp only [Bool.and_eq_true, Bool.not_eq_true', decide_eq_false_iff_not]
  exact ⟨fun ⟨⟨a, b⟩, c⟩ => ⟨⟨b, a⟩, fun e => c e.symm⟩, fun ⟨⟨a, b⟩, c⟩ => ⟨⟨b, a⟩, fun e => c e.symm⟩⟩
/-- the first m letters of y laid on x from column c on -/
def layL (x y : List UInt8) (c m : Nat) : List UInt8 := (List.range x.length).map fun k => if c ≤ k ∧ k < c + m ∧ y.getD (k - c) 0 ≠ 46 then y.getD (k - c) 0 else x.getD k 0
theorem layL_len (x y : List UInt8) (c m : Nat) : (layL x y c m).length = x.length := by simp [layL]
theorem layL_at {x y : List UInt8} {c m k : Nat} (h : k < x.length) : (layL x y c m)[k]'(by rw [layL_len]; exact h) = if c ≤ k ∧ k < c + m ∧ y.getD (k - c) 0 ≠ 46 then y.getD (k - c) 0 else x.getD k 0 := by simp [layL]
theorem layL_zero (x y : List UInt8) (c : Nat) : layL x y c 0 = x := by
  apply List.ext_getElem (layL_len _ _ _ _)
  intro k h1 h2
  rw [layL_at h2, if_neg (by omega), List.getD_eq_getElem?_getD, List.getElem?_eq_getElem h2]; rfl
theorem layL_far {x y : List UInt8} {c m k : Nat} (h : k < x.length) (hk : c + m ≤ k) : (layL x y c m)[k]'(by rw [layL_len]; exact h) = x[k] := by
  rw [layL_at h, if_neg (by omega), List.getD_eq_getElem?_getD, List.getElem?_eq_getElem h]; rfl
theorem layL_dot {x y : List UInt8} {c m : Nat} (h : y.getD m 0 = 46) : layL x y c (m + 1) = layL x y c m := by
  apply List.ext_getElem (by rw [layL_len, layL_len])
  intro k h1 h2
  rw [layL_len] at h1
  rw [layL_at h1, layL_at h1]
  by_cases e : k = c + m
  · subst e
    rw [show c + m - c = m by omega, if_neg (fun q => q.2.2 h), if_neg (by omega)]
  · by_cases q : c ≤ k ∧ k < c + m ∧ y.getD (k - c) 0 ≠ 46
    · rw [if_pos q, if_pos ⟨q.1, by omega, q.2.2⟩]
    · rw [if_neg q, if_neg (fun p => q ⟨p.1, by omega, p.2.2⟩)]
theorem layL_put {x y : List UInt8} {c m : Nat} (h : y.getD m 0 ≠ 46) : layL x y c (m + 1) = (layL x y c m).set (c + m) (y.getD m 0) := by
  apply List.ext_getElem (by rw [List.length_set, layL_len, layL_len])
  intro k h1 h2
  rw [layL_len] at h1
  rw [List.getElem_set, layL_at h1]
  by_cases e : k = c + m
  · subst e
    have e1 : c + m - c = m := by omega
    rw [if_pos (show c ≤ c + m ∧ c + m < c + (m + 1) ∧ y.getD (c + m - c) 0 ≠ 46 from ⟨by omega, by omega, by rw [e1]; exact h⟩), if_pos rfl, e1]
  · rw [if_neg (show ¬ (c + m = k) from fun q => e q.symm), layL_at h1]
    by_cases q : c ≤ k ∧ k < c + m ∧ y.getD (k - c) 0 ≠ 46
    · rw [if_pos q, if_pos ⟨q.1, by omega, q.2.2⟩]
    · rw [if_neg q, if_neg (fun p => q ⟨p.1, by omega, p.2.2⟩)]
/-- a row of a block laid on a row of a sheet -/
def layRow (x y : ByteArray) (c : Nat) : ByteArray := ⟨(layL x.data.toList y.data.toList c y.size).toArray⟩
theorem layRow_size (x y : ByteArray) (c : Nat) : (layRow x y c).size = x.size := by
  show (layL x.data.toList y.data.toList c y.size).toArray.size = _
  rw [List.size_toArray, layL_len]; simp
/-- the first i rows of a block laid on a sheet -/
def layTo (xs ys : List ByteArray) (r c i : Nat) : List ByteArray := (List.range xs.length).map fun j => if r ≤ j ∧ j < r + i then layRow (rowAt xs j) (rowAt ys (j - r)) c else rowAt xs j
theorem layTo_len (xs ys : List ByteArray) (r c i : Nat) : (layTo xs ys r c i).length = xs.length := by simp [layTo]
theorem layTo_at {xs ys : List ByteArray} {r c i j : Nat} (h : j < xs.length) : (layTo xs ys r c i)[j]'(by rw [layTo_len]; exact h) = if r ≤ j ∧ j < r + i then layRow (rowAt xs j) (rowAt ys (j - r)) c else rowAt xs j := by simp [layTo]
theorem layTo_zero (xs ys : List ByteArray) (r c : Nat) : layTo xs ys r c 0 = xs := by
  apply List.ext_getElem (layTo_len _ _ _ _ _)
  intro k h1 h2
  rw [layTo_at h2, if_neg (by omega), rowAt_of h2]
theorem layTo_succ (xs ys : List ByteArray) (r c i : Nat) : layTo xs ys r c (i + 1) = (layTo xs ys r c i).set (r + i) (layRow (rowAt xs (r + i)) (rowAt ys i) c) := by
  apply List.ext_getElem (by rw [List.length_set, layTo_len, layTo_len])
  intro k h1 h2
  rw [layTo_len] at h1
  rw [List.getElem_set, layTo_at h1]
  by_cases e : k = r + i
  · subst e
    have e1 : r + i - r = i := by omega
    rw [if_pos (show r ≤ r + i ∧ r + i < r + (i + 1) from ⟨by omega, by omega⟩), if_pos rfl, e1]
  · rw [if_neg (show ¬ (r + i = k) from fun q => e q.symm), layTo_at h1]
    by_cases q : r ≤ k ∧ k < r + i
    · rw [if_pos q, if_pos ⟨q.1, by omega⟩]
    · rw [if_neg q, if_neg (fun p => q ⟨p.1, by omega⟩)]
def layF (xs ys : List ByteArray) (r c : Nat) : List ByteArray := layTo xs ys r c ys.length
def noDiffRow (x y : ByteArray) (c : Nat) : Bool := allB y.size (fun k => !diffB (chAt y k) (chAt x (c + k)))
def noDiff (xs ys : List ByteArray) (r c : Nat) : Bool := allB ys.length (fun i => noDiffRow (rowAt xs (r + i)) (rowAt ys i) c)
/-- a block fits -/
def fitsB (xs ys : List ByteArray) (r c : Int) : Bool := decide (0 ≤ r) && decide (r + (ys.length : Int) ≤ (xs.length : Int)) && decide (0 ≤ c) && decide (c + ((rowAt ys 0).size : Int) ≤ ((rowAt xs 0).size : Int)) && noDiff xs ys r.toNat c.toNat
/-- what the reference makes of the first k letters of a row -/
def laySL (x y : List UInt8) (inn : Bool) (c m k : Nat) : List UInt8 := (List.range k).map fun j => if inn = true ∧ c ≤ j ∧ j < c + m ∧ x.getD j 0 = 46 then y.getD (j - c) 0 else x.getD j 0
theorem laySL_zero (x y : List UInt8) (inn : Bool) (c m : Nat) : laySL x y inn c m 0 = [] := rfl
theorem laySL_len (x y : List UInt8) (inn : Bool) (c m k : Nat) : (laySL x y inn c m k).length = k := by simp [laySL]
theorem laySL_yes {x y : List UInt8} {inn : Bool} {c m k : Nat} (h : inn = true ∧ c ≤ k ∧ k < c + m ∧ x.getD k 0 = 46) : laySL x y inn c m (k + 1) = laySL x y inn c m k ++ [y.getD (k - c) 0] := by
  simp only [laySL, List.range_succ, List.map_append, List.map_cons, List.map_nil]
  rw [if_pos h]
theorem laySL_no {x y : List UInt8} {inn : Bool} {c m k : Nat} (h : ¬ (inn = true ∧ c ≤ k ∧ k < c + m ∧ x.getD k 0 = 46)) : laySL x y inn c m (k + 1) = laySL x y inn c m k ++ [x.getD k 0] := by
  simp only [laySL, List.range_succ, List.map_append, List.map_cons, List.map_nil]
  rw [if_neg h]
theorem laySL_out (x y : List UInt8) (c m : Nat) : laySL x y false c m x.length = x := by
  apply List.ext_getElem (laySL_len _ _ _ _ _ _)
  intro k h1 h2
  simp only [laySL, List.getElem_map, List.getElem_range]
  rw [if_neg (fun q => by cases q.1), List.getD_eq_getElem?_getD, List.getElem?_eq_getElem h2]; rfl
theorem laySL_in {x y : ByteArray} {c : Nat} (h : noDiffRow x y c = true) : laySL x.data.toList y.data.toList true c y.size x.data.toList.length = layL x.data.toList y.data.toList c y.size := by
  apply List.ext_getElem (by rw [laySL_len, layL_len])
  intro k h1 h2
  rw [layL_len] at h2
  rw [layL_at h2]
  simp only [laySL, List.getElem_map, List.getElem_range]
  by_cases q : c ≤ k ∧ k < c + y.size
  · rw [noDiffRow, allB_true] at h
    have hd := h (k - c) (by omega)
    rw [show c + (k - c) = k by omega, chAt_ub, chAt_ub] at hd
    simp only [ub, diffB, Bool.not_eq_true', Bool.and_eq_false_iff, Bool.not_eq_false'] at hd
    have n46 : (46 : UInt8).toNat = 46 := rfl
    rcases hd with (hd | hd) | hd
    · have e : y.data.toList.getD (k - c) 0 = 46 := UInt8.toNat_inj.1 (by rw [n46]; exact of_decide_eq_true hd)
      rw [if_neg (show ¬ (c ≤ k ∧ k < c + y.size ∧ y.data.toList.getD (k - c) 0 ≠ 46) from fun p => p.2.2 e)]
      by_cases e2 : x.data.toList.getD k 0 = 46
      · rw [if_pos ⟨trivial, q.1, q.2, e2⟩, e, e2]
      · rw [if_neg (fun p => e2 p.2.2.2)]
    · have e : x.data.toList.getD k 0 = 46 := UInt8.toNat_inj.1 (by rw [n46]; exact of_decide_eq_true hd)
      rw [if_pos ⟨trivial, q.1, q.2, e⟩]
      by_cases e2 : y.data.toList.getD (k - c) 0 = 46
      · rw [if_neg (fun p => p.2.2 e2), e, e2]
      · rw [if_pos ⟨q.1, q.2, e2⟩]
    · have e : y.data.toList.getD (k - c) 0 = x.data.toList.getD k 0 := UInt8.toNat_inj.1 (of_decide_eq_true hd)
      rw [e]; split <;> split <;> rfl
  · rw [if_neg (fun p => q ⟨p.2.1, p.2.2.1⟩), if_neg (fun p => q ⟨p.1, p.2.1⟩)]
/-- the rows of a sheet on which a block is laid, as the reference makes them -/
def layS (xs ys : List ByteArray) (r c i : Nat) : List ByteArray := (List.range i).map fun j => ⟨(laySL (rowAt xs j).data.toList (rowAt ys (j - r)).data.toList (decide (r ≤ j ∧ j < r + ys.length)) c (rowAt ys 0).size (rowAt xs j).size).toArray⟩
theorem layS_succ (xs ys : List ByteArray) (r c i : Nat) : layS xs ys r c (i + 1) = layS xs ys r c i ++ [⟨(laySL (rowAt xs i).data.toList (rowAt ys (i - r)).data.toList (decide (r ≤ i ∧ i < r + ys.length)) c (rowAt ys 0).size (rowAt xs i).size).toArray⟩] := by
  simp only [layS, List.range_succ, List.map_append, List.map_cons, List.map_nil]
theorem layS_len (xs ys : List ByteArray) (r c i : Nat) : (layS xs ys r c i).length = i := by simp [layS]
theorem size_list (s : ByteArray) : s.data.toList.length = s.size := by simp
theorem layS_all {xs ys : List ByteArray} {r c : Nat} (hy : gridB ys 3 = true) (h : noDiff xs ys r c = true) : layS xs ys r c xs.length = layF xs ys r c := by
  obtain ⟨_, _, y3⟩ := gridB_bd hy
  apply List.ext_getElem (by rw [layS_len, layF, layTo_len])
  intro j h1 h2
  rw [layS_len] at h1
  simp only [layF]
  rw [layTo_at h1]
  simp only [layS, List.getElem_map, List.getElem_range]
  by_cases q : r ≤ j ∧ j < r + ys.length
  · rw [if_pos q, decide_eq_true q]
    rw [noDiff, allB_true] at h
    have hd := h (j - r) (by omega)
    rw [show r + (j - r) = j by omega] at hd
    rw [← size_list (rowAt xs j), ← (y3 (j - r) (by omega)).1, laySL_in hd]
    rfl
  · rw [if_neg q, decide_eq_false q, ← size_list (rowAt xs j), laySL_out]
/-- a laid sheet is a sheet -/
theorem layRow_ok {x y : ByteArray} {c : Nat} (hx : allB x.size (fun k => chOk (chAt x k)) = true) (hy : allB y.size (fun k => chOk (chAt y k)) = true) : allB (layRow x y c).size (fun k => chOk (chAt (layRow x y c) k)) = true := by
  rw [allB_true] at *
  intro k hk
  rw [layRow_size] at hk
  have hk2 : k < x.data.toList.length := by rw [size_list]; exact hk
  have e : ub (layRow x y c) k = (layL x.data.toList y.data.toList c y.size)[k]'(by rw [layL_len]; exact hk2) := by
    unfold ub layRow
    rw [List.getD_eq_getElem?_getD, List.toList_toArray, List.getElem?_eq_getElem (by rw [layL_len]; exact hk2)]; rfl
  rw [chAt_ub, e, layL_at hk2]
  split
  · rename_i q
    have := hy (k - c) (by omega)
    rwa [chAt_ub] at this
  · have := hx k hk
    rwa [chAt_ub] at this
end Go.Proofs.Ytenedmkjbmbapaa
