/- Blocks in plain lists: points do not grow, two blocks agree from both sides. -/
import Derived.Test.YtenedmkjbmbapaaTextB
import Derived.Test.YtenedmkjbmbapaaDrawP
namespace Go.Proofs.Ytenedmkjbmbapaa
open Go.RowKit

theorem cnt_layL (x y : List UInt8) (c m : Nat) : (layL x y c m).count 46 ≤ x.count 46 := by
  have e : x = (List.range x.length).map (fun k => x.getD k 0) := by
    apply List.ext_getElem (by simp)
    intro k h1 h2
    simp [List.getD_eq_getElem?_getD, List.getElem?_eq_getElem h1]
  conv => rhs; rw [e]
  unfold layL
  simp only [List.count_eq_countP, List.countP_map]
  refine List.countP_mono_left fun k hk h => ?_
  simp only [Function.comp] at h ⊢
  split at h
  · rename_i q
    exact absurd (by simpa using h) q.2.2
  · exact h
theorem cnt_layRow (x y : ByteArray) (c : Nat) : cntTo (layRow x y c) (layRow x y c).size ≤ cntTo x x.size := by
  rw [cntTo_all, cntTo_all]
  have : (layRow x y c).data.toList = layL x.data.toList y.data.toList c y.size := by simp [layRow]
  rw [this]
  exact cnt_layL _ _ _ _
theorem pts_layTo (xs ys : List ByteArray) (r c i : Nat) : ∀ k, k ≤ xs.length → ptsTo (layTo xs ys r c i) k ≤ ptsTo xs k := by
  intro k
  induction k with
  | zero => intro _; exact Nat.le_refl _
  | succ k ih =>
    intro hk
    have h1 := ih (by omega)
    rw [ptsTo, ptsTo]
    have h2 : cntTo (rowAt (layTo xs ys r c i) k) (rowAt (layTo xs ys r c i) k).size ≤ cntTo (rowAt xs k) (rowAt xs k).size := by
      rw [rowAt_layTo (by omega)]
      split
      · exact cnt_layRow _ _ _
      · exact Nat.le_refl _
    omega
theorem pts_layR {xs ys : List ByteArray} {r c : Int} (h : fitsB xs ys r c = true) : ptsF (layR xs ys r c) ≤ ptsF xs := by
  rw [layR, if_pos h, ptsF, ptsF, layF, layTo_len]
  exact pts_layTo _ _ _ _ _ _ (Nat.le_refl _)
theorem pts_layW {xs ys : List ByteArray} {r c : Int} (h : okW xs ys r c = true) : ptsF (layW xs ys r c) ≤ ptsF xs := by
  simp only [okW, Bool.and_eq_true] at h
  rw [layW_of h.1]
  exact pts_layR h.2
theorem okW_plF {xs ys : List ByteArray} {p : Int × Int} (hp : p ∈ plR xs ys) : okW xs ys p.1 p.2 = true ∧ gridB xs 5 = true ∧ (-10 ≤ p.1 ∧ p.1 ≤ 10) ∧ (-10 ≤ p.2 ∧ p.2 ≤ 10) := by
  unfold plR at hp
  split at hp
  · rename_i h
    have hg : gridB xs 5 = true := by simp only [okP, Bool.and_eq_true] at h; exact h.1
    have hs := plF_small hg hp
    obtain ⟨r, c, rfl, _, _, hf⟩ := plF_in hp
    exact ⟨by rw [okW, h, hf]; rfl, hg, ⟨hs.1, hs.2.1⟩, ⟨hs.2.2.1, hs.2.2.2⟩⟩
  · cases hp
theorem inB_neg (d : Int) : inB (-d) (-2) 2 = inB d (-2) 2 := by
  rw [Bool.eq_iff_iff, inB_true, inB_true]; omega
theorem agS_flip {xs ys : List ByteArray} {d r : Int} (hy : gridB ys 3 = true) : agS ys xs (-d) (-r) = agI xs ys d r := by
  obtain ⟨_, _, hy3⟩ := gridB_bd hy
  have e : ∀ i k, okS ys xs (-d) (-r) i k = okI xs ys d r i k := by
    intro i k
    unfold okS okI
    rw [Int.sub_neg, Int.sub_neg, diffB_symm]
  rw [Bool.eq_iff_iff]
  simp only [agS, agI, allB_true]
  constructor
  · intro h i hi k hk
    rw [(hy3 i hi).1] at hk
    rw [← e]; exact h i hi k hk
  · intro h i hi k hk
    rw [e]; exact h i hi k (by rw [(hy3 i hi).1]; exact hk)
theorem agF_flip (xs ys : List ByteArray) (d r : Int) : agF ys xs (-d) (-r) = agF xs ys d r := by
  unfold agF
  rw [inB_neg, inB_neg, Bool.and_comm (gridB ys 3) (gridB xs 3)]
  by_cases h : (gridB xs 3 && gridB ys 3 && inB d (-2) 2 && inB r (-2) 2) = true
  · rw [if_pos h, if_pos h]
    simp only [Bool.and_eq_true] at h
    rw [agS_flip h.1.1.2, ag_eq h.1.1.1 h.1.1.2]
  · rw [if_neg h, if_neg h]
theorem grid_small {zs : List ByteArray} (h : gridB zs 5 = true) : zs.length ≤ 1048576 ∧ ∀ z ∈ zs, z.size ≤ 1048576 := by
  obtain ⟨_, l2, _⟩ := gridB_bd h
  exact ⟨by omega, fun z hz => by have := gridB_mem h z hz; omega⟩
theorem ptsR_of {zs : List ByteArray} (h : gridB zs 5 = true) : ptsR zs = ((ptsF zs : Int), true) := by rw [ptsR, if_pos h]
end Go.Proofs.Ytenedmkjbmbapaa
