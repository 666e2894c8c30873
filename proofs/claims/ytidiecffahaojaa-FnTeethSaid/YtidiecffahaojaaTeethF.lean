/- Plain facts of FnTeeth. -/
import Derived.Test.YtidiecffahaojaaTeethC
import Derived.Test.YtidiecffahaojaaTeethD
namespace Go.Proofs.Ytidiecffahaojaa
open Go.RowKit

theorem missTo_nonneg (zs : List Int) (g : Int) (n : Nat) : 0 ≤ missTo zs g n := by
  induction n with
  | zero => simp [missTo]
  | succ n ih =>
    unfold missTo
    have : 0 ≤ missAt zs g n := by unfold missAt; omega
    first | omega | (split <;> omega)
theorem missF_nonneg (zs : List Int) (g : Int) : 0 ≤ (missF zs g).1 := by
  unfold missF
  split
  · exact missTo_nonneg _ _ _
  · exact Int.le_refl _
theorem pairAt_symm (za zb : List Int) (off : Int) (i : Nat) : pairAt za zb off i = pairAt zb za off i := by
  unfold pairAt
  rw [Bool.eq_iff_iff, inB_true, inB_true]
  omega
theorem pairF_symm (za zb : List Int) (off : Int) : pairF za zb off = pairF zb za off := by
  unfold pairF
  by_cases h : holesB za = true ∧ holesB zb = true ∧ za.length = zb.length ∧ inB off 0 50 = true
  · rw [if_pos h, if_pos ⟨h.2.1, h.1, h.2.2.1.symm, h.2.2.2⟩, h.2.2.1]
    congr 1
    congr 1
    funext i
    exact pairAt_symm _ _ _ _
  · rw [if_neg h, if_neg (fun k => h ⟨k.2.1, k.1, k.2.2.1.symm, k.2.2.2⟩)]
/-- every hole moved by 1 -/
def moved (zs : List Int) : List Int := zs.map (· + 1)
theorem moved_length (zs : List Int) : (moved zs).length = zs.length := by simp [moved]
theorem moved_get {zs : List Int} {i : Nat} (h : i < zs.length) : (moved zs).getD i 0 = zs.getD i 0 + 1 := by
  simp [moved, List.getD_eq_getElem?_getD, h]
theorem moved_holes {zs : List Int} (h : holesB zs = true) (hl : zs.getD (zs.length - 1) 0 < 9999) : holesB (moved zs) = true := by
  have q := holes_of h
  have h2 := q.two
  have h4 := q.forty
  have hmax : ∀ i, i < zs.length → zs.getD i 0 ≤ 9998 := fun i hi => by
    by_cases e : i = zs.length - 1
    · subst e; omega
    · have := q.asc i (zs.length - 1) (by omega) (by omega); omega
  simp only [holesB, Bool.and_eq_true, inB_true, allB_true, moved_length]
  refine ⟨⟨by omega, by omega⟩, fun i hi => ?_⟩
  have hlo := q.lo i hi
  have hhi := hmax i hi
  simp only [risB, Bool.and_eq_true, inB_true, Bool.or_eq_true, decide_eq_true_eq]
  rw [moved_get hi]
  refine ⟨⟨by omega, by omega⟩, ?_⟩
  by_cases e : i = 0
  · exact .inl e
  · right
    rw [moved_get (show i - 1 < zs.length by omega)]
    have := q.asc (i - 1) i (by omega) hi
    omega
theorem moved_gauge {zs : List Int} (h : holesB zs = true) (hl : zs.getD (zs.length - 1) 0 < 9999) : gaugeOfF (moved zs) = gaugeOfF zs := by
  have q := holes_of h
  have h2 := q.two
  have hn : gaugeOfN (moved zs) = gaugeOfN zs := by
    unfold gaugeOfN
    rw [moved_length, moved_get (show zs.length - 1 < zs.length by omega), moved_get (show 0 < zs.length by omega)]
    congr 1
    omega
  unfold gaugeOfF
  rw [hn]
  simp only [h, moved_holes h hl]
theorem moved_pair {zs : List Int} (h : holesB zs = true) (hl : zs.getD (zs.length - 1) 0 < 9999) : pairF zs (moved zs) 0 = (true, true) := by
  have q := holes_of h
  have h2 := q.two
  unfold pairF
  rw [if_pos ⟨h, moved_holes h hl, (moved_length zs).symm, by decide⟩]
  congr 1
  rw [allB_true]
  intro i hi
  unfold pairAt
  rw [moved_get hi, moved_get (show 0 < zs.length by omega), inB_true]
  omega
end Go.Proofs.Ytidiecffahaojaa
