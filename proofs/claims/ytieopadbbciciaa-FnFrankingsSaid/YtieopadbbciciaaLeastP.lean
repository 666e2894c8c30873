/- LeastOver in plain lists: all frankings in order, the least of them; stamps of no face change nothing. -/
import Derived.Test.YtieopadbbciciaaStampC
namespace Go.Proofs.Ytieopadbbciciaa
open Go.RowKit

/-! ### An order on lists -/
def lexB : List Int → List Int → Bool
  | [], [] => false
  | [], _ :: _ => true
  | _ :: _, [] => false
  | a :: l, b :: m => decide (a < b) || (decide (a = b) && lexB l m)
theorem lexB_asymm : ∀ a b : List Int, lexB a b = true → lexB b a = false := by
  intro a
  induction a with
  | nil => intro b h; cases b <;> simp_all [lexB]
  | cons x a ih =>
    intro b h
    cases b with
    | nil => simp [lexB] at h
    | cons y b =>
      simp only [lexB, Bool.or_eq_true, Bool.and_eq_true, decide_eq_true_eq] at h
      simp only [lexB, Bool.or_eq_false_iff, Bool.and_eq_false_iff, decide_eq_false_iff_not]
      rcases h with h | ⟨h, h2⟩
      · exact ⟨by omega, .inl (by omega)⟩
      · exact ⟨by omega, .inr (ih b h2)⟩
theorem lexB_anti : ∀ a b : List Int, lexB a b = false → lexB b a = false → a = b := by
  intro a
  induction a with
  | nil => intro b h h2; cases b <;> simp_all [lexB]
  | cons x a ih =>
    intro b h h2
    cases b with
    | nil => simp [lexB] at h2
    | cons y b =>
      simp only [lexB, Bool.or_eq_false_iff, Bool.and_eq_false_iff, decide_eq_false_iff_not] at h h2
      have e : x = y := by omega
      subst e
      rw [ih b (by rcases h.2 with h3 | h3; exact absurd rfl h3; exact h3) (by rcases h2.2 with h3 | h3; exact absurd rfl h3; exact h3)]
theorem lexB_ntrans : ∀ a b c : List Int, lexB a b = false → lexB b c = false → lexB a c = false := by
  intro a
  induction a with
  | nil =>
    intro b c h h2
    cases b with
    | nil => exact h2
    | cons y b => simp [lexB] at h
  | cons x a ih =>
    intro b c h h2
    cases c with
    | nil => rfl
    | cons z c =>
      cases b with
      | nil => simp [lexB] at h2
      | cons y b =>
        simp only [lexB, Bool.or_eq_false_iff, Bool.and_eq_false_iff, decide_eq_false_iff_not] at h h2 ⊢
        refine ⟨by omega, ?_⟩
        by_cases e : x = z
        · have e1 : x = y := by omega
          have e2 : y = z := by omega
          right
          refine ih b c ?_ ?_
          · rcases h.2 with h3 | h3
            · exact absurd e1 h3
            · exact h3
          · rcases h2.2 with h3 | h3
            · exact absurd e2 h3
            · exact h3
        · exact .inl e
/-! ### Frankings and the least of them -/
abbrev Fk := List Int × Int
def keyF (x : Fk) : List Int := x.2 :: (x.1.length : Int) :: x.1
theorem keyF_inj {x y : Fk} (h : keyF x = keyF y) : x = y := by
  simp only [keyF, List.cons.injEq] at h
  exact Prod.ext h.2.2 h.1
/-- goes before: shorter, or of one length and smaller -/
def befB (f g : List Int) : Bool := decide (f.length < g.length) || (decide (f.length = g.length) && lexB f g)
/-- x is better than what is held; below zero stands for nothing -/
def betF (x st : Fk) : Bool := decide (st.2 < 0) || (decide (x.2 < st.2) || (decide (x.2 = st.2) && befB x.1 st.1))
theorem betF_key {x st : Fk} (h : 0 ≤ st.2) : betF x st = lexB (keyF x) (keyF st) := by
  have h0 : decide (st.2 < 0) = false := by simpa using h
  rw [betF, h0, Bool.false_or]
  simp only [keyF, lexB, befB]
  congr 1
  congr 1
  congr 1
  · simp
  · congr 1; simp; omega
def updF (st : Fk) (x : Fk) : Fk := if betF x st = true then x else st
def foldB (L : List Fk) (st : Fk) : Fk := L.foldl updF st
theorem foldB_app (a b : List Fk) (st : Fk) : foldB (a ++ b) st = foldB b (foldB a st) := by simp [foldB]
/-- what holds of the least one -/
theorem foldB_least : ∀ (L : List Fk) (st : Fk), (∀ x ∈ L, 0 ≤ x.2) → 0 ≤ st.2 → 0 ≤ (foldB L st).2 ∧ (foldB L st = st ∨ foldB L st ∈ L) ∧ lexB (keyF st) (keyF (foldB L st)) = false ∧ ∀ x ∈ L, lexB (keyF x) (keyF (foldB L st)) = false := by
  intro L
  induction L with
  | nil =>
    intro st _ h
    refine ⟨h, .inl rfl, ?_, fun x hx => by simp at hx⟩
    show lexB (keyF st) (keyF st) = false
    by_cases e : lexB (keyF st) (keyF st) = true
    · exact lexB_asymm _ _ e
    · simpa using e
  | cons y L ih =>
    intro st hx hs
    have hy := hx y (List.mem_cons_self ..)
    have e : foldB (y :: L) st = foldB L (updF st y) := rfl
    rw [e]
    have hu : 0 ≤ (updF st y).2 ∧ (updF st y = st ∨ updF st y = y) ∧ lexB (keyF st) (keyF (updF st y)) = false ∧ lexB (keyF y) (keyF (updF st y)) = false := by
      have hrefl : ∀ k : List Int, lexB k k = false := fun k => by
        by_cases e : lexB k k = true
        · exact lexB_asymm _ _ e
        · simpa using e
      unfold updF
      rw [betF_key hs]
      split
      · rename_i h; exact ⟨hy, .inr rfl, lexB_asymm _ _ h, hrefl _⟩
      · rename_i h; exact ⟨hs, .inl rfl, hrefl _, by simpa using h⟩
    obtain ⟨u1, u2, u3, u4⟩ := hu
    obtain ⟨h1, h2, h3, h4⟩ := ih (updF st y) (fun x h => hx x (List.mem_cons_of_mem _ h)) u1
    refine ⟨h1, ?_, lexB_ntrans _ _ _ u3 h3, fun x h => ?_⟩
    · rcases h2 with h2 | h2
      · rcases u2 with u2 | u2
        · left; rw [h2, u2]
        · right; rw [h2, u2]; exact List.mem_cons_self ..
      · exact .inr (List.mem_cons_of_mem _ h2)
    · rcases List.mem_cons.1 h with rfl | h
      · exact lexB_ntrans _ _ _ u4 h3
      · exact h4 x h
abbrev none0 : Fk := ([], -1)
theorem foldB_none (x : Fk) (L : List Fk) : foldB (x :: L) none0 = foldB L x := rfl
theorem foldB_of {L : List Fk} (hx : ∀ x ∈ L, 0 ≤ x.2) : (L = [] ∧ foldB L none0 = none0) ∨ (foldB L none0 ∈ L ∧ 0 ≤ (foldB L none0).2 ∧ ∀ x ∈ L, lexB (keyF x) (keyF (foldB L none0)) = false) := by
  cases L with
  | nil => exact .inl ⟨rfl, rfl⟩
  | cons y L =>
    right
    rw [foldB_none]
    obtain ⟨h1, h2, h3, h4⟩ := foldB_least L y (fun x h => hx x (List.mem_cons_of_mem _ h)) (hx y (List.mem_cons_self ..))
    refine ⟨?_, h1, fun x h => ?_⟩
    · rcases h2 with h2 | h2
      · rw [h2]; exact List.mem_cons_self ..
      · exact List.mem_cons_of_mem _ h2
    · rcases List.mem_cons.1 h with rfl | h
      · exact h3
      · exact h4 x h
/-- two lists with one least one -/
theorem foldB_same {A B : List Fk} (ha : ∀ x ∈ A, x ∈ B) (hb : ∀ x ∈ B, 0 ≤ x.2) (hab : ∀ x ∈ B, ∃ y ∈ A, lexB (keyF x) (keyF y) = false) : foldB A none0 = foldB B none0 := by
  rcases foldB_of (L := A) (fun x h => hb x (ha x h)) with ⟨e1, e2⟩ | ⟨a1, _, a3⟩
  · rcases foldB_of hb with ⟨_, e4⟩ | ⟨b1, _, _⟩
    · rw [e2, e4]
    · obtain ⟨y, hy, _⟩ := hab _ b1; rw [e1] at hy; simp at hy
  · rcases foldB_of hb with ⟨e3, _⟩ | ⟨b1, _, b3⟩
    · have := ha _ a1; rw [e3] at this; simp at this
    · obtain ⟨y, hy, h1⟩ := hab _ b1
      have h2 := lexB_ntrans _ _ _ h1 (a3 y hy)
      have h3 := b3 _ (ha _ a1)
      exact keyF_inj (lexB_anti _ _ h3 h2)
/-! ### All of them -/
def faceAt (zs : List StampT) (i : Nat) : Int := (zs.getD i stamp0).face
/-- the frankings from one on; z: stamps of no face are left out -/
def lv (zs : List StampT) (z : Bool) (rate : Int) : (fuel : Nat) → List Int → Nat → Int → List Fk
  | 0, f, _, val => if rate ≤ val then [(f, val - rate)] else []
  | n + 1, f, from0, val => if rate ≤ val then [(f, val - rate)] else (List.range' from0 (zs.length - from0)).flatMap fun i => if (z && decide (faceAt zs i ≤ 0)) = true then [] else lv zs z rate n (f ++ [(i : Int)]) i (val + faceAt zs i)
theorem lv_leaf {zs : List StampT} {z : Bool} {rate : Int} {n : Nat} {f : List Int} {i : Nat} {val : Int} (h : rate ≤ val) : lv zs z rate n f i val = [(f, val - rate)] := by
  cases n <;> simp [lv, h]
theorem lv_zero {zs : List StampT} {z : Bool} {rate : Int} {f : List Int} {i : Nat} {val : Int} (h : ¬ rate ≤ val) : lv zs z rate 0 f i val = [] := by simp [lv, h]
/-- those below the first k stamps from one on -/
def lvTo (zs : List StampT) (z : Bool) (rate : Int) (n : Nat) (f : List Int) (from0 : Nat) (val : Int) (k : Nat) : List Fk := (List.range' from0 k).flatMap fun i => if (z && decide (faceAt zs i ≤ 0)) = true then [] else lv zs z rate n (f ++ [(i : Int)]) i (val + faceAt zs i)
theorem lvTo_zero (zs : List StampT) (z : Bool) (rate : Int) (n : Nat) (f : List Int) (from0 : Nat) (val : Int) : lvTo zs z rate n f from0 val 0 = [] := rfl
theorem lvTo_succ (zs : List StampT) (z : Bool) (rate : Int) (n : Nat) (f : List Int) (from0 : Nat) (val : Int) (k : Nat) : lvTo zs z rate n f from0 val (k + 1) = lvTo zs z rate n f from0 val k ++ (if (z && decide (faceAt zs (from0 + k) ≤ 0)) = true then [] else lv zs z rate n (f ++ [((from0 + k : Nat) : Int)]) (from0 + k) (val + faceAt zs (from0 + k))) := by
  unfold lvTo
  rw [List.range'_concat, List.flatMap_append]
  simp
theorem lvTo_all {zs : List StampT} {z : Bool} {rate : Int} {n : Nat} {f : List Int} {from0 : Nat} {val : Int} (h : ¬ rate ≤ val) : lvTo zs z rate n f from0 val (zs.length - from0) = lv zs z rate (n + 1) f from0 val := by
  rw [lv, if_neg h]; rfl
theorem lv_nonneg (zs : List StampT) (z : Bool) (rate : Int) : ∀ (n : Nat) (f : List Int) (from0 : Nat) (val : Int), ∀ x ∈ lv zs z rate n f from0 val, 0 ≤ x.2 := by
  intro n
  induction n with
  | zero =>
    intro f from0 val x hx
    simp only [lv] at hx
    split at hx
    · rw [List.mem_singleton] at hx; subst hx; show 0 ≤ val - rate; omega
    · simp at hx
  | succ n ih =>
    intro f from0 val x hx
    simp only [lv] at hx
    split at hx
    · rw [List.mem_singleton] at hx; subst hx; show 0 ≤ val - rate; omega
    · rw [List.mem_flatMap] at hx
      obtain ⟨i, _, hx⟩ := hx
      split at hx
      · simp at hx
      · exact ih _ _ _ x hx
theorem lv_sub (zs : List StampT) (rate : Int) : ∀ (n : Nat) (f : List Int) (from0 : Nat) (val : Int), ∀ x ∈ lv zs true rate n f from0 val, x ∈ lv zs false rate n f from0 val := by
  intro n
  induction n with
  | zero => intro f from0 val x hx; exact hx
  | succ n ih =>
    intro f from0 val x hx
    simp only [lv] at hx ⊢
    split at hx
    · rename_i h; rw [if_pos h]; exact hx
    · rename_i h
      rw [if_neg h, List.mem_flatMap]
      rw [List.mem_flatMap] at hx
      obtain ⟨i, hi, hx⟩ := hx
      split at hx
      · simp at hx
      · exact ⟨i, hi, by simpa using ih _ _ _ x hx⟩
/-- without the stamps of no face there is one that is no worse -/
theorem lv_drop {zs : List StampT} (hf : ∀ i, 0 ≤ faceAt zs i) (rate : Int) : ∀ (n n' : Nat) (f g : List Int) (i i' : Nat) (val : Int), i' ≤ i → n ≤ n' → ∀ x ∈ lv zs false rate n f i val,
    ∃ t t', x.1 = f ++ t ∧ (g ++ t', x.2) ∈ lv zs true rate n' g i' val ∧ t'.length ≤ t.length ∧ (t'.length = t.length → t' = t) := by
  intro n
  induction n with
  | zero =>
    intro n' f g i i' val hi hn x hx
    simp only [lv] at hx
    split at hx
    · rename_i h
      rw [List.mem_singleton] at hx; subst hx
      exact ⟨[], [], by simp, by rw [lv_leaf h]; simp, by simp, fun _ => rfl⟩
    · simp at hx
  | succ n ih =>
    intro n' f g i i' val hi hn x hx
    by_cases h : rate ≤ val
    · rw [lv_leaf h, List.mem_singleton] at hx; subst hx
      exact ⟨[], [], by simp, by rw [lv_leaf h]; simp, by simp, fun _ => rfl⟩
    obtain ⟨m, rfl⟩ : ∃ m, n' = m + 1 := ⟨n' - 1, by omega⟩
    simp only [lv, if_neg h, List.mem_flatMap, Bool.false_and, if_neg (show ¬ (false = true) from fun e => by cases e)] at hx
    obtain ⟨k, hk, hx⟩ := hx
    rw [List.mem_range'_1] at hk
    by_cases h0 : faceAt zs k ≤ 0
    · have e0 : faceAt zs k = 0 := by have := hf k; omega
      rw [e0, Int.add_zero] at hx
      obtain ⟨t, t', h1, h2, h3, _⟩ := ih (m + 1) (f ++ [(k : Int)]) g k i' val (by omega) (by omega) x hx
      exact ⟨(k : Int) :: t, t', by rw [h1]; simp, h2, by simp; omega, fun e => by simp at e; omega⟩
    · obtain ⟨t, t', h1, h2, h3, h4⟩ := ih m (f ++ [(k : Int)]) (g ++ [(k : Int)]) k k (val + faceAt zs k) (Nat.le_refl _) (by omega) x hx
      refine ⟨(k : Int) :: t, (k : Int) :: t', by rw [h1]; simp, ?_, by simp; omega, fun e => by rw [h4 (by simpa using e)]⟩
      rw [lv, if_neg h, List.mem_flatMap]
      refine ⟨k, by rw [List.mem_range'_1]; omega, ?_⟩
      rw [if_neg (by simp; omega)]
      simpa using h2
theorem faceAt_nonneg {zs : List StampT} (h : stampsOk zs = true) (i : Nat) : 0 ≤ faceAt zs i := by
  unfold faceAt
  by_cases hi : i < zs.length
  · rw [stamp_getD hi]; exact (stampOk_bd (stampsOk_at h hi)).2.1.1
  · rw [List.getD_eq_getElem?_getD, List.getElem?_eq_none (by omega)]; decide
theorem faceAt_le {zs : List StampT} (h : stampsOk zs = true) (i : Nat) : faceAt zs i ≤ 9999 := by
  unfold faceAt
  by_cases hi : i < zs.length
  · rw [stamp_getD hi]; exact (stampOk_bd (stampsOk_at h hi)).2.1.2
  · rw [List.getD_eq_getElem?_getD, List.getElem?_eq_none (by omega)]; decide
/-- both sides find one franking -/
theorem least_same {zs : List StampT} (h : stampsOk zs = true) (rate : Int) (n : Nat) : foldB (lv zs true rate n [] 0 0) none0 = foldB (lv zs false rate n [] 0 0) none0 := by
  refine foldB_same (lv_sub zs rate n [] 0 0) (lv_nonneg zs false rate n [] 0 0) (fun x hx => ?_)
  obtain ⟨t, t', h1, h2, h3, h4⟩ := lv_drop (faceAt_nonneg h) rate n n [] [] 0 0 0 (Nat.le_refl _) (Nat.le_refl _) x hx
  simp only [List.nil_append] at h1 h2
  refine ⟨_, h2, ?_⟩
  simp only [keyF, lexB, h1, Int.lt_irrefl, decide_false, Bool.false_or, decide_true, Bool.true_and]
  by_cases e : t'.length = t.length
  · have e2 := h4 e
    subst e2
    simp only [Int.lt_irrefl, decide_false, Bool.false_or, decide_true, Bool.true_and]
    by_cases e3 : lexB t' t' = true
    · exact lexB_asymm _ _ e3
    · simpa using e3
  · have a1 : decide ((t.length : Int) < (t'.length : Int)) = false := by simp; omega
    have a2 : decide ((t.length : Int) = (t'.length : Int)) = false := by simp; omega
    rw [a1, a2]; rfl
end Go.Proofs.Ytieopadbbciciaa
