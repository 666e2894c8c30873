/- The fewest stamps: the two tables agree, and both frankings are one. Plain mathematics. -/
import Derived.Test.YtieopadbbciciaaStampS
namespace Go.Proofs.Ytieopadbbciciaa
open Go.RowKit

/-- may this stamp stand in a franking of v -/
def elig (yr : Int) (v : Nat) (c : StampT) : Bool := decide (c.year ≤ yr) && decide (1 ≤ c.face) && decide (c.face ≤ (v : Int))
theorem elig_iff {yr : Int} {v : Nat} {c : StampT} : elig yr v c = true ↔ c.year ≤ yr ∧ 1 ≤ c.face ∧ c.face ≤ (v : Int) := by simp [elig, and_assoc]
/-- the least number of stamps with the value v -/
def fewF (yr : Int) : List StampT → Nat → Nat
  | [], v => if v = 0 then 0 else 100000
  | z :: zs, v => if v = 0 then 0 else if elig yr v z = true then min (fewF yr zs v) (1 + fewF yr (z :: zs) (v - z.face.toNat)) else fewF yr zs v
termination_by zs v => (zs.length, v)
decreasing_by
  all_goals simp_wf
  all_goals first
    | (have h := elig_iff.1 (by assumption); omega)
    | omega
theorem fewF_zero (yr : Int) (zs : List StampT) : fewF yr zs 0 = 0 := by cases zs <;> simp [fewF]
theorem fewF_nil {yr : Int} {v : Nat} (h : v ≠ 0) : fewF yr [] v = 100000 := by simp [fewF, h]
theorem fewF_yes {yr : Int} {v : Nat} {z : StampT} (zs : List StampT) (h : v ≠ 0) (he : elig yr v z = true) : fewF yr (z :: zs) v = min (fewF yr zs v) (1 + fewF yr (z :: zs) (v - z.face.toNat)) := by
  rw [fewF]; simp [h, he]
theorem fewF_no {yr : Int} {v : Nat} {z : StampT} (zs : List StampT) (h : v ≠ 0) (he : elig yr v z = false) : fewF yr (z :: zs) v = fewF yr zs v := by
  rw [fewF]; simp [h, he]
theorem fewF_le (yr : Int) (zs : List StampT) : ∀ v, fewF yr zs v ≤ 100000 := by
  induction zs with
  | nil => intro v; by_cases h : v = 0 <;> simp [fewF, h]
  | cons z zs ih =>
    intro v
    by_cases h : v = 0
    · subst h; rw [fewF_zero]; omega
    · cases he : elig yr v z
      · rw [fewF_no zs h he]; exact ih v
      · rw [fewF_yes zs h he]; have := ih v; omega
theorem fewF_pos {yr : Int} {zs : List StampT} {v : Nat} (h : v ≠ 0) : 1 ≤ fewF yr zs v := by
  induction zs with
  | nil => rw [fewF_nil h]; omega
  | cons z zs ih =>
    cases he : elig yr v z
    · rw [fewF_no zs h he]; exact ih
    · rw [fewF_yes zs h he]; omega
theorem fewF_cons (yr : Int) (z : StampT) (zs : List StampT) (v : Nat) : fewF yr (z :: zs) v ≤ fewF yr zs v := by
  by_cases h : v = 0
  · subst h; rw [fewF_zero, fewF_zero]; exact Nat.le_refl _
  · cases he : elig yr v z
    · rw [fewF_no zs h he]; exact Nat.le_refl _
    · rw [fewF_yes zs h he]; exact Nat.min_le_left _ _
theorem fewF_drop (yr : Int) (zs : List StampT) (i v : Nat) : fewF yr zs v ≤ fewF yr (zs.drop i) v := by
  induction i generalizing zs with
  | zero => simp
  | succ i ih =>
    cases zs with
    | nil => simp
    | cons z zs => exact Nat.le_trans (fewF_cons yr z zs v) (ih zs)
theorem elig_less {yr : Int} {v : Nat} {a b : StampT} (ha : elig yr v a = true) (hb : elig yr (v - a.face.toNat) b = true) : elig yr v b = true ∧ elig yr (v - b.face.toNat) a = true ∧ v - a.face.toNat - b.face.toNat = v - b.face.toNat - a.face.toNat := by
  simp only [elig_iff] at *
  omega
/-- one more stamp costs at most one -/
theorem fewF_step (yr : Int) (zs : List StampT) : ∀ v a, a ∈ zs → elig yr v a = true → fewF yr zs v ≤ 1 + fewF yr zs (v - a.face.toNat) := by
  induction zs with
  | nil => intro v a h; cases h
  | cons z zs ih =>
    intro v
    induction v using Nat.strongRecOn with
    | _ v ihv =>
      intro a ha he
      have hbd := elig_iff.1 he
      have hv : v ≠ 0 := by omega
      rcases List.mem_cons.1 ha with rfl | ha
      · rw [fewF_yes zs hv he]; omega
      · have h1 : fewF yr (z :: zs) v ≤ fewF yr zs v := fewF_cons _ _ _ _
        have h2 := ih v a ha he
        by_cases h0 : v - a.face.toNat = 0
        · rw [h0, fewF_zero] at h2 ⊢; omega
        · cases hz : elig yr (v - a.face.toNat) z
          · rw [fewF_no zs h0 hz]; omega
          · rw [fewF_yes zs h0 hz]
            obtain ⟨e1, e2, e3⟩ := elig_less he hz
            have hz1 := elig_iff.1 e1
            have h3 := ihv (v - z.face.toNat) (by omega) a (List.mem_cons_of_mem _ ha) e2
            have h4 : fewF yr (z :: zs) v ≤ 1 + fewF yr (z :: zs) (v - z.face.toNat) := by rw [fewF_yes zs hv e1]; omega
            rw [e3]
            omega
/-- the least number is met by a last stamp -/
theorem fewF_met (yr : Int) (zs : List StampT) : ∀ v, v ≠ 0 → fewF yr zs v = 100000 ∨ ∃ a, a ∈ zs ∧ elig yr v a = true ∧ 1 + fewF yr zs (v - a.face.toNat) ≤ fewF yr zs v := by
  induction zs with
  | nil => intro v h; left; exact fewF_nil h
  | cons z zs ih =>
    intro v h
    have key : fewF yr (z :: zs) v = fewF yr zs v → (fewF yr (z :: zs) v = 100000 ∨ ∃ a, a ∈ z :: zs ∧ elig yr v a = true ∧ 1 + fewF yr (z :: zs) (v - a.face.toNat) ≤ fewF yr (z :: zs) v) := by
      intro e
      rcases ih v h with h1 | ⟨a, ha, he, hle⟩
      · left; omega
      · right
        have := fewF_cons yr z zs (v - a.face.toNat)
        exact ⟨a, List.mem_cons_of_mem _ ha, he, by omega⟩
    cases he : elig yr v z
    · exact key (fewF_no zs h he)
    · have e := fewF_yes zs h he
      by_cases hle : fewF yr zs v ≤ 1 + fewF yr (z :: zs) (v - z.face.toNat)
      · exact key (by omega)
      · right
        exact ⟨z, List.mem_cons_self, he, by omega⟩
/-- one step of the reference's table -/
def needOne (yr : Int) (v : Nat) (f : Nat → Nat) (o : Nat) (z : StampT) : Nat := if elig yr v z = true then min o (f (v - z.face.toNat) + 1) else o
/-- the reference's table -/
def needF (yr : Int) (zs : List StampT) : Nat → Nat
  | v => if v = 0 then 0 else (zs.attach).foldl (fun o z => if h : elig yr v z.1 = true then min o (needF yr zs (v - z.1.face.toNat) + 1) else o) 99
termination_by v => v
decreasing_by
  have h := elig_iff.1 (by assumption)
  omega
theorem needF_zero (yr : Int) (zs : List StampT) : needF yr zs 0 = 0 := by rw [needF]; simp
theorem needF_eq {yr : Int} {v : Nat} (zs : List StampT) (h : v ≠ 0) : needF yr zs v = zs.foldl (needOne yr v (needF yr zs)) 99 := by
  rw [needF]
  simp only [h, if_false]
  have : ∀ (l : List StampT) (o : Nat), (l.attach).foldl (fun o z => if h : elig yr v z.1 = true then min o (needF yr zs (v - z.1.face.toNat) + 1) else o) o = l.foldl (needOne yr v (needF yr zs)) o := by
    intro l o
    rw [List.foldl_attach (l := l) (f := fun o (z : StampT) => if h : elig yr v z = true then min o (needF yr zs (v - z.face.toNat) + 1) else o)]
    rfl
  exact this zs 99
theorem needOne_le {yr : Int} {v : Nat} {f : Nat → Nat} {x : Nat} (zs : List StampT) : ∀ o, (x ≤ zs.foldl (needOne yr v f) o ↔ x ≤ o ∧ ∀ z ∈ zs, elig yr v z = true → x ≤ f (v - z.face.toNat) + 1) := by
  induction zs with
  | nil => intro o; simp
  | cons z zs ih =>
    intro o
    rw [List.foldl_cons, ih]
    simp only [List.mem_cons, forall_eq_or_imp]
    unfold needOne
    split
    · rename_i he
      rw [Nat.le_min]
      exact ⟨fun ⟨⟨p, q⟩, r⟩ => ⟨p, fun _ => q, r⟩, fun ⟨p, q, r⟩ => ⟨⟨p, q he⟩, r⟩⟩
    · rename_i he; simp [he]
theorem needF_fewF (yr : Int) (zs : List StampT) : ∀ v, needF yr zs v = min 99 (fewF yr zs v) := by
  intro v
  induction v using Nat.strongRecOn with
  | _ v ih =>
    by_cases h : v = 0
    · subst h; rw [needF_zero, fewF_zero]; rfl
    rw [needF_eq zs h]
    apply Nat.le_antisymm
    · have hx := (needOne_le (yr := yr) (v := v) (f := needF yr zs) (x := zs.foldl (needOne yr v (needF yr zs)) 99) zs 99).1 (Nat.le_refl _)
      rcases fewF_met yr zs v h with h1 | ⟨a, ha, he, hle⟩
      · omega
      · have h2 := hx.2 a ha he
        have hb := elig_iff.1 he
        rw [ih _ (by omega)] at h2
        omega
    · rw [needOne_le]
      refine ⟨by omega, fun z hz he => ?_⟩
      have hb := elig_iff.1 he
      rw [ih _ (by omega)]
      have := fewF_step yr zs v z hz he
      omega
/-- the franking that both sides tell -/
def frankF (yr : Int) : List StampT → Nat → Nat → List Int
  | [], _, _ => []
  | z :: zs, i, v => if v = 0 then [] else if elig yr v z = true ∧ fewF yr (z :: zs) v = 1 + fewF yr (z :: zs) (v - z.face.toNat) then (i : Int) :: frankF yr (z :: zs) i (v - z.face.toNat) else frankF yr zs (i + 1) v
termination_by zs _ v => (zs.length, v)
decreasing_by
  all_goals simp_wf
  all_goals first
    | (have h := elig_iff.1 (And.left (by assumption)); omega)
    | omega
theorem frankF_zero (yr : Int) (zs : List StampT) (i : Nat) : frankF yr zs i 0 = [] := by cases zs <;> simp [frankF]
def takeB (yr : Int) (zs : List StampT) (v : Nat) : Bool := match zs with
  | [] => false
  | z :: zs => elig yr v z && decide (fewF yr (z :: zs) v = 1 + fewF yr (z :: zs) (v - z.face.toNat))
theorem frankF_yes {yr : Int} {z : StampT} {zs : List StampT} {i v : Nat} (h : v ≠ 0) (ht : takeB yr (z :: zs) v = true) : frankF yr (z :: zs) i v = (i : Int) :: frankF yr (z :: zs) i (v - z.face.toNat) := by
  simp only [takeB, Bool.and_eq_true, decide_eq_true_eq] at ht
  rw [frankF]; simp only [h, if_false]; rw [if_pos ht]
theorem frankF_no {yr : Int} {z : StampT} {zs : List StampT} {i v : Nat} (h : v ≠ 0) (ht : takeB yr (z :: zs) v = false) : frankF yr (z :: zs) i v = frankF yr zs (i + 1) v := by
  rw [frankF]; simp only [h, if_false]
  rw [if_neg]
  rintro ⟨h1, h2⟩
  simp only [takeB, h1, Bool.true_and, decide_eq_false_iff_not] at ht
  exact ht h2
/-- a stamp that is not taken is not wanted -/
theorem fewF_skip {yr : Int} {z : StampT} {zs : List StampT} {v : Nat} (h : v ≠ 0) (ht : takeB yr (z :: zs) v = false) : fewF yr zs v = fewF yr (z :: zs) v := by
  cases he : elig yr v z
  · exact (fewF_no zs h he).symm
  · have e := fewF_yes zs h he
    simp only [takeB, he, Bool.true_and, decide_eq_false_iff_not] at ht
    omega
/-- behind a stamp that is taken, the rest is least in the whole list too -/
theorem fewF_take {yr : Int} {all : List StampT} {i v : Nat} {z : StampT} {zs : List StampT} (hd : all.drop i = z :: zs) (hv : fewF yr (z :: zs) v = fewF yr all v) (ht : takeB yr (z :: zs) v = true) :
    fewF yr (z :: zs) (v - z.face.toNat) = fewF yr all (v - z.face.toNat) ∧ fewF yr all v = 1 + fewF yr all (v - z.face.toNat) := by
  simp only [takeB, Bool.and_eq_true, decide_eq_true_eq] at ht
  obtain ⟨he, h1⟩ := ht
  have hz : z ∈ all := by
    have : z ∈ all.drop i := by rw [hd]; exact List.mem_cons_self
    exact List.mem_of_mem_drop this
  have h2 := fewF_step yr all v z hz he
  have h3 := fewF_drop yr all i (v - z.face.toNat)
  rw [hd] at h3
  omega
end Go.Proofs.Ytieopadbbciciaa
