/- The law on frankings in plain lists. -/
import Derived.Test.YtieopadbbciciaaLeastL
import Derived.Test.YtieopadbbciciaaFewL
import Derived.Test.YtieopadbbciciaaStampV
import Derived.Test.YtieopadbbciciaaStampF
namespace Go.Proofs.Ytieopadbbciciaa
open Go.RowKit

/-- indices that do not fall, from lo on -/
def Srt (zs : List StampT) : Nat → List Int → Prop
  | _, [] => True
  | lo, x :: fr => ∃ k : Nat, x = (k : Int) ∧ lo ≤ k ∧ k < zs.length ∧ Srt zs k fr
def sumF (zs : List StampT) : List Int → Int
  | [] => 0
  | x :: fr => faceAt zs x.toNat + sumF zs fr
def posF (zs : List StampT) (fr : List Int) : Prop := ∀ x ∈ fr, 0 < faceAt zs x.toNat
theorem Srt.weak {zs : List StampT} {lo lo' : Nat} {fr : List Int} (h : Srt zs lo fr) (hl : lo' ≤ lo) : Srt zs lo' fr := by
  cases fr with
  | nil => trivial
  | cons x fr => obtain ⟨k, h1, h2, h3, h4⟩ := h; exact ⟨k, h1, by omega, h3, h4⟩
theorem Srt.at {zs : List StampT} : ∀ {fr : List Int} {lo : Nat}, Srt zs lo fr → ∀ i (hi : i < fr.length), ∃ k : Nat, fr[i] = (k : Int) ∧ lo ≤ k ∧ k < zs.length := by
  intro fr
  induction fr with
  | nil => intro lo _ i hi; simp at hi
  | cons x fr ih =>
    intro lo h i hi
    obtain ⟨k, h1, h2, h3, h4⟩ := h
    cases i with
    | zero => exact ⟨k, h1, h2, h3⟩
    | succ i =>
      obtain ⟨k2, e1, e2, e3⟩ := ih h4 i (by simpa using hi)
      exact ⟨k2, e1, by omega, e3⟩
theorem Srt.le {zs : List StampT} : ∀ {fr : List Int} {lo : Nat}, Srt zs lo fr → ∀ i (hi : i + 1 < fr.length), fr[i] ≤ fr[i + 1] := by
  intro fr
  induction fr with
  | nil => intro lo _ i hi; simp at hi
  | cons x fr ih =>
    intro lo h i hi
    obtain ⟨k, h1, h2, h3, h4⟩ := h
    cases i with
    | zero =>
      obtain ⟨k2, e1, e2, _⟩ := h4.at 0 (by simpa using hi)
      simp only [List.getElem_cons_zero, List.getElem_cons_succ]
      rw [e1, h1]; omega
    | succ i => exact ih h4 i (by simpa using hi)
theorem Srt.vAt {zs : List StampT} {fr : List Int} {lo : Nat} (h : Srt zs lo fr) : allB fr.length (vAt zs fr) = true := by
  rw [allB_true]
  intro i hi
  obtain ⟨k, e1, _, e3⟩ := h.at i hi
  simp only [Go.Proofs.Ytieopadbbciciaa.vAt, Bool.and_eq_true, Bool.or_eq_true, decide_eq_true_eq]
  rw [getD_ofS hi, inB_true]
  refine ⟨by rw [e1]; omega, ?_⟩
  cases i with
  | zero => exact .inl rfl
  | succ i => right; rw [show i + 1 - 1 = i by omega, getD_ofS (by omega)]; exact h.le i hi
theorem sumF_app (zs : List StampT) (a b : List Int) : sumF zs (a ++ b) = sumF zs a + sumF zs b := by
  induction a with
  | nil => simp [sumF]
  | cons x a ih => simp [sumF, ih]; omega
theorem valTo_sum (zs : List StampT) (fr : List Int) : ∀ k, k ≤ fr.length → valTo zs fr k = sumF zs (fr.take k) := by
  intro k
  induction k with
  | zero => intro _; simp [valTo, sumF]
  | succ k ih =>
    intro hk
    rw [valTo, ih (by omega), List.take_succ_eq_append_getElem (by omega), sumF_app, getD_ofS (by omega)]
    simp [sumF, faceAt]
theorem valF_of {zs : List StampT} {fr : List Int} {lo : Nat} (hz : stampsOk zs = true) (h : Srt zs lo fr) (hl : fr.length ≤ 40) : valF zs fr = (sumF zs fr, true) := by
  rw [valF, if_pos (by rw [hz, h.vAt]; simpa using hl), valTo_sum zs fr _ (Nat.le_refl _), List.take_length]
theorem sumF_nonneg {zs : List StampT} (hz : stampsOk zs = true) (fr : List Int) : 0 ≤ sumF zs fr := by
  induction fr with
  | nil => exact Int.le_refl _
  | cons x fr ih => have := faceAt_nonneg hz x.toNat; simp only [sumF]; omega
/-- what the franking that both sides tell is -/
theorem frankF_spec (yr : Int) (all : List StampT) : ∀ (zs : List StampT) (i v : Nat), all.drop i = zs → fewF yr zs v < 100000 →
    Srt all i (frankF yr zs i v) ∧ sumF all (frankF yr zs i v) = v ∧ (frankF yr zs i v).length = fewF yr zs v ∧ posF all (frankF yr zs i v) := by
  intro zs
  induction zs with
  | nil =>
    intro i v _ hf
    by_cases h : v = 0
    · subst h; exact ⟨by rw [frankF_zero]; trivial, by rw [frankF_zero]; rfl, by rw [frankF_zero, fewF_zero]; rfl, by rw [frankF_zero]; intro x hx; simp at hx⟩
    · rw [fewF_nil h] at hf; omega
  | cons z zs ih =>
    intro i v
    induction v using Nat.strongRecOn with
    | _ v ihv =>
      intro hd hf
      by_cases h : v = 0
      · subst h; exact ⟨by rw [frankF_zero]; trivial, by rw [frankF_zero]; rfl, by rw [frankF_zero, fewF_zero]; rfl, by rw [frankF_zero]; intro x hx; simp at hx⟩
      have hil : i < all.length := by
        rcases Nat.lt_or_ge i all.length with h2 | h2
        · exact h2
        · rw [List.drop_eq_nil_of_le h2] at hd; cases hd
      have hzi : all[i] = z := by
        have := List.drop_eq_getElem_cons hil
        rw [hd] at this
        exact (List.cons.inj this).1.symm
      have hdz : all.drop (i + 1) = zs := by
        have := List.drop_eq_getElem_cons hil
        rw [hd] at this
        exact (List.cons.inj this).2.symm
      cases ht : takeB yr (z :: zs) v
      · rw [frankF_no h ht]
        have hs := fewF_skip h ht
        obtain ⟨h1, h2, h3, h4⟩ := ih (i + 1) v hdz (by rw [hs]; exact hf)
        exact ⟨h1.weak (by omega), h2, by rw [h3, hs], h4⟩
      · rw [frankF_yes h ht]
        have ht2 := ht
        simp only [takeB, Bool.and_eq_true, decide_eq_true_eq] at ht2
        obtain ⟨he, hfe⟩ := ht2
        obtain ⟨_, e1, e2⟩ := elig_iff.1 he
        obtain ⟨h1, h2, h3, h4⟩ := ihv (v - z.face.toNat) (by omega) hd (by omega)
        have hface : faceAt all i = z.face := by rw [faceAt, stamp_getD hil, hzi]
        refine ⟨⟨i, rfl, Nat.le_refl _, hil, h1⟩, ?_, by rw [List.length_cons, h3, hfe]; omega, fun x hx => ?_⟩
        · simp only [sumF, Int.toNat_natCast]
          rw [hface, h2]; omega
        · rcases List.mem_cons.1 hx with rfl | hx
          · rw [Int.toNat_natCast, hface]; omega
          · exact h4 x hx
/-- no franking has fewer stamps -/
theorem fewF_least {yr : Int} {all : List StampT} (hz : stampsOk all = true) (hy : 2100 ≤ yr) : ∀ (fr : List Int) (lo : Nat), Srt all lo fr → posF all fr → fewF yr all (sumF all fr).toNat ≤ fr.length := by
  intro fr
  induction fr with
  | nil => intro lo _ _; show fewF yr all 0 ≤ 0; rw [fewF_zero]; exact Nat.le_refl _
  | cons x fr ih =>
    intro lo h hp
    obtain ⟨k, rfl, h2, h3, h4⟩ := h
    have hpk := hp _ (List.mem_cons_self ..)
    rw [Int.toNat_natCast] at hpk
    have h5 := ih k h4 (fun x hx => hp x (List.mem_cons_of_mem _ hx))
    have hf : faceAt all k = all[k].face := by rw [faceAt, stamp_getD h3]
    have hs := sumF_nonneg hz fr
    have hy2 := (stampOk_bd (stampsOk_at hz h3)).2.2.2
    have hst := fewF_step yr all (sumF all ((k : Int) :: fr)).toNat all[k] (List.getElem_mem h3) (elig_iff.2 ⟨by omega, by omega, by simp only [sumF, Int.toNat_natCast]; omega⟩)
    have e : (sumF all ((k : Int) :: fr)).toNat - all[k].face.toNat = (sumF all fr).toNat := by simp only [sumF, Int.toNat_natCast]; omega
    rw [e] at hst
    rw [List.length_cons]; omega
/-- what is told can be franked -/
theorem canL_get {zs : List StampT} {v q : Nat} (h : q ≤ v) : (canL zs v).getD q false = (canL zs q).getD q false := by
  induction v with
  | zero => have : q = 0 := by omega
            subst this; rfl
  | succ v ih =>
    by_cases e : q = v + 1
    · subst e; rfl
    · rw [← ih (by omega), canL, List.getD_eq_getElem?_getD, List.getElem?_append_left (by rw [canL_length]; omega), ← List.getD_eq_getElem?_getD]
theorem canL_few {yr : Int} {zs : List StampT} : ∀ v, fewF yr zs v < 100000 → (canL zs v).getD v false = true ∧ (v ≠ 0 → canB zs (v - 1) = true) := by
  intro v
  induction v using Nat.strongRecOn with
  | _ v ih =>
    intro hf
    by_cases h : v = 0
    · subst h; exact ⟨rfl, fun h => absurd rfl h⟩
    obtain ⟨u, rfl⟩ : ∃ u, v = u + 1 := ⟨v - 1, by omega⟩
    rcases fewF_met yr zs (u + 1) h with h1 | ⟨a, ha, he, h2⟩
    · omega
    obtain ⟨_, e1, e2⟩ := elig_iff.1 he
    have h3 := (ih (u + 1 - a.face.toNat) (by omega) (by omega)).1
    have hb : canB zs u = true := by
      rw [canB, List.any_eq_true]
      refine ⟨a, ha, ?_⟩
      simp only [canOne, Bool.and_eq_true, decide_eq_true_eq]
      refine ⟨⟨by omega, by omega⟩, ?_⟩
      rw [canL_get (by omega)]; exact h3
    refine ⟨?_, fun _ => by rw [show u + 1 - 1 = u by omega]; exact hb⟩
    rw [canL, List.getD_eq_getElem?_getD, List.getElem?_append_right (by rw [canL_length]; omega), canL_length, Nat.sub_self]
    exact hb
theorem canIds_mem {zs : List StampT} {v : Nat} (h : canB zs v = true) : ∀ m, v + 1 ≤ m → ((v : Int) + 1) ∈ canIds zs m := by
  intro m
  induction m with
  | zero => intro h2; omega
  | succ m ih =>
    intro h2
    rw [canIds]
    by_cases e : v = m
    · subst e; rw [if_pos h]; simp
    · have := ih (by omega)
      split
      · exact List.mem_append_left _ this
      · exact this
/-- a leaf is a franking -/
theorem lv_is {zs : List StampT} (rate : Int) : ∀ (n : Nat) (f : List Int) (i : Nat) (val : Int), ∀ x ∈ lv zs true rate n f i val, ∃ t, x.1 = f ++ t ∧ Srt zs i t ∧ posF zs t ∧ x.2 = val + sumF zs t - rate := by
  intro n
  induction n with
  | zero =>
    intro f i val x hx
    simp only [lv] at hx
    split at hx
    · rw [List.mem_singleton] at hx; subst hx
      exact ⟨[], by simp, trivial, fun x hx => by simp at hx, by simp [sumF]⟩
    · simp at hx
  | succ n ih =>
    intro f i val x hx
    simp only [lv] at hx
    split at hx
    · rw [List.mem_singleton] at hx; subst hx
      exact ⟨[], by simp, trivial, fun x hx => by simp at hx, by simp [sumF]⟩
    · rw [List.mem_flatMap] at hx
      obtain ⟨k, hk, hx⟩ := hx
      rw [List.mem_range'_1] at hk
      split at hx
      · simp at hx
      · rename_i hp
        obtain ⟨t, h1, h2, h3, h4⟩ := ih _ _ _ x hx
        have hpos : 0 < faceAt zs k := by simp at hp; omega
        refine ⟨(k : Int) :: t, by rw [h1]; simp, ⟨k, rfl, hk.1, by omega, h2⟩, fun y hy => ?_, by simp only [sumF, Int.toNat_natCast]; omega⟩
        rcases List.mem_cons.1 hy with rfl | hy
        · rw [Int.toNat_natCast]; exact hpos
        · exact h3 y hy
/-- the beginning of a franking is a leaf -/
theorem lv_has {zs : List StampT} (hz : stampsOk zs = true) (rate : Int) : ∀ (t : List Int) (n : Nat) (g : List Int) (i : Nat) (val : Int), Srt zs i t → posF zs t → t.length ≤ n → rate ≤ val + sumF zs t →
    ∃ p, (g ++ p, val + sumF zs p - rate) ∈ lv zs true rate n g i val ∧ p.length ≤ t.length ∧ sumF zs p ≤ sumF zs t := by
  intro t
  induction t with
  | nil =>
    intro n g i val _ _ _ hr
    simp only [sumF, Int.add_zero] at hr
    exact ⟨[], by rw [lv_leaf hr]; simp [sumF], Nat.le_refl _, Int.le_refl _⟩
  | cons x t ih =>
    intro n g i val h hp hl hr
    by_cases hle : rate ≤ val
    · exact ⟨[], by rw [lv_leaf hle]; simp [sumF], by simp, by have := sumF_nonneg hz (x :: t); simpa [sumF] using this⟩
    obtain ⟨k, rfl, h2, h3, h4⟩ := h
    obtain ⟨m, rfl⟩ : ∃ m, n = m + 1 := ⟨n - 1, by simp at hl; omega⟩
    simp only [sumF, Int.toNat_natCast] at hr
    have hpk := hp _ (List.mem_cons_self ..)
    rw [Int.toNat_natCast] at hpk
    obtain ⟨p, e1, e2, e3⟩ := ih m (g ++ [(k : Int)]) k (val + faceAt zs k) h4 (fun y hy => hp y (List.mem_cons_of_mem _ hy)) (by simp at hl; omega) (by omega)
    refine ⟨(k : Int) :: p, ?_, by simp; omega, by simp only [sumF]; omega⟩
    rw [lv, if_neg hle, List.mem_flatMap]
    refine ⟨k, by rw [List.mem_range'_1]; omega, ?_⟩
    rw [if_neg (by simp; omega)]
    simp only [sumF, Int.toNat_natCast]
    rw [show g ++ (k : Int) :: p = g ++ [(k : Int)] ++ p by simp, show val + (faceAt zs k + sumF zs p) - rate = val + faceAt zs k + sumF zs p - rate by omega]
    exact e1
/-! ### What the law asks -/
theorem few_value {zs : List StampT} {q y : Int} (h : fewOk zs q y = true) : valF zs (fewR zs q y) = (q, true) ∧ (q ≤ 500 → cAsk zs q = true ∧ q ∈ canIds zs q.toNat) := by
  have h0 := h
  simp only [fewOk, Bool.and_eq_true, decide_eq_true_eq, inB_true] at h0
  obtain ⟨⟨⟨h1, h2⟩, _⟩, h4⟩ := h0
  have hR : fewR zs q y = frankF y zs 0 q.toNat := by rw [fewR, if_pos h]
  obtain ⟨a1, a2, a3, _⟩ := frankF_spec y zs zs 0 q.toNat rfl (by omega)
  refine ⟨?_, fun h5 => ⟨?_, ?_⟩⟩
  · rw [hR, valF_of h1 a1 (by omega), a2]
    congr 1; omega
  · simp only [cAsk, Bool.and_eq_true, inB_true]; exact ⟨h1, by omega, by omega⟩
  · have := (canL_few q.toNat (by omega : fewF y zs q.toNat < 100000)).2 (by omega)
    have h6 := canIds_mem this q.toNat (by omega)
    rw [show ((q.toNat - 1 : Nat) : Int) + 1 = q by omega] at h6
    exact h6
theorem least_value {zs : List StampT} {q y : Int} {ids : List Int} {nn : Int} (h : leastR zs q y = ((ids, nn), true)) : valF zs ids = (q + nn, true) ∧ (ids.length : Int) ≤ y ∧ (fewOk zs (q + nn) 2100 = true → (fewR zs (q + nn) 2100).length = ids.length) := by
  unfold leastR at h
  split at h
  case isFalse => exact absurd (congrArg Prod.snd h) (by simp)
  rename_i hok
  split at h
  case isTrue => exact absurd (congrArg Prod.snd h) (by simp)
  rename_i hneg
  have he := congrArg Prod.fst h
  simp only at he
  simp only [leastOk, Bool.and_eq_true, inB_true] at hok
  obtain ⟨hz, ⟨q1, q2⟩, ⟨y1, y2⟩⟩ := hok
  rcases foldB_of (lv_nonneg zs true q y.toNat [] 0 0) with ⟨_, e2⟩ | ⟨m1, m2, m3⟩
  · rw [e2] at hneg; simp at hneg
  rw [he] at m1 m2 m3
  obtain ⟨t, t1, t2, t3, t4⟩ := lv_is q _ _ _ _ _ m1
  simp only [List.nil_append] at t1
  subst t1
  simp only at t4 m2
  have hlen := lv_len _ _ _ _ _ _ _ _ m1
  simp only [List.length_nil] at hlen
  have hs : sumF zs ids = q + nn := by omega
  refine ⟨?_, by omega, fun hfw => ?_⟩
  · rw [valF_of hz t2 (by omega), hs]
  · have hR : fewR zs (q + nn) 2100 = frankF 2100 zs 0 (q + nn).toNat := by rw [fewR, if_pos hfw]
    simp only [fewOk, Bool.and_eq_true, decide_eq_true_eq, inB_true] at hfw
    obtain ⟨_, h4⟩ := hfw
    obtain ⟨a1, a2, a3, a4⟩ := frankF_spec 2100 zs zs 0 (q + nn).toNat rfl (by omega)
    rw [hR, a3]
    have h1 := fewF_least hz (by omega : (2100 : Int) ≤ 2100) ids 0 t2 t3
    rw [hs] at h1
    rcases Nat.lt_or_ge (fewF 2100 zs (q + nn).toNat) ids.length with h5 | h5
    · exfalso
      obtain ⟨p, p1, p2, p3⟩ := lv_has hz q (frankF 2100 zs 0 (q + nn).toNat) y.toNat [] 0 0 a1 a4 (by omega) (by rw [a2]; omega)
      simp only [List.nil_append] at p1
      have h6 := m3 _ p1
      rw [a2] at p3
      simp only [keyF, lexB, Bool.or_eq_false_iff, Bool.and_eq_false_iff, decide_eq_false_iff_not] at h6
      obtain ⟨h7, h8⟩ := h6
      have h9 : 0 + sumF zs p - q = nn := by omega
      rcases h8 with h8 | ⟨h8, h10⟩
      · exact h8 h9
      · rw [a3] at p2
        omega
    · omega
end Go.Proofs.Ytieopadbbciciaa
