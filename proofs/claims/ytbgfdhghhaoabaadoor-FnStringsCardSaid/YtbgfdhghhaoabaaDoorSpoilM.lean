/- Plain Lean: a sealed text with one byte changed is sealed no more. -/
import Derived.Test.YtbgfdhghhaoabaaDoorVerify
import Derived.Test.YtbgfdhghhaoabaaDoorReadM
namespace Go.Proofs.YtbgfdhghhaoabaaDoor
open Go.RowKit

theorem step_inj {a b c : Int} (h1 : 0 ≤ a) (h2 : a ≤ 999978) (h3 : 0 ≤ b) (h4 : b ≤ 999978) (h : (41 * a + c + 1) % 999979 = (41 * b + c + 1) % 999979) : a = b := by omega
theorem step_byte {a c d : Int} (h1 : 0 ≤ c) (h2 : c ≤ 255) (h3 : 0 ≤ d) (h4 : d ≤ 255) (h : (41 * a + c + 1) % 999979 = (41 * a + d + 1) % 999979) : c = d := by omega
theorem sum_same (s t : ByteArray) (hl : s.size = t.size) (k : Nat) (hsame : ∀ i (h1 : i < s.size) (h2 : i < t.size), i ≠ k → s[i] = t[i]) : ∀ n, n ≤ k → n ≤ s.size → sumTo s n = sumTo t n := by
  intro n
  induction n with
  | zero => intro _ _; rfl
  | succ n ih =>
    intro h1 h2
    rw [sumTo_succ (by omega), sumTo_succ (by omega), ih (by omega) (by omega), hsame n (by omega) (by omega) (by omega)]
theorem sum_other (s t : ByteArray) (hl : s.size = t.size) (k : Nat) (hk : k < s.size) (hk2 : k < t.size) (hne : s[k] ≠ t[k]) (hsame : ∀ i (h1 : i < s.size) (h2 : i < t.size), i ≠ k → s[i] = t[i]) :
    ∀ n, k < n → n ≤ s.size → sumTo s n ≠ sumTo t n := by
  intro n
  induction n with
  | zero => intro h; omega
  | succ n ih =>
    intro h1 h2 e
    rw [sumTo_succ (by omega), sumTo_succ (by omega)] at e
    have b1 := sumTo_bd s n
    have b2 := sumTo_bd t n
    by_cases hn : n = k
    · subst hn
      rw [sum_same s t hl n hsame n (Nat.le_refl _) (by omega)] at e
      have c1 := s[n].toNat_lt
      have c2 := t[n].toNat_lt
      have := step_byte (by omega) (by omega) (by omega) (by omega) e
      exact hne (UInt8.toNat_inj.1 (by omega))
    · rw [hsame n (by omega) (by omega) hn] at e
      exact ih (by omega) (by omega) (step_inj b1.1 b1.2 b2.1 b2.2 e)
theorem itoa_inj {a b : Int} (ha : 0 ≤ a) (ha2 : a ≤ 999978) (hb : 0 ≤ b) (hb2 : b ≤ 999978) (h : Lib.itoa a = Lib.itoa b) : a = b := by
  have h1 := (read_num (n := a) (by omega) (by omega)).1
  have h2 := (read_num (n := b) (by omega) (by omega)).1
  rw [← h1, ← h2, numF, numF, h]
theorem split_uniq {A B P M : List UInt8} (hA : (35 : UInt8) ∉ A) (hP : (35 : UInt8) ∉ P) (h : A ++ 35 :: B = P ++ 35 :: M) : A = P ∧ B = M := by
  induction A generalizing P with
  | nil =>
    cases P with
    | nil => simpa using h
    | cons p P =>
      simp only [List.nil_append, List.cons_append, List.cons.injEq] at h
      exact absurd (show (35 : UInt8) ∈ p :: P by rw [h.1]; simp) hP
  | cons a A ih =>
    cases P with
    | nil =>
      simp only [List.nil_append, List.cons_append, List.cons.injEq] at h
      exact absurd (show (35 : UInt8) ∈ a :: A by rw [h.1]; simp) hA
    | cons p P =>
      simp only [List.cons_append, List.cons.injEq] at h
      obtain ⟨h1, h2⟩ := h
      obtain ⟨e1, e2⟩ := ih (fun hm => hA (by simp [hm])) (fun hm => hP (by simp [hm])) h2
      exact ⟨by rw [h1, e1], e2⟩
/-- one byte of a sealed text is another: no text is sealed to it -/
theorem spoil {x y : ByteArray} {k : Nat} {b : UInt8} {L : List UInt8} (hL : L = (sealF x).data.toList) (hx : (35 : UInt8) ∉ x.data.toList) (hk : k < L.length) (hb : b ≠ L[k]) (hy : y.data.toList = L.set k b) : verOk y = false := by
  by_cases hm : (35 : UInt8) ∈ y.data.toList
  rotate_left
  · exact ver_none hm
  rw [verOk]
  have key : sealF (headF y) ≠ y := by
    intro e
    obtain ⟨p, r, hp1, hp2⟩ : ∃ p r, y.data.toList = p ++ 35 :: r ∧ (35 : UInt8) ∉ p := by
      rcases ib_split 35 y.data.toList with ⟨_, h2⟩ | ⟨p, r, h1, h2, _⟩
      · exact absurd hm h2
      · exact ⟨p, r, h1, h2⟩
    have hh : headF y = ⟨p.toArray⟩ := headF_data y hp2 hp1
    rw [hh] at e
    have hs := seal_data ⟨p.toArray⟩
    rw [e] at hs
    simp only at hs
    rw [hy] at hs
    have hN : (35 : UInt8) ∉ Lib.itoa (sumF x) := num_nohash
    have hM : (35 : UInt8) ∉ Lib.itoa (sumF ⟨p.toArray⟩) := num_nohash
    obtain ⟨⟨X⟩⟩ := x
    rw [seal_data] at hL
    simp only at hL hx
    obtain ⟨N, hNN⟩ : ∃ N, Lib.itoa (sumF ⟨X.toArray⟩) = N := ⟨_, rfl⟩
    rw [hNN] at hL hN
    clear hy
    subst hL
    rcases Nat.lt_trichotomy k X.length with hlt | heq | hgt
    · rw [List.set_append_left _ _ hlt] at hs
      rw [List.getElem_append_left hlt] at hb
      by_cases hb35 : b = 35
      · have hc := congrArg (List.count 35) hs
        rw [List.count_append, List.count_append, List.count_cons_self, List.count_cons_self, List.count_eq_zero_of_not_mem hN, List.count_eq_zero_of_not_mem hM, List.count_eq_zero_of_not_mem (show (35 : UInt8) ∉ p.toArray.toList by simpa using hp2)] at hc
        have : 0 < List.count 35 (X.set k b) := List.count_pos_iff.2 (by rw [hb35]; exact List.mem_set hlt 35)
        omega
      · have hX2 : (35 : UInt8) ∉ X.set k b := fun hm => by
          rcases List.mem_or_eq_of_mem_set hm with h | h
          · exact hx h
          · exact hb35 h.symm
        obtain ⟨e1, e2⟩ := split_uniq hX2 (by simpa using hp2) hs
        have e1' : X.set k b = p := by simpa using e1
        subst e1'
        have hl : (⟨X.toArray⟩ : ByteArray).size = (⟨(X.set k b).toArray⟩ : ByteArray).size := by show X.toArray.size = (X.set k b).toArray.size; simp
        have hsz : (⟨X.toArray⟩ : ByteArray).size = X.length := by show X.toArray.size = _; simp
        have hget : ∀ (Z : List UInt8) (i : Nat) (h : i < (⟨Z.toArray⟩ : ByteArray).size) (h2 : i < Z.length), (⟨Z.toArray⟩ : ByteArray)[i] = Z[i] := fun Z i h h2 => rfl
        have hk1 : k < (⟨X.toArray⟩ : ByteArray).size := by rw [hsz]; exact hlt
        have hk2 : k < (⟨(X.set k b).toArray⟩ : ByteArray).size := by rw [← hl]; exact hk1
        have hne := sum_other ⟨X.toArray⟩ ⟨(X.set k b).toArray⟩ hl k hk1 hk2 (by
          rw [hget X k hk1 hlt, hget (X.set k b) k hk2 (by simpa using hlt)]
          simp
          exact fun e => hb e.symm) (fun i h1 h2 hi => by
          rw [hget X i h1 (by rw [← hsz]; exact h1), hget (X.set k b) i h2 (by rw [List.length_set, ← hsz]; exact h1)]
          rw [List.getElem_set_ne (fun e => hi e.symm)]) _ hk1 (Nat.le_refl _)
        have q1 := sumTo_bd ⟨X.toArray⟩ (⟨X.toArray⟩ : ByteArray).size
        have q2 := sumTo_bd ⟨(X.set k b).toArray⟩ (⟨(X.set k b).toArray⟩ : ByteArray).size
        have e3 := itoa_inj q1.1 q1.2 q2.1 q2.2 (by rw [← sumF, ← sumF, hNN, e2])
        rw [← hl] at e3
        exact hne e3
    · subst heq
      rw [List.set_append_right _ _ (Nat.le_refl _), Nat.sub_self, List.set_cons_zero] at hs
      have hb2 : b ≠ 35 := by
        rw [List.getElem_append_right (Nat.le_refl _)] at hb
        simpa using hb
      have hm2 : (35 : UInt8) ∈ X ++ b :: N := by rw [hs]; simp
      rcases List.mem_append.1 hm2 with h | h
      · exact hx h
      · rcases List.mem_cons.1 h with h | h
        · exact hb2 h.symm
        · exact hN h
    · obtain ⟨j, rfl⟩ : ∃ j, k = X.length + (j + 1) := ⟨k - X.length - 1, by omega⟩
      rw [List.set_append_right _ _ (by omega), show X.length + (j + 1) - X.length = j + 1 by omega, List.set_cons_succ] at hs
      have hj : j < N.length := by simp at hk; omega
      have hb2 : b ≠ N[j] := by
        rw [List.getElem_append_right (by omega)] at hb
        simpa [show X.length + (j + 1) - X.length = j + 1 by omega] using hb
      obtain ⟨e1, e2⟩ := split_uniq hx (by simpa using hp2) hs
      have e1' : X = p := by simpa using e1
      subst e1'
      rw [hNN] at e2
      have h3 : (N.set j b)[j]'(by simpa using hj) = N[j] := by simp only [e2]
      simp at h3
      exact hb2 h3
  simp [key]
end Go.Proofs.YtbgfdhghhaoabaaDoor
