/- Comparing numbers and lists of numbers, as the library does. -/
import Derived.Test.YtieopadbbciciaaLeastS
import Derived.Lib.BufferMore
namespace Go.Proofs.Ytieopadbbciciaa
open Go.RowKit

def cmpI (a b : Int) : Int := if a < b then -1 else if b < a then 1 else 0
def cmpL : List Int → List Int → Int
  | [], [] => 0
  | [], _ :: _ => -1
  | _ :: _, [] => 1
  | a :: l, b :: m => if a < b then -1 else if b < a then 1 else cmpL l m
theorem cmpL_lex : ∀ f g : List Int, lexB f g = decide (cmpL f g < 0) := by
  intro f
  induction f with
  | nil => intro g; cases g <;> rfl
  | cons a l ih =>
    intro g
    cases g with
    | nil => rfl
    | cons b m =>
      simp only [lexB, cmpL]
      by_cases h1 : a < b
      · simp [h1]
      · by_cases h2 : b < a
        · have : ¬ a = b := by omega
          simp [h1, h2, this]
        · have : a = b := by omega
          subst this
          simp [ih m]
theorem cmpL_skip (p a b : List Int) : cmpL (p ++ a) (p ++ b) = cmpL a b := by
  induction p with
  | nil => rfl
  | cons x p ih => simp [cmpL, ih]
theorem cmpL_bd : ∀ f g : List Int, -1 ≤ cmpL f g ∧ cmpL f g ≤ 1 := by
  intro f
  induction f with
  | nil => intro g; cases g <;> simp [cmpL]
  | cons a l ih =>
    intro g
    cases g with
    | nil => simp [cmpL]
    | cons b m => simp only [cmpL]; split; omega; split; omega; exact ih m
theorem cmpL_at {f g : List Int} {k : Nat} (h : f.take k = g.take k) (hf : k < f.length) (hg : k < g.length) (hne : cmpI f[k] g[k] ≠ 0) : cmpL f g = cmpI f[k] g[k] := by
  conv => lhs; rw [← List.take_append_drop k f, ← List.take_append_drop k g, h]
  rw [cmpL_skip, List.drop_eq_getElem_cons hf, List.drop_eq_getElem_cons hg]
  simp only [cmpL, cmpI] at hne ⊢
  split
  · rfl
  · split
    · rfl
    · rename_i a b; rw [if_neg a, if_neg b] at hne; exact absurd rfl hne
theorem cmpI_zero {a b : Int} (h : cmpI a b = 0) : a = b := by unfold cmpI at h; split at h; omega; split at h; omega; omega
theorem cmpL_end {f g : List Int} (h : f.take g.length = g.take g.length) (hl : g.length < f.length) : cmpL f g = 1 := by
  rw [List.take_length] at h
  conv => lhs; rw [← List.take_append_drop g.length f, h]
  conv => lhs; rhs; rw [← List.append_nil g]
  rw [cmpL_skip, List.drop_eq_getElem_cons hl]
  rfl
theorem cmpL_all {f g : List Int} (h : f.take f.length = g.take f.length) (hl : f.length ≤ g.length) : cmpL f g = if f.length < g.length then -1 else 0 := by
  rw [List.take_length] at h
  conv => lhs; lhs; rw [← List.append_nil f]
  conv => lhs; rw [← List.take_append_drop f.length g, ← h]
  rw [cmpL_skip]
  by_cases e : f.length < g.length
  · rw [List.drop_eq_getElem_cons e, if_pos e]; rfl
  · rw [if_neg e, List.drop_eq_nil_of_le (by omega)]; rfl
theorem isNaN_any (x : Int) (w : World) : Calls Try.prog 53 #[.int .i64 x] w fun e w' => e = .returned (.bool false) ∧ w = w' := by
  have hb : (x != x) = false := by simp
  go_enter Try.func53, Try.ntmps53
  go_wp2_with fail
  go_ret
  exact ⟨ret_bool (by simp), rfl⟩
theorem compare_any (a b : Int) (w : World) : Calls Try.prog 37 #[.int .i64 a, .int .i64 b] w fun e w' => e = .returned (.int .i64 (cmpI a b)) ∧ w = w' := by
  have HN := Lib.hid (fun x w => isNaN_any x w)
  by_cases h1 : a < b
  · have hd : decide (a < b) = true := by simpa using h1
    have HC := Lib.hid (show cmpI a b = -1 by simp [cmpI, h1])
    rw [HC.out]
    go_enter Try.func37, Try.ntmps37
    go_wp2_with (go_at_call 53; refine (HN.out _ _).mono ?_; rintro e w' ⟨rfl, rfl⟩)
    go_ret
    exact ⟨rfl, rfl⟩
  · have hd : decide (a < b) = false := by simpa using h1
    by_cases h2 : b < a
    · have hd2 : decide (b < a) = true := by simpa using h2
      have HC := Lib.hid (show cmpI a b = 1 by simp [cmpI, h1, h2])
      rw [HC.out]
      go_enter Try.func37, Try.ntmps37
      go_wp2_with (go_at_call 53; refine (HN.out _ _).mono ?_; rintro e w' ⟨rfl, rfl⟩)
      go_ret
      exact ⟨rfl, rfl⟩
    · have hd2 : decide (b < a) = false := by simpa using h2
      have HC := Lib.hid (show cmpI a b = 0 by simp [cmpI, h1, h2])
      rw [HC.out]
      go_enter Try.func37, Try.ntmps37
      go_wp2_with (go_at_call 53; refine (HN.out _ _).mono ?_; rintro e w' ⟨rfl, rfl⟩)
      go_ret
      exact ⟨rfl, rfl⟩
set_option maxHeartbeats 1000000 in
theorem compareS_any (a b : Option Addr) (ca cb : Nat) (f g : List Int) (w : World) (hm : f.length ≤ 1048576) (hm2 : g.length ≤ 1048576) (hx : Reads w a (ints f)) (hy : Reads w b (ints g)) :
    Calls Try.prog 38 #[.slice a f.length ca, .slice b g.length cb] w fun e w' => e = .returned (.int .i64 (cmpL f g)) ∧ w = w' := by
  have HX := Lib.hid hx
  have HY := Lib.hid hy
  have HC := Lib.hid (fun a b w => compare_any a b w)
  clear hx hy
  go_enter Try.func38, Try.ntmps38
  go_wp2_with fail
  go_loop [11] (fun i => ∃ k : Nat, k ≤ f.length ∧ k ≤ g.length ∧ i = .int .i64 k ∧ Hid (f.take k = g.take k)) (fun i => f.length - (intOf i).toNat)
  case atStart => exact ⟨0, Nat.zero_le _, Nat.zero_le _, rfl, by simp [Hid]⟩
  case round =>
    obtain ⟨k, hk, hk2, rfl, ht⟩ := hrel
    by_cases hlt : k < f.length
    · have hd : decide (k < f.length) = true := by simpa using hlt
      rcases HX.out with h0 | ⟨b1, o1, rfl, hb1, hc1⟩
      · simp [ints] at h0; subst h0; simp at hlt
      have hd1 := hc1 k _ (ints_get hlt)
      have i0 : (0 : Int) ≤ (k : Int) := by omega
      have i1 : (k : Int) < (f.length : Int) := by omega
      by_cases hlt2 : k < g.length
      · have hd3 : decide (g.length ≤ k) = false := by simp; omega
        rcases HY.out with h0 | ⟨b2, o2, rfl, hb2, hc2⟩
        · simp [ints] at h0; subst h0; simp at hlt2
        have hd2 := hc2 k _ (ints_get hlt2)
        have i2 : (k : Int) < (g.length : Int) := by omega
        clear hc1 hc2
        by_cases he : cmpI f[k] g[k] = 0
        · have ht2 := Lib.hid (take_eq_succ ht.out hlt hlt2 (cmpI_zero he))
          have HC2 := Lib.hid (fun w => HC.out f[k] g[k] w)
          rw [he] at HC2
          clear he
          go_wp2_with (go_at_call 37; refine (HC2.out _).mono ?_; rintro e w' ⟨rfl, rfl⟩)
          go_round
          case rel => exact ⟨k + 1, by omega, by omega, by go_num, ht2⟩
          case measure => simp [intOf]; omega
        · have HE := Lib.hid (cmpL_at ht.out hlt hlt2 he)
          have HC2 := Lib.hid (fun w => HC.out f[k] g[k] w)
          obtain ⟨c, hc⟩ : ∃ c, c = cmpI f[k] g[k] := ⟨_, rfl⟩
          rw [← hc] at HE HC2 he
          have hb : (c != 0) = true := by simpa using he
          clear he hc
          go_wp2_with (go_at_call 37; refine (HC2.out _).mono ?_; rintro e w' ⟨rfl, rfl⟩)
          go_ret
          exact ⟨by rw [HE.out]; rfl, rfl⟩
      · have hd3 : decide (g.length ≤ k) = true := by simp; omega
        have HE := Lib.hid (show cmpL f g = 1 by
          have : k = g.length := by omega
          have h1 := ht.out
          rw [this] at h1
          exact cmpL_end h1 (by omega))
        clear hc1
        go_wp2_with fail
        go_ret
        exact ⟨by rw [HE.out]; rfl, rfl⟩
    · have hk3 : k = f.length := by omega
      have hd : decide (k < f.length) = false := by simpa using hlt
      have HE := Lib.hid (show cmpL f g = if f.length < g.length then -1 else 0 by
        have h1 := ht.out
        rw [hk3] at h1
        exact cmpL_all h1 (by omega))
      clear hk3
      by_cases hlg : f.length < g.length
      · have hd4 : decide (f.length < g.length) = true := by simpa using hlg
        have HE2 := Lib.hid (show cmpL f g = -1 by rw [HE.out, if_pos hlg])
        go_wp2_with fail
        go_ret
        exact ⟨by rw [HE2.out]; rfl, rfl⟩
      · have hd4 : decide (f.length < g.length) = false := by simpa using hlg
        have HE2 := Lib.hid (show cmpL f g = 0 by rw [HE.out, if_neg hlg])
        go_wp2_with fail
        go_ret
        exact ⟨by rw [HE2.out]; rfl, rfl⟩
def orI (a b c : Int) : Int := if a ≠ 0 then a else if b ≠ 0 then b else c
theorem or_any (g : Nat) (a b c : Int) (w : World) (hr : RowIs w g 3 [.int .i64 a, .int .i64 b, .int .i64 c]) : Calls Try.prog 36 #[.slice (some ⟨g, 0, none⟩) 3 3] w fun e w' => e = .returned (.int .i64 (orI a b c)) ∧ w = w' := by
  have c0 := hr.cell (j := 0) rfl
  have c1 := hr.cell (j := 1) rfl
  have c2 := hr.cell (j := 2) rfl
  clear hr
  go_enter Try.func36, Try.ntmps36
  go_wp2_with fail
  go_loop [8] (fun i => ∃ k : Nat, k ≤ 3 ∧ i = .int .i64 k ∧ Hid ((0 < k → a = 0) ∧ (1 < k → b = 0) ∧ (2 < k → c = 0))) (fun i => 3 - (intOf i).toNat)
  case atStart => exact ⟨0, by omega, rfl, Lib.hid ⟨by omega, by omega, by omega⟩⟩
  case round =>
    obtain ⟨k, hk, rfl, hz⟩ := hrel
    rcases (show k = 0 ∨ k = 1 ∨ k = 2 ∨ k = 3 by omega) with rfl | rfl | rfl | rfl
    · by_cases h : a = 0
      · subst h
        go_wp2_with fail
        go_round
        case rel => exact ⟨1, by omega, by go_num, Lib.hid ⟨fun _ => by first | rfl | trivial, by omega, by omega⟩⟩
        case measure => simp [intOf]
      · have hb : (a != 0) = true := by simpa using h
        have HE := Lib.hid (show orI a b c = a by simp [orI, h])
        go_wp2_with fail
        go_ret
        exact ⟨by rw [HE.out]; rfl, rfl⟩
    · have ha := hz.out.1 (by omega)
      by_cases h : b = 0
      · subst h
        go_wp2_with fail
        go_round
        case rel => exact ⟨2, by omega, by go_num, Lib.hid ⟨fun _ => ha, fun _ => by first | rfl | trivial, by omega⟩⟩
        case measure => simp [intOf]
      · have hb : (b != 0) = true := by simpa using h
        have HE := Lib.hid (show orI a b c = b by simp [orI, ha, h])
        clear ha
        go_wp2_with fail
        go_ret
        exact ⟨by rw [HE.out]; rfl, rfl⟩
    · have ha := hz.out.1 (by omega)
      have hb0 := hz.out.2.1 (by omega)
      by_cases h : c = 0
      · subst h
        have HA := Lib.hid ha
        have HB := Lib.hid hb0
        clear ha hb0
        go_wp2_with fail
        go_round
        case rel => exact ⟨3, by omega, by go_num, Lib.hid ⟨fun _ => HA.out, fun _ => HB.out, fun _ => by first | rfl | trivial⟩⟩
        case measure => simp [intOf]
      · have hb : (c != 0) = true := by simpa using h
        have HE := Lib.hid (show orI a b c = c by simp [orI, ha, hb0])
        clear ha hb0
        go_wp2_with fail
        go_ret
        exact ⟨by rw [HE.out]; rfl, rfl⟩
    · have HE := Lib.hid (show orI a b c = 0 by simp [orI, hz.out.1 (by omega), hz.out.2.1 (by omega), hz.out.2.2 (by omega)])
      clear hz
      go_wp2_with fail
      go_ret
      exact ⟨by rw [HE.out]; rfl, rfl⟩
/-- the test that the program makes is the one of the plain law -/
theorem or_bet {f : List Int} {o : Int} {st : Fk} (h : 0 ≤ st.2) : decide (orI (cmpI o st.2) (cmpI (f.length : Int) (st.1.length : Int)) (cmpL f st.1) < 0) = betF (f, o) st := by
  have h0 : decide (st.2 < 0) = false := by simpa using h
  rw [betF, h0, Bool.false_or, befB, cmpL_lex]
  rcases Int.lt_trichotomy o st.2 with h1 | h1 | h1
  · have c1 : cmpI o st.2 = -1 := by simp [cmpI, h1]
    rw [c1]
    simp [orI, h1]
  · have c1 : cmpI o st.2 = 0 := by simp [cmpI, h1]
    rw [c1]
    rcases Nat.lt_trichotomy f.length st.1.length with h2 | h2 | h2
    · have c2 : cmpI (f.length : Int) (st.1.length : Int) = -1 := by simp [cmpI]; omega
      rw [c2]
      simp [orI, h1, h2] <;> omega
    · have c2 : cmpI (f.length : Int) (st.1.length : Int) = 0 := by simp [cmpI, h2]
      rw [c2]
      simp [orI, h1, h2] <;> omega
    · have c2 : cmpI (f.length : Int) (st.1.length : Int) = 1 := by simp [cmpI]; omega
      have n1 : ¬ f.length < st.1.length := by omega
      have n2 : ¬ f.length = st.1.length := by omega
      rw [c2]
      simp [orI, n1, n2] <;> omega
  · have n1 : ¬ o < st.2 := by omega
    have n2 : ¬ o = st.2 := by omega
    have c1 : cmpI o st.2 = 1 := by simp [cmpI, n1, h1]
    rw [c1]
    simp [orI, n1, n2]
end Go.Proofs.Ytieopadbbciciaa
