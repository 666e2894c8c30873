/- GaugeOf, AreEven, MissingHoles, IsPair: both sides compute one value. -/
import Derived.Test.YtidiecffahaojaaTeethA
import Derived.BigRegion
namespace Go.Proofs.Ytidiecffahaojaa
open Go.RowKit
theorem ret_two {a b c d : Value} (h1 : a = c) (h2 : b = d) : Ending.returned (.tuple #[a, b]) = .returned (.tuple #[c, d]) := by rw [h1, h2]

theorem int_eq {k : IntKind} {a b : Int} (h : a = b) : Value.int k a = .int k b := by rw [h]
structure Holes (zs : List Int) : Prop where
  two : 2 ≤ zs.length
  forty : zs.length ≤ 40
  lo : ∀ i, i < zs.length → 0 ≤ zs.getD i 0
  hi : ∀ i, i < zs.length → zs.getD i 0 ≤ 9999
  asc : ∀ i j, i < j → j < zs.length → zs.getD i 0 < zs.getD j 0
theorem holes_of {zs : List Int} (h : holesB zs = true) : Holes zs := by
  simp only [holesB, Bool.and_eq_true, inB_true, allB_true] at h
  obtain ⟨⟨h1, h2⟩, h3⟩ := h
  have hq : ∀ i, i < zs.length → (0 ≤ zs.getD i 0 ∧ zs.getD i 0 ≤ 9999) ∧ (i = 0 ∨ zs.getD (i - 1) 0 < zs.getD i 0) := fun i hi => by
    have := h3 i hi
    simpa only [risB, Bool.and_eq_true, inB_true, Bool.or_eq_true, decide_eq_true_eq] using this
  refine ⟨by omega, by omega, fun i hi => (hq i hi).1.1, fun i hi => (hq i hi).1.2, fun i j hij => ?_⟩
  induction j with
  | zero => omega
  | succ j ih =>
    intro hj
    have h4 := (hq (j + 1) hj).2
    rw [show j + 1 - 1 = j from by omega] at h4
    by_cases h5 : i = j
    · subst h5; omega
    · have := ih (by omega) (by omega); omega
def gaugeOfN (zs : List Int) : Int := 200000 * ((zs.length : Int) - 1) / (zs.getD (zs.length - 1) 0 - zs.getD 0 0)
def gaugeOfF (zs : List Int) : Int × Bool := if holesB zs = true ∧ inB (gaugeOfN zs) 500 2000 = true then (gaugeOfN zs, true) else (0, false)
set_option maxHeartbeats 1000000 in
theorem specGaugeOf_any (a : Option Addr) (cap : Nat) (zs : List Int) (w : World) (hm : zs.length ≤ maxLen) (hr : Reads w a (ints zs)) :
    Calls Try.prog 17 #[.slice a zs.length cap] w fun e w' => e = .returned (.tuple #[.int .i64 (gaugeOfF zs).1, .bool (gaugeOfF zs).2]) ∧ Dr w w' := by
  have hH := l5Holes_any a cap zs w hm hr
  unfold maxLen at hm
  cases hh : holesB zs
  · rw [hh] at hH
    have HH := Lib.hid hH
    rw [show gaugeOfF zs = (0, false) by simp [gaugeOfF, hh]]
    clear hH hh hr
    go_enter Try.func17, Try.ntmps17
    go_wp2_with (go_at_call 41; refine (HH.out).mono ?_; rintro e w' ⟨rfl, n, rfl⟩)
    go_ret2
    exact ⟨rfl, Dr.of _ _⟩
  · rw [hh] at hH
    have q := holes_of hh
    have hk := q.two
    have hf := q.forty
    have hb0 := q.lo 0 (by omega)
    have hb1 := q.hi (zs.length - 1) (by omega)
    have hb2 := q.asc 0 (zs.length - 1) (by omega) (by omega)
    rcases hr with h0 | ⟨b, off, rfl, hb, hc⟩
    · simp [ints] at h0; subst h0; simp at hk
    have HH := Lib.hid hH
    have hc0 := hc 0 _ (ints_get (show 0 < zs.length by omega))
    have hc1 := hc (zs.length - 1) _ (ints_get (show zs.length - 1 < zs.length by omega))
    rw [Nat.add_zero] at hc0
    have hN : gaugeOfN zs = (200000 : Int) * ((zs.length : Int) - (1 : Int)) / (zs[zs.length - 1] - zs[0]) := by rw [gaugeOfN, getD_of (show 0 < zs.length by omega), getD_of (show zs.length - 1 < zs.length by omega)]
    rw [getD_of (show 0 < zs.length by omega)] at hb0 hb2
    rw [getD_of (show zs.length - 1 < zs.length by omega)] at hb1 hb2
    cases hg : inB (gaugeOfN zs) 500 2000
    all_goals
      have hC := fun w => l5Gauge_any (gaugeOfN zs) w
      rw [hg] at hC
      rw [hN] at hC
      have HC := Lib.hid hC
      clear hC hc hH q
    · rw [show gaugeOfF zs = (0, false) by simp [gaugeOfF, hg]]
      clear hN hg hh
      go_enter Try.func17, Try.ntmps17
      go_wp2_with (go_at_call 41; refine (HH.out).mono ?_; rintro e w' ⟨rfl, n, rfl⟩)
      go_quiet (fail)
      go_wp2_with (go_at_call 42; refine (HC.out _).mono ?_; rintro e w' ⟨rfl, rfl⟩)
      go_ret2
      exact ⟨rfl, Dr.of _ _⟩
    · rw [show gaugeOfF zs = (gaugeOfN zs, true) by simp [gaugeOfF, hg, hh]]
      rw [hN]
      clear hN hg hh
      go_enter Try.func17, Try.ntmps17
      go_wp2_with (go_at_call 41; refine (HH.out).mono ?_; rintro e w' ⟨rfl, n, rfl⟩)
      go_quiet (fail)
      go_wp2_with (go_at_call 42; refine (HC.out _).mono ?_; rintro e w' ⟨rfl, rfl⟩)
      go_ret2
      exact ⟨rfl, Dr.of _ _⟩
set_option maxHeartbeats 1000000 in
theorem implGaugeOf_any (a : Option Addr) (cap : Nat) (zs : List Int) (w : World) (hm : zs.length ≤ maxLen) (hr : Reads w a (ints zs)) :
    Calls Try.prog 16 #[.slice a zs.length cap] w fun e w' => e = .returned (.tuple #[.int .i64 (gaugeOfF zs).1, .bool (gaugeOfF zs).2]) ∧ Dr w w' := by
  have hH := areHoles_any a cap zs w hm hr
  unfold maxLen at hm
  cases hh : holesB zs
  · rw [hh] at hH
    have HH := Lib.hid hH
    rw [show gaugeOfF zs = (0, false) by simp [gaugeOfF, hh]]
    clear hH hh hr
    go_enter Try.func16, Try.ntmps16
    go_wp2_with (go_at_call 39; refine (HH.out).mono ?_; rintro e w' ⟨rfl, n, rfl⟩)
    go_ret2
    exact ⟨rfl, Dr.of _ _⟩
  · rw [hh] at hH
    have q := holes_of hh
    have hk := q.two
    have hf := q.forty
    have hb0 := q.lo 0 (by omega)
    have hb1 := q.hi (zs.length - 1) (by omega)
    have hb2 := q.asc 0 (zs.length - 1) (by omega) (by omega)
    rcases hr with h0 | ⟨b, off, rfl, hb, hc⟩
    · simp [ints] at h0; subst h0; simp at hk
    have HH := Lib.hid hH
    have hc0 := hc 0 _ (ints_get (show 0 < zs.length by omega))
    have hc1 := hc (zs.length - 1) _ (ints_get (show zs.length - 1 < zs.length by omega))
    rw [Nat.add_zero] at hc0
    have hN : gaugeOfN zs = (200000 : Int) * ((zs.length : Int) - (1 : Int)) / (zs[zs.length - 1] - zs[0]) := by rw [gaugeOfN, getD_of (show 0 < zs.length by omega), getD_of (show zs.length - 1 < zs.length by omega)]
    rw [getD_of (show 0 < zs.length by omega)] at hb0 hb2
    rw [getD_of (show zs.length - 1 < zs.length by omega)] at hb1 hb2
    cases hg : inB (gaugeOfN zs) 500 2000
    all_goals
      have hC := fun w => isGauge_any (gaugeOfN zs) w
      rw [hg] at hC
      rw [hN] at hC
      have HC := Lib.hid hC
      clear hC hc hH q
    · rw [show gaugeOfF zs = (0, false) by simp [gaugeOfF, hg]]
      clear hN hg hh
      go_enter Try.func16, Try.ntmps16
      go_wp2_with (go_at_call 39; refine (HH.out).mono ?_; rintro e w' ⟨rfl, n, rfl⟩)
      go_quiet (fail)
      go_wp2_with (go_at_call 40; refine (HC.out _).mono ?_; rintro e w' ⟨rfl, rfl⟩)
      go_ret2
      exact ⟨rfl, Dr.of _ _⟩
    · rw [show gaugeOfF zs = (gaugeOfN zs, true) by simp [gaugeOfF, hg, hh]]
      rw [hN]
      clear hN hg hh
      go_enter Try.func16, Try.ntmps16
      go_wp2_with (go_at_call 39; refine (HH.out).mono ?_; rintro e w' ⟨rfl, n, rfl⟩)
      go_quiet (fail)
      go_wp2_with (go_at_call 40; refine (HC.out _).mono ?_; rintro e w' ⟨rfl, rfl⟩)
      go_ret2
      exact ⟨rfl, Dr.of _ _⟩
def missAt (zs : List Int) (g : Int) (i : Nat) : Int := max ((2 * (zs.getD i 0 - zs.getD (i - 1) 0) * g + 200000) / 400000 - 1) 0
def missTo (zs : List Int) (g : Int) : Nat → Int
  | 0 => 0
  | k + 1 => missTo zs g k + if k = 0 then 0 else missAt zs g k
def missF (zs : List Int) (g : Int) : Int × Bool := if holesB zs = true ∧ inB g 500 2000 = true then (missTo zs g zs.length, true) else (0, false)
theorem miss_bd {zs : List Int} {g : Int} (q : Holes zs) (h1 : 500 ≤ g) (h2 : g ≤ 2000) {k : Nat} (hk : 0 < k) (hl : k < zs.length) :
    0 < zs.getD k 0 - zs.getD (k - 1) 0 ∧ zs.getD k 0 - zs.getD (k - 1) 0 ≤ 9999 ∧ 0 ≤ 2 * (zs.getD k 0 - zs.getD (k - 1) 0) * g ∧ 2 * (zs.getD k 0 - zs.getD (k - 1) 0) * g ≤ 40000000 ∧ 0 ≤ missAt zs g k ∧ missAt zs g k ≤ 1000 := by
  have a1 := q.asc (k - 1) k (by omega) hl
  have a2 := q.lo (k - 1) (by omega)
  have a3 := q.hi k hl
  have b1 : 0 ≤ (2 * (zs.getD k 0 - zs.getD (k - 1) 0)) * g := Int.mul_nonneg (by omega) (by omega)
  have b2 : (2 * (zs.getD k 0 - zs.getD (k - 1) 0)) * g ≤ (2 * 9999) * 2000 := Int.mul_le_mul (by omega) (by omega) (by omega) (by omega)
  refine ⟨by omega, by omega, b1, by omega, ?_, ?_⟩
  · unfold missAt; omega
  · unfold missAt; omega
theorem missTo_bd {zs : List Int} {g : Int} (q : Holes zs) (h1 : 500 ≤ g) (h2 : g ≤ 2000) : ∀ k, k ≤ zs.length → 0 ≤ missTo zs g k ∧ missTo zs g k ≤ 1000 * (k : Int) := by
  intro k
  induction k with
  | zero => intro _; simp [missTo]
  | succ k ih =>
    intro hk
    have := ih (by omega)
    rw [missTo]
    by_cases h0 : k = 0
    · rw [if_pos h0]; omega
    · rw [if_neg h0]
      have := miss_bd q h1 h2 (show 0 < k by omega) (by omega)
      omega
set_option maxHeartbeats 1000000 in
theorem implMissing_any (a : Option Addr) (cap : Nat) (zs : List Int) (g : Int) (w : World) (hm : zs.length ≤ maxLen) (hr : Reads w a (ints zs)) :
    Calls Try.prog 24 #[.slice a zs.length cap, .int .i64 g] w fun e w' => e = .returned (.tuple #[.int .i64 (missF zs g).1, .bool (missF zs g).2]) ∧ Dr w w' := by
  have hH := areHoles_any a cap zs w hm hr
  have hC := fun w => isGauge_any g w
  unfold maxLen at hm
  cases hh : holesB zs
  · rw [hh] at hH
    have HH := Lib.hid hH
    rw [show missF zs g = (0, false) by simp [missF, hh]]
    clear hH hh hr hC
    go_enter Try.func24, Try.ntmps24
    go_wp2_with (first | (go_at_call 39; refine (HH.out).mono ?_; rintro e w' ⟨rfl, n, rfl⟩))
    go_ret2
    exact ⟨rfl, Dr.of _ _⟩
  · rw [hh] at hH
    have HH := Lib.hid hH
    cases hg : inB g 500 2000
    · rw [hg] at hC
      have HC := Lib.hid hC
      rw [show missF zs g = (0, false) by simp [missF, hg]]
      clear hH hh hr hC hg
      go_enter Try.func24, Try.ntmps24
      go_wp2_with (first | (go_at_call 39; refine (HH.out).mono ?_; rintro e w' ⟨rfl, n, rfl⟩) | (go_at_call 40; refine (HC.out _).mono ?_; rintro e w' ⟨rfl, rfl⟩))
      go_ret2
      exact ⟨rfl, Dr.of _ _⟩
    · rw [hg] at hC
      have HC := Lib.hid hC
      have q := holes_of hh
      rw [inB_true] at hg
      have HQ := Lib.hid q
      rw [show missF zs g = (missTo zs g zs.length, true) by simp [missF, hh, inB_true, hg]]
      obtain ⟨hg1, hg2⟩ := hg
      have HR := Lib.hid hr
      have h2l := q.two
      have h2f := q.forty
      clear hH hh hr hC q
      go_enter Try.func24, Try.ntmps24
      go_wp2_with (first | (go_at_call 39; refine (HH.out).mono ?_; rintro e w' ⟨rfl, n, rfl⟩) | (go_at_call 40; refine (HC.out _).mono ?_; rintro e w' ⟨rfl, rfl⟩))
      go_loopw [6, 7] (fun t i wr => ∃ k : Nat, 1 ≤ k ∧ k ≤ zs.length ∧ i = .int .i64 k ∧ t = .int .i64 (missTo zs g k) ∧ Dr w wr) (fun _ i _ => zs.length - (intOf i).toNat)
      case atStart => exact ⟨1, by omega, by omega, rfl, by simp [missTo], Dr.of _ _⟩
      case round =>
        obtain ⟨k, hk1, hk, rfl, rfl, hdr⟩ := hrel
        have hbt := missTo_bd HQ.out hg1 hg2 k hk
        by_cases hlt : k < zs.length
        · rcases HR.out.dr hdr with h0 | ⟨b, off, rfl, hb, hc⟩
          · simp [ints] at h0; subst h0; simp at hlt
          have hk2 : k - 1 < zs.length := by omega
          have hc1 := hc k _ (ints_get hlt)
          have hc2 := hc (k - 1) _ (ints_get hk2)
          have hbd := miss_bd HQ.out hg1 hg2 (show 0 < k by omega) hlt
          have hst := Lib.hid (show missTo zs g (k + 1) = missTo zs g k + missAt zs g k by rw [missTo, if_neg (by omega)])
          have hma : missAt zs g k = max ((2 * (zs.getD k 0 - zs.getD (k - 1) 0) * g + 200000) / 400000 - 1) 0 := rfl
          rw [getD_of hlt, getD_of hk2] at hbd hma
          have HMA := Lib.hid hma
          obtain ⟨q1, q2, q3, q4, q5, q6⟩ := hbd
          clear hc hma
          go_wp2_with fail
          go_quiet (fail)
          go_wp2
          go_roundw
          case rel => exact ⟨k + 1, by omega, by omega, by go_num, by rw [hst.out, HMA.out]; exact int_eq (by omega), hdr.trans (Dr.of _ _)⟩
          case measure => simp [intOf]; omega
        · obtain rfl : k = zs.length := by omega
          go_wp2
          go_ret2
          exact ⟨rfl, hdr⟩
set_option maxHeartbeats 1000000 in
theorem specMissing_any (a : Option Addr) (cap : Nat) (zs : List Int) (g : Int) (w : World) (hm : zs.length ≤ maxLen) (hr : Reads w a (ints zs)) :
    Calls Try.prog 25 #[.slice a zs.length cap, .int .i64 g] w fun e w' => e = .returned (.tuple #[.int .i64 (missF zs g).1, .bool (missF zs g).2]) ∧ Dr w w' := by
  have hH := l5Holes_any a cap zs w hm hr
  have hC := fun w => l5Gauge_any g w
  unfold maxLen at hm
  cases hh : holesB zs
  · rw [hh] at hH
    have HH := Lib.hid hH
    rw [show missF zs g = (0, false) by simp [missF, hh]]
    clear hH hh hr hC
    go_enter Try.func25, Try.ntmps25
    go_wp2_with (first | (go_at_call 41; refine (HH.out).mono ?_; rintro e w' ⟨rfl, n, rfl⟩))
    go_ret2
    exact ⟨rfl, Dr.of _ _⟩
  · rw [hh] at hH
    have HH := Lib.hid hH
    cases hg : inB g 500 2000
    · rw [hg] at hC
      have HC := Lib.hid hC
      rw [show missF zs g = (0, false) by simp [missF, hg]]
      clear hH hh hr hC hg
      go_enter Try.func25, Try.ntmps25
      go_wp2_with (first | (go_at_call 41; refine (HH.out).mono ?_; rintro e w' ⟨rfl, n, rfl⟩) | (go_at_call 42; refine (HC.out _).mono ?_; rintro e w' ⟨rfl, rfl⟩))
      go_ret2
      exact ⟨rfl, Dr.of _ _⟩
    · rw [hg] at hC
      have HC := Lib.hid hC
      have q := holes_of hh
      rw [inB_true] at hg
      have HQ := Lib.hid q
      rw [show missF zs g = (missTo zs g zs.length, true) by simp [missF, hh, inB_true, hg]]
      obtain ⟨hg1, hg2⟩ := hg
      have HR := Lib.hid hr
      have h2l := q.two
      have h2f := q.forty
      clear hH hh hr hC q
      go_enter Try.func25, Try.ntmps25
      go_wp2_with (first | (go_at_call 41; refine (HH.out).mono ?_; rintro e w' ⟨rfl, n, rfl⟩) | (go_at_call 42; refine (HC.out _).mono ?_; rintro e w' ⟨rfl, rfl⟩))
      go_loopw [6, 7] (fun t i wr => ∃ k : Nat, 1 ≤ k ∧ k ≤ zs.length ∧ i = .int .i64 k ∧ t = .int .i64 (missTo zs g k) ∧ Dr w wr) (fun _ i _ => zs.length - (intOf i).toNat)
      case atStart => exact ⟨1, by omega, by omega, rfl, by simp [missTo], Dr.of _ _⟩
      case round =>
        obtain ⟨k, hk1, hk, rfl, rfl, hdr⟩ := hrel
        have hbt := missTo_bd HQ.out hg1 hg2 k hk
        by_cases hlt : k < zs.length
        · rcases HR.out.dr hdr with h0 | ⟨b, off, rfl, hb, hc⟩
          · simp [ints] at h0; subst h0; simp at hlt
          have hk2 : k - 1 < zs.length := by omega
          have hc1 := hc k _ (ints_get hlt)
          have hc2 := hc (k - 1) _ (ints_get hk2)
          have hbd := miss_bd HQ.out hg1 hg2 (show 0 < k by omega) hlt
          have hst := Lib.hid (show missTo zs g (k + 1) = missTo zs g k + missAt zs g k by rw [missTo, if_neg (by omega)])
          have hma : missAt zs g k = max ((2 * (zs.getD k 0 - zs.getD (k - 1) 0) * g + 200000) / 400000 - 1) 0 := rfl
          rw [getD_of hlt, getD_of hk2] at hbd hma
          have HMA := Lib.hid hma
          obtain ⟨q1, q2, q3, q4, q5, q6⟩ := hbd
          clear hc hma
          go_wp2_with fail
          go_quiet ((go_at_call 46; exact quiet_same (l1Most_any _ _ _)))
          go_wp2
          go_roundw
          case rel => exact ⟨k + 1, by omega, by omega, by go_num, by rw [hst.out, HMA.out]; exact int_eq (by omega), hdr.trans (Dr.of _ _)⟩
          case measure => simp [intOf]; omega
        · obtain rfl : k = zs.length := by omega
          go_wp2
          go_ret2
          exact ⟨rfl, hdr⟩
end Go.Proofs.Ytidiecffahaojaa
