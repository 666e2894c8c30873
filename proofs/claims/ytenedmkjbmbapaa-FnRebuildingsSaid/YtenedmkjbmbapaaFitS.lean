/- Does a block fit: the reference's side. -/
import Derived.Test.YtenedmkjbmbapaaLayP
namespace Go.Proofs.Ytenedmkjbmbapaa
open Go.RowKit

theorem fits_no {xs ys : List ByteArray} {r c : Int} (h : ¬ (0 ≤ r ∧ r + (ys.length : Int) ≤ (xs.length : Int) ∧ 0 ≤ c ∧ c + ((rowAt ys 0).size : Int) ≤ ((rowAt xs 0).size : Int))) : fitsB xs ys r c = false := by
  rw [Bool.eq_false_iff]
  intro q
  simp only [fitsB, Bool.and_eq_true, decide_eq_true_eq] at q
  exact h ⟨q.1.1.1.1, q.1.1.1.2, q.1.1.2, q.1.2⟩
theorem fits_in {xs ys : List ByteArray} {r c : Nat} (h1 : r + ys.length ≤ xs.length) (h2 : c + (rowAt ys 0).size ≤ (rowAt xs 0).size) : fitsB xs ys (r : Int) (c : Int) = noDiff xs ys r c := by
  simp only [fitsB, Int.toNat_natCast]
  rw [decide_eq_true (show (0 : Int) ≤ (r : Int) by omega), decide_eq_true (show (r : Int) + (ys.length : Int) ≤ (xs.length : Int) by omega), decide_eq_true (show (0 : Int) ≤ (c : Int) by omega),
    decide_eq_true (show (c : Int) + ((rowAt ys 0).size : Int) ≤ ((rowAt xs 0).size : Int) by omega)]
  rfl
theorem fits_of {xs ys : List ByteArray} {r c : Int} (h : fitsB xs ys r c = true) : 0 ≤ r ∧ r + (ys.length : Int) ≤ (xs.length : Int) ∧ 0 ≤ c ∧ c + ((rowAt ys 0).size : Int) ≤ ((rowAt xs 0).size : Int) ∧ noDiff xs ys r.toNat c.toNat = true := by
  simp only [fitsB, Bool.and_eq_true, decide_eq_true_eq] at h
  exact ⟨h.1.1.1.1, h.1.1.1.2, h.1.1.2, h.1.2, h.2⟩
theorem small_in {z : Int} (h1 : -1000000 ≤ z) (h2 : z ≤ 1000000) : IntKind.i64.wrap z = z := IntWalk.i64_in _ (by omega)
set_option maxRecDepth 100000 in
set_option maxHeartbeats 8000000 in
theorem l4Fits_any (a b : Option Addr) (ca cb : Nat) (xs ys : List ByteArray) (r c : Int) (w : World) (r1 : -10 ≤ r) (r2 : r ≤ 10) (c1 : -10 ≤ c) (c2 : c ≤ 10) (gx : gridB xs 5 = true) (gy : gridB ys 3 = true) (hx : Reads w a (strs xs)) (hy : Reads w b (strs ys)) :
    Calls Try.prog 78 #[.slice a xs.length ca, .agg #[.slice b ys.length cb], .int .i64 r, .int .i64 c] w fun e w' => e = .returned (.bool (fitsB xs ys r c)) ∧ Below w.heap.size w w' := by
  have B0 := Lib.hid (Go.Joins.below_alloc1 w (.cells #[.slice b ys.length cb] 45))
  have BX := Lib.hid (RowIs.new w 45 [.slice b ys.length cb])
  have HX := Lib.hid (hx.below B0.out)
  have HY := Lib.hid (hy.below B0.out)
  obtain ⟨x1, x2, x3⟩ := gridB_bd gx
  obtain ⟨y1, y2, y3⟩ := gridB_bd gy
  have HX3 := Lib.hid x3
  have HY3 := Lib.hid y3
  have sx := x3 0 (by omega)
  have sy := y3 0 (by omega)
  clear x3 y3 gx gy hx hy
  have HXo := HX.out
  have HYo := HY.out
  rcases HXo with h0 | ⟨bx, ox, rfl, hbx, hcx⟩
  · simp [strs] at h0; subst h0; simp at x1
  rcases HYo with h0 | ⟨by', oy, rfl, hby, hcy⟩
  · simp [strs] at h0; subst h0; simp at y1
  have hcell0 := hcx 0 _ (strs_get (show 0 < xs.length by omega))
  have hcelly := hcy 0 _ (strs_get (show 0 < ys.length by omega))
  simp only [Nat.add_zero] at hcell0 hcelly
  obtain ⟨S0, hS0⟩ : ∃ s, s = xs[0] := ⟨_, rfl⟩
  obtain ⟨T0, hT0⟩ : ∃ s, s = ys[0] := ⟨_, rfl⟩
  rw [← hS0] at hcell0
  rw [← hT0] at hcelly
  have q0 : rowAt xs 0 = S0 := by rw [rowAt_of (by omega), hS0]
  have qy : rowAt ys 0 = T0 := by rw [rowAt_of (by omega), hT0]
  rw [q0] at sx
  rw [qy] at sy
  obtain ⟨_, sx1, sx2⟩ := sx
  obtain ⟨_, sy1, sy2⟩ := sy
  have Q0 := Lib.hid q0
  have QY := Lib.hid qy
  have HCX := Lib.hid hcx
  have HCY := Lib.hid hcy
  have hw1 : IntKind.i64.wrap ((xs.length : Int) - (ys.length : Int)) = (xs.length : Int) - (ys.length : Int) := small_in (by omega) (by omega)
  have hw2 : IntKind.i64.wrap ((S0.size : Int) - (T0.size : Int)) = (S0.size : Int) - (T0.size : Int) := small_in (by omega) (by omega)
  by_cases hin : 0 ≤ r ∧ r + (ys.length : Int) ≤ (xs.length : Int) ∧ 0 ≤ c ∧ c + (T0.size : Int) ≤ (S0.size : Int)
  rotate_left
  · have hF := Lib.hid (fits_no (xs := xs) (ys := ys) (r := r) (c := c) (by rw [Q0.out, QY.out]; exact hin))
    have hway : decide (r < 0) = true ∨ (decide (r < 0) = false ∧ decide ((xs.length : Int) - (ys.length : Int) < r) = true) ∨ (decide (r < 0) = false ∧ decide ((xs.length : Int) - (ys.length : Int) < r) = false ∧ decide (c < 0) = true) ∨
        (decide (r < 0) = false ∧ decide ((xs.length : Int) - (ys.length : Int) < r) = false ∧ decide (c < 0) = false ∧ decide ((S0.size : Int) - (T0.size : Int) < c) = true) := by
      by_cases h1 : r < 0
      · left; exact decide_eq_true h1
      right
      by_cases h2 : (xs.length : Int) - (ys.length : Int) < r
      · left; exact ⟨decide_eq_false h1, decide_eq_true h2⟩
      right
      by_cases h3 : c < 0
      · left; exact ⟨decide_eq_false h1, decide_eq_false h2, decide_eq_true h3⟩
      right
      exact ⟨decide_eq_false h1, decide_eq_false h2, decide_eq_false h3, decide_eq_true (by omega)⟩
    have hcX := BX.out.cell (j := 0) rfl
    clear hin hcx hcy q0 qy hS0 hT0 hbx hby
    rcases hway with h1 | ⟨h1, h2⟩ | ⟨h1, h2, h3⟩ | ⟨h1, h2, h3, h4⟩
    all_goals
      go_enter Try.func78, Try.ntmps78
      go_wp2_with fail
      go_quiet (fail)
      go_wp2_with fail
      go_ret
      exact ⟨by rw [hF.out]; rfl, B0.out.trans ((Dr.of _ _).below _)⟩
  obtain ⟨hr0, hr1, hc0, hc1⟩ := hin
  obtain ⟨R, rfl⟩ : ∃ R : Nat, r = (R : Int) := ⟨r.toNat, by omega⟩
  obtain ⟨C, rfl⟩ : ∃ C : Nat, c = (C : Int) := ⟨c.toNat, by omega⟩
  have hF := Lib.hid (fits_in (xs := xs) (ys := ys) (r := R) (c := C) (by omega) (by rw [Q0.out, QY.out]; omega))
  have hd1 : decide ((xs.length : Int) - (ys.length : Int) < (R : Int)) = false := decide_eq_false (by omega)
  have hd2 : decide ((S0.size : Int) - (T0.size : Int) < (C : Int)) = false := decide_eq_false (by omega)
  have hd3 : decide ((R : Int) < 0) = false := decide_eq_false (by omega)
  have hd4 : decide ((C : Int) < 0) = false := decide_eq_false (by omega)
  have hcX := BX.out.cell (j := 0) rfl
  clear hcx hcy q0 qy hS0 hT0
  go_enter Try.func78, Try.ntmps78
  go_wp2_with fail
  go_quiet (fail)
  go_wp2_with fail
  clear hd1 hd2 hd3 hd4 hw1 hw2 hcell0 hcelly hcX
  generalize w.alloc (.cells #[.slice (some ⟨by', oy, none⟩) ys.length cb] 45) = w0 at *
  go_loopw [9] (fun i wr => ∃ i0 : Nat, i0 ≤ ys.length ∧ i = .int .i64 i0 ∧ Hid (allB i0 (fun i => noDiffRow (rowAt xs (R + i)) (rowAt ys i) C) = true) ∧ Below w0.heap.size w0 wr) (fun i _ => ys.length - (intOf i).toNat)
  case atStart => exact ⟨0, Nat.zero_le _, rfl, allB_zero _, (Dr.of _ _).below _⟩
  case round =>
    obtain ⟨i, hi, rfl, ht, hbel⟩ := hrel
    have cX := (BX.out.below hbel).cell (j := 0) rfl
    by_cases hil : i < ys.length
    · have hix : R + i < xs.length := by omega
      have k1 := (hbel.cell (p := ⟨by', oy + i, none⟩) hby).trans (HCY.out i _ (strs_get hil))
      have k2 := (hbel.cell (p := ⟨bx, ox + (R + i), none⟩) hbx).trans (HCX.out (R + i) _ (strs_get hix))
      have s1 := HX3.out (R + i) hix
      have t1 := HY3.out i hil
      obtain ⟨S, hS⟩ : ∃ s, s = xs[R + i] := ⟨_, rfl⟩
      obtain ⟨T, hT⟩ : ∃ s, s = ys[i] := ⟨_, rfl⟩
      rw [← hT] at k1
      rw [← hS] at k2
      have q1 : rowAt xs (R + i) = S := by rw [rowAt_of hix, hS]
      have q2 : rowAt ys i = T := by rw [rowAt_of hil, hT]
      rw [q1, Q0.out] at s1
      rw [q2, QY.out] at t1
      obtain ⟨s2, s3, s4⟩ := s1
      obtain ⟨t2, t3, t4⟩ := t1
      have s5 : C + T.size ≤ S.size := by omega
      have Q1 := Lib.hid q1
      have Q2 := Lib.hid q2
      have k1b := HCY.out i _ (strs_get hil)
      have k2b := HCX.out (R + i) _ (strs_get hix)
      rw [← hT] at k1b
      rw [← hS] at k2b
      have HBL := Lib.hid hbel
      obtain ⟨n1, hn1⟩ : ∃ n, n = R + i := ⟨_, rfl⟩
      have hw1 : IntKind.i64.wrap ((R : Int) + (i : Int)) = (n1 : Int) := by rw [small_in (by omega) (by omega)]; omega
      have n1l : (n1 : Int) < (xs.length : Int) := by omega
      have n10 : (0 : Int) ≤ (n1 : Int) := by omega
      rw [← hn1] at k2b k2
      have K1b := Lib.hid k1b
      have K2b := Lib.hid k2b
      have i10 : (0 : Int) ≤ (i : Int) := by omega
      have i1l : (i : Int) < (ys.length : Int) := by omega
      clear q1 q2 s2 t2 hS hT hbel hn1 k1b k2b
      go_wp2_with fail
      obtain ⟨wo, rfl⟩ : ∃ wo : World, wo = wr := ⟨_, rfl⟩
      clear k1 k2 cX
      go_loopw [10] (fun k wi => ∃ k0 : Nat, k0 ≤ T.size ∧ k = .int .i64 k0 ∧ Hid (allB k0 (fun k => !diffB (chAt T k) (chAt S (C + k))) = true) ∧ Below w0.heap.size w0 wi) (fun k _ => T.size - (intOf k).toNat)
      case atStart => exact ⟨0, Nat.zero_le _, rfl, allB_zero _, HBL.out⟩
      case round =>
        obtain ⟨k, hk, rfl, hkt, hbel⟩ := hrel
        have cX := (BX.out.below hbel).cell (j := 0) rfl
        have k1 := (hbel.cell (p := ⟨by', oy + i, none⟩) hby).trans K1b.out
        have k2 := (hbel.cell (p := ⟨bx, ox + n1, none⟩) hbx).trans K2b.out
        have HBI := Lib.hid hbel
        clear hbel
        by_cases hkl : k < T.size
        · have hkS : C + k < S.size := by omega
          obtain ⟨n2, hn2⟩ : ∃ n, n = C + k := ⟨_, rfl⟩
          have hw2 : IntKind.i64.wrap ((C : Int) + (k : Int)) = (n2 : Int) := by rw [small_in (by omega) (by omega)]; omega
          have n2l : n2 < S.size := by omega
          have n2i : (n2 : Int) < (S.size : Int) := by omega
          have n20 : (0 : Int) ≤ (n2 : Int) := by omega
          have k0i : (0 : Int) ≤ (k : Int) := by omega
          have kli : (k : Int) < (T.size : Int) := by omega
          have hdef := Lib.hid (show (!diffB (chAt T k) (chAt S (C + k))) = !(diffB T[k].toNat S[n2].toNat) by rw [← hn2, chAt_of hkl, chAt_of n2l])
          clear hn2
          rcases diff_cases T[k].toNat S[n2].toNat with ⟨h0, h1⟩ | ⟨h0, h1, h2⟩ | ⟨h0, h1, h2, h3⟩ | ⟨h0, h1, h2, h3⟩
          rotate_right
          · have hP := Lib.hid (allB_no hkl (P := fun k => !diffB (chAt T k) (chAt S (C + k))) (by show (!diffB (chAt T k) (chAt S (C + k))) = false; rw [hdef.out, h0]; rfl))
            clear h0
            go_wp2_with fail
            go_quiet (fail)
            go_wp2_with fail
            go_ret
            have hP2 := allB_no (P := fun i => noDiffRow (rowAt xs (R + i)) (rowAt ys i) C) hil (show noDiffRow (rowAt xs (R + i)) (rowAt ys i) C = false by rw [Q1.out, Q2.out]; exact hP.out)
            exact ⟨by rw [hF.out, show noDiff xs ys R C = false from hP2]; rfl, B0.out.trans ((HBI.out.trans ((Dr.of _ _).below _)).mono B0.out.size)⟩
          all_goals
            have hP := Lib.hid (allB_step hkt.out (P := fun k => !diffB (chAt T k) (chAt S (C + k))) (by show (!diffB (chAt T k) (chAt S (C + k))) = true; rw [hdef.out, h0]; rfl))
            clear h0
            go_wp2_with fail
            go_quiet (fail)
            go_wp2_with fail
            go_roundw
            case rel => exact ⟨k + 1, by omega, by go_num, hP, HBI.out.trans ((Dr.of _ _).below _)⟩
            case measure => simp [intOf]; omega
        · have hP := Lib.hid (allB_step (P := fun i => noDiffRow (rowAt xs (R + i)) (rowAt ys i) C) ht.out (by show noDiffRow (rowAt xs (R + i)) (rowAt ys i) C = true; rw [Q1.out, Q2.out, noDiffRow, show T.size = k by omega]; exact hkt.out))
          go_wp2_with fail
          go_roundw
          case rel => exact ⟨i + 1, by omega, by go_num, hP, HBI.out⟩
          case measure => simp [intOf]; omega
    · have hP := Lib.hid (show noDiff xs ys R C = true by rw [noDiff, show ys.length = i by omega]; exact ht.out)
      go_wp2_with fail
      go_ret
      exact ⟨by rw [hF.out, hP.out]; rfl, B0.out.trans (hbel.mono B0.out.size)⟩
end Go.Proofs.Ytenedmkjbmbapaa
