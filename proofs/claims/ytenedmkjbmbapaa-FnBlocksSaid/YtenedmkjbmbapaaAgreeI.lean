/- DoAgree: the walk of one side. -/
import Derived.Test.YtenedmkjbmbapaaAgree
namespace Go.Proofs.Ytenedmkjbmbapaa
open Go.RowKit

set_option maxRecDepth 100000 in
set_option maxHeartbeats 8000000 in
theorem implDoAgree_any (a b : Option Addr) (ca cb : Nat) (xs ys : List ByteArray) (d r : Int) (w : World) (hm : xs.length ≤ maxLen) (hm2 : ys.length ≤ maxLen) (hz : ∀ z ∈ xs, z.size ≤ maxLen) (hz2 : ∀ z ∈ ys, z.size ≤ maxLen) (hx : Reads w a (strs xs)) (hy : Reads w b (strs ys)) :
    Calls Try.prog 37 #[.agg #[.slice a xs.length ca], .agg #[.slice b ys.length cb], .int .i64 d, .int .i64 r] w fun e w' => e = .returned (.tuple #[.bool (agF xs ys d r).1, .bool (agF xs ys d r).2]) ∧ Below w.heap.size w w' := by
  have hA := fun w hr => isBlock_any a ca xs w hm hz hr
  have hB := fun w hr => isBlock_any b cb ys w hm2 hz2 hr
  have B0 := Lib.hid (Go.Joins.below_alloc2 w (.cells #[.slice a xs.length ca] 45) (.cells #[.slice b ys.length cb] 45))
  have HX := Lib.hid (hx.below B0.out)
  have HY := Lib.hid (hy.below B0.out)
  have BX := Lib.hid (two_new w (.slice a xs.length ca) (.slice b ys.length cb) 45 45).1
  have BY := Lib.hid (two_new w (.slice a xs.length ca) (.slice b ys.length cb) 45 45).2
  have HM := Lib.hid hm
  have HM2 := Lib.hid hm2
  have HZ := Lib.hid hz
  have HZ2 := Lib.hid hz2
  clear hx hy hz hz2
  cases e1 : gridB xs 3
  · have HF := Lib.hid (show agF xs ys d r = (false, false) by simp [agF, e1])
    rw [e1] at hA
    have HA := Lib.hid hA
    clear hA hB e1
    go_enter Try.func37, Try.ntmps37
    go_wp2_with fail
    generalize (w.alloc (.cells #[.slice a xs.length ca] 45)).alloc (.cells #[.slice b ys.length cb] 45) = w0 at *
    refine (HA.out _ HX.out).mono ?_
    rintro e w1 ⟨rfl, hb⟩
    have HB := Lib.hid (B0.out.trans (hb.mono B0.out.size))
    clear hb
    go_wp2_with fail
    go_ret2
    exact ⟨by rw [HF.out]; rfl, HB.out⟩
  cases e2 : gridB ys 3
  · have HF := Lib.hid (show agF xs ys d r = (false, false) by simp [agF, e2])
    rw [e1] at hA
    rw [e2] at hB
    have HA := Lib.hid hA
    have HBB := Lib.hid hB
    clear hA hB e1 e2
    go_enter Try.func37, Try.ntmps37
    go_wp2_with fail
    generalize (w.alloc (.cells #[.slice a xs.length ca] 45)).alloc (.cells #[.slice b ys.length cb] 45) = w0 at *
    refine (HA.out _ HX.out).mono ?_
    rintro e w1 ⟨rfl, hb⟩
    have HB := Lib.hid (B0.out.trans (hb.mono B0.out.size))
    have HY1 := Lib.hid (HY.out.below hb)
    have cY := (BY.out.below hb).cell (j := 0) rfl
    clear hb
    go_wp2_with fail
    refine (HBB.out _ HY1.out).mono ?_
    rintro e w2 ⟨rfl, hb⟩
    have HB2 := Lib.hid (HB.out.trans (hb.mono HB.out.size))
    clear hb cY
    go_wp2_with fail
    go_ret2
    exact ⟨by rw [HF.out]; rfl, HB2.out⟩
  rw [e1] at hA
  rw [e2] at hB
  have HA := Lib.hid hA
  have HBB := Lib.hid hB
  have E1 := Lib.hid e1
  have E2 := Lib.hid e2
  clear hA hB e1 e2
  by_cases e3 : inB d (-2) 2 = true ∧ inB r (-2) 2 = true
  rotate_left
  · have HF := Lib.hid (show agF xs ys d r = (false, false) by
      rw [agF, if_neg]; simp only [Bool.and_eq_true]; intro h; exact e3 ⟨h.1.2, h.2⟩)
    have e4 : inB d (-2) 2 = false ∨ (inB d (-2) 2 = true ∧ inB r (-2) 2 = false) := by
      cases h1 : inB d (-2) 2
      · exact .inl rfl
      · cases h2 : inB r (-2) 2
        · exact .inr ⟨rfl, rfl⟩
        · exact absurd ⟨h1, h2⟩ e3
    clear e3
    rcases e4 with e4 | ⟨e4, e5⟩
    all_goals
      go_enter Try.func37, Try.ntmps37
      go_wp2_with fail
      generalize (w.alloc (.cells #[.slice a xs.length ca] 45)).alloc (.cells #[.slice b ys.length cb] 45) = w0 at *
      refine (HA.out _ HX.out).mono ?_
      rintro e w1 ⟨rfl, hb⟩
      have HB := Lib.hid (B0.out.trans (hb.mono B0.out.size))
      have HY1 := Lib.hid (HY.out.below hb)
      have cY := (BY.out.below hb).cell (j := 0) rfl
      clear hb
      go_wp2_with fail
      refine (HBB.out _ HY1.out).mono ?_
      rintro e w2 ⟨rfl, hb⟩
      have HB2 := Lib.hid (HB.out.trans (hb.mono HB.out.size))
      clear hb cY
      go_wp2_with (go_at_call 54; refine (inRange_any _ _ _ _).mono ?_; rintro e w' ⟨rfl, rfl⟩)
      go_ret2
      exact ⟨by rw [HF.out]; rfl, HB2.out⟩
  obtain ⟨e3, e4⟩ := e3
  obtain ⟨d1, d2⟩ := inB_true.1 e3
  obtain ⟨r1, r2⟩ := inB_true.1 e4
  obtain ⟨x1, x2, x3⟩ := gridB_bd E1.out
  obtain ⟨y1, y2, y3⟩ := gridB_bd E2.out
  have HX3 := Lib.hid x3
  have HY3 := Lib.hid y3
  have HF := Lib.hid (show agF xs ys d r = (agS xs ys d r, true) by rw [agF, E1.out, E2.out, e3, e4]; rfl)
  clear x3 y3
  unfold maxLen at hm hm2
  go_enter Try.func37, Try.ntmps37
  go_wp2_with fail
  generalize (w.alloc (.cells #[.slice a xs.length ca] 45)).alloc (.cells #[.slice b ys.length cb] 45) = w0 at *
  refine (HA.out _ HX.out).mono ?_
  rintro e w1 ⟨rfl, hb⟩
  have HB := Lib.hid hb
  have HY1 := Lib.hid (HY.out.below hb)
  have cY := (BY.out.below hb).cell (j := 0) rfl
  clear hb
  go_wp2_with fail
  refine (HBB.out _ HY1.out).mono ?_
  rintro e w2 ⟨rfl, hb⟩
  have HB2 := Lib.hid (HB.out.trans (hb.mono HB.out.size))
  clear hb cY

  have HAG := Lib.hid (ag_eq (d := d) (r := r) E1.out E2.out)
  have cY := (BY.out.below HB2.out).cell (j := 0) rfl
  go_wp2_with (go_at_call 54; refine (inRange_any _ _ _ _).mono ?_; rintro e w' ⟨rfl, rfl⟩)
  clear e3 e4 cY
  go_loopw [36] (fun i wr => ∃ i0 : Nat, i0 ≤ ys.length ∧ i = .int .i64 i0 ∧ Hid (allB i0 (fun i => allB (rowAt ys i).size (okI xs ys d r i)) = true) ∧ Below w0.heap.size w0 wr) (fun i _ => ys.length - (intOf i).toNat)
  case atStart => exact ⟨0, Nat.zero_le _, rfl, allB_zero _, HB2.out⟩
  case round =>
    obtain ⟨i, hi, rfl, ht, hbel⟩ := hrel
    by_cases hil : i < ys.length
    · rcases HX.out with h0 | ⟨bx, ox, rfl, hbx, hcx⟩
      · simp [strs] at h0; subst h0; simp at x1
      rcases HY.out with h0 | ⟨by', oy, rfl, hby, hcy⟩
      · simp [strs] at h0; subst h0; simp at hil
      have hcell0 := hcx 0 _ (strs_get (show 0 < xs.length by omega))
      have hcelly := hcy i _ (strs_get hil)
      simp only [Nat.add_zero] at hcell0
      have s0 := HX3.out 0 (by omega)
      have sy := HY3.out i hil
      obtain ⟨S0, hS0⟩ : ∃ s, s = xs[0] := ⟨_, rfl⟩
      obtain ⟨T, hT⟩ : ∃ s, s = ys[i] := ⟨_, rfl⟩
      rw [← hS0] at hcell0
      rw [← hT] at hcelly
      have q0 : rowAt xs 0 = S0 := by rw [rowAt_of (by omega), hS0]
      have qy : rowAt ys i = T := by rw [rowAt_of hil, hT]
      rw [q0] at s0
      rw [qy] at sy
      have s5 := s0.2.1
      have s6 := s0.2.2
      clear s0
      have s7 := sy.2.1
      have s8 := sy.2.2
      clear sy
      have Q0 := Lib.hid q0
      have QY := Lib.hid qy
      have HC0 := Lib.hid hcell0
      have HCX := Lib.hid hcx
      have ky := (hbel.cell (p := ⟨by', oy + i, none⟩) hby).trans hcelly
      have HBL := Lib.hid hbel
      have hdi : decide (i < ys.length) = true := by simp [hil]
      clear hcell0 hcelly hcx hcy hS0 hT q0 qy hbel
      go_wp2_with fail
      obtain ⟨wo, rfl⟩ : ∃ wo : World, wo = wr := ⟨_, rfl⟩
      clear ky
      go_loopw [43] (fun k wi => ∃ k0 : Nat, k0 ≤ T.size ∧ k = .int .i64 k0 ∧ Hid (allB k0 (okI xs ys d r i) = true) ∧ Below w0.heap.size w0 wi) (fun k _ => T.size - (intOf k).toNat)
      case atStart => exact ⟨0, Nat.zero_le _, rfl, allB_zero _, HBL.out⟩
      case round =>
        obtain ⟨k, hk, rfl, hkt, hbel⟩ := hrel
        have cX := (BX.out.below hbel).cell (j := 0) rfl
        have k0 := (hbel.cell (p := ⟨bx, ox, none⟩) hbx).trans HC0.out
        by_cases hkl : k < T.size
        · have HBI := Lib.hid hbel
          have hdef := Lib.hid (show okI xs ys d r i k = !(inB ((i : Int) + d) 0 ((xs.length : Int) - 1) && inB ((k : Int) + r) 0 ((S0.size : Int) - 1) && diffB (chIn xs ((i : Int) + d).toNat ((k : Int) + r).toNat) T[k].toNat) by
            rw [okI, Q0.out, show chIn ys i k = T[k].toNat by rw [chIn, QY.out, chAt_of hkl]])
          have g0 : 0 < xs.length := by omega
          have g00 : (0 : Int) < (xs.length : Int) := by omega
          have EW3 := Lib.hid (IntWalk.i64_in ((xs.length : Int) - 1) (by omega))
          have EW4 := Lib.hid (IntWalk.i64_in ((S0.size : Int) - 1) (by omega))
          clear hbel
          cases hin : inB ((i : Int) + d) 0 ((xs.length : Int) - 1)
          · have hP := Lib.hid (allB_step hkt.out (show okI xs ys d r i k = true by rw [hdef.out, hin]; rfl))
            have HC1 : Hid (∀ w, Calls Try.prog 54 #[.int .i64 ((i : Int) + d), .int .i64 0, .int .i64 (IntKind.i64.wrap ((xs.length : Int) - 1))] w fun e w' => e = .returned (.bool false) ∧ w = w') := Lib.hid (fun w => by rw [EW3.out]; have := inRange_any ((i : Int) + d) 0 ((xs.length : Int) - 1) w; rw [hin] at this; exact this)
            have NHC1 : Hid (∀ w, Calls Try.prog 54 #[.int .i64 ((i : Int) + d), .int .i64 0, .int .i64 ((xs.length : Int) - 1)] w fun e w' => e = .returned (.bool false) ∧ w = w') := Lib.hid (fun w => by have := inRange_any ((i : Int) + d) 0 ((xs.length : Int) - 1) w; rw [hin] at this; exact this)
            clear hin
            go_wp2_with fail
            go_quiet ((go_at_call 54; first | (with_reducible exact quiet_same (HC1.out _)) | (with_reducible exact quiet_same (NHC1.out _))))
            go_wp2_with fail
            go_roundw
            case rel => exact ⟨k + 1, by omega, by go_num, hP, HBI.out.trans ((Dr.of _ _).below _)⟩
            case measure => simp [intOf]; omega
          · obtain ⟨i1, i2⟩ := inB_true.1 hin
            obtain ⟨R, hR⟩ : ∃ R : Nat, (i : Int) + d = (R : Int) := ⟨((i : Int) + d).toNat, by omega⟩
            rw [hR] at hin
            cases hin2 : inB ((k : Int) + r) 0 ((S0.size : Int) - 1)
            · have hP := Lib.hid (allB_step hkt.out (show okI xs ys d r i k = true by rw [hdef.out, hin2]; simp))
              have HC1 : Hid (∀ w, Calls Try.prog 54 #[.int .i64 (R : Int), .int .i64 0, .int .i64 (IntKind.i64.wrap ((xs.length : Int) - 1))] w fun e w' => e = .returned (.bool true) ∧ w = w') := Lib.hid (fun w => by rw [EW3.out]; have := inRange_any (R : Int) 0 ((xs.length : Int) - 1) w; rw [hin] at this; exact this)
              have NHC1 : Hid (∀ w, Calls Try.prog 54 #[.int .i64 (R : Int), .int .i64 0, .int .i64 ((xs.length : Int) - 1)] w fun e w' => e = .returned (.bool true) ∧ w = w') := Lib.hid (fun w => by have := inRange_any (R : Int) 0 ((xs.length : Int) - 1) w; rw [hin] at this; exact this)
              have HC2 : Hid (∀ w, Calls Try.prog 54 #[.int .i64 ((k : Int) + r), .int .i64 0, .int .i64 (IntKind.i64.wrap ((S0.size : Int) - 1))] w fun e w' => e = .returned (.bool false) ∧ w = w') := Lib.hid (fun w => by rw [EW4.out]; have := inRange_any ((k : Int) + r) 0 ((S0.size : Int) - 1) w; rw [hin2] at this; exact this)
              have NHC2 : Hid (∀ w, Calls Try.prog 54 #[.int .i64 ((k : Int) + r), .int .i64 0, .int .i64 ((S0.size : Int) - 1)] w fun e w' => e = .returned (.bool false) ∧ w = w') := Lib.hid (fun w => by have := inRange_any ((k : Int) + r) 0 ((S0.size : Int) - 1) w; rw [hin2] at this; exact this)
              clear hin hin2
              go_wp2_with fail
              go_quiet ((go_at_call 54; first | (with_reducible exact quiet_same (HC1.out _)) | (with_reducible exact quiet_same (NHC1.out _)) | (with_reducible exact quiet_same (HC2.out _)) | (with_reducible exact quiet_same (NHC2.out _))))
              go_wp2_with fail
              go_roundw
              case rel => exact ⟨k + 1, by omega, by go_num, hP, HBI.out.trans ((Dr.of _ _).below _)⟩
              case measure => simp [intOf]; omega
            · obtain ⟨j1, j2⟩ := inB_true.1 hin2
              obtain ⟨C, hCC⟩ : ∃ C : Nat, (k : Int) + r = (C : Int) := ⟨((k : Int) + r).toNat, by omega⟩
              have hRl : R < xs.length := by omega
              have hkc := (HBI.out.cell (p := ⟨bx, ox + R, none⟩) hbx).trans (HCX.out R _ (strs_get hRl))
              have st := HX3.out R hRl
              rw [Q0.out] at st
              obtain ⟨S, hS⟩ : ∃ s, s = xs[R] := ⟨_, rfl⟩
              rw [← hS] at hkc
              rw [show rowAt xs R = S by rw [rowAt_of hRl, hS]] at st
              have hCT : C < S.size := by omega
              have hdef2 := Lib.hid (show okI xs ys d r i k = !(diffB S[C].toNat T[k].toNat) by
                rw [hdef.out, hR, hin, hin2, hCC, Int.toNat_natCast, Int.toNat_natCast, chIn, rowAt_of hRl, ← hS, chAt_of hCT]; rfl)
              rw [hCC] at hin2
              have st2 := st.2.1
              have g1 : (0 : Int) ≤ (R : Int) := by omega
              have g2 : (R : Int) < (xs.length : Int) := by omega
              have g3 : (0 : Int) ≤ (C : Int) := by omega
              have g4 : (C : Int) < (S.size : Int) := by omega
              clear hS st hdef i1 i2 j1 j2
              have HC1 : Hid (∀ w, Calls Try.prog 54 #[.int .i64 (R : Int), .int .i64 0, .int .i64 (IntKind.i64.wrap ((xs.length : Int) - 1))] w fun e w' => e = .returned (.bool true) ∧ w = w') := Lib.hid (fun w => by rw [EW3.out]; have := inRange_any (R : Int) 0 ((xs.length : Int) - 1) w; rw [hin] at this; exact this)
              have NHC1 : Hid (∀ w, Calls Try.prog 54 #[.int .i64 (R : Int), .int .i64 0, .int .i64 ((xs.length : Int) - 1)] w fun e w' => e = .returned (.bool true) ∧ w = w') := Lib.hid (fun w => by have := inRange_any (R : Int) 0 ((xs.length : Int) - 1) w; rw [hin] at this; exact this)
              have HC2 : Hid (∀ w, Calls Try.prog 54 #[.int .i64 (C : Int), .int .i64 0, .int .i64 (IntKind.i64.wrap ((S0.size : Int) - 1))] w fun e w' => e = .returned (.bool true) ∧ w = w') := Lib.hid (fun w => by rw [EW4.out]; have := inRange_any (C : Int) 0 ((S0.size : Int) - 1) w; rw [hin2] at this; exact this)
              have NHC2 : Hid (∀ w, Calls Try.prog 54 #[.int .i64 (C : Int), .int .i64 0, .int .i64 ((S0.size : Int) - 1)] w fun e w' => e = .returned (.bool true) ∧ w = w') := Lib.hid (fun w => by have := inRange_any (C : Int) 0 ((S0.size : Int) - 1) w; rw [hin2] at this; exact this)
              have hD := fun w => differ_any S[C].toNat T[k].toNat w
              clear hin hin2
              cases h0 : diffB S[C].toNat T[k].toNat

              · have hP := Lib.hid (allB_step hkt.out (show okI xs ys d r i k = true by rw [hdef2.out, h0]; rfl))
                rw [h0] at hD
                have HD := Lib.hid hD
                clear h0 hD
                go_wp2_with fail
                go_quiet (first | (go_at_call 54; first | (with_reducible exact quiet_same (HC1.out _)) | (with_reducible exact quiet_same (NHC1.out _)) | (with_reducible exact quiet_same (HC2.out _)) | (with_reducible exact quiet_same (NHC2.out _))) | (go_at_call 81; exact quiet_same (HD.out _)))
                go_wp2_with fail
                go_roundw
                case rel => exact ⟨k + 1, by omega, by go_num, hP, HBI.out.trans ((Dr.of _ _).below _)⟩
                case measure => simp [intOf]; omega
              · have hP := Lib.hid (allB_no hkl (show okI xs ys d r i k = false by rw [hdef2.out, h0]; rfl))
                rw [h0] at hD
                have HD := Lib.hid hD
                clear h0 hD
                go_wp2_with fail
                go_quiet (first | (go_at_call 54; first | (with_reducible exact quiet_same (HC1.out _)) | (with_reducible exact quiet_same (NHC1.out _)) | (with_reducible exact quiet_same (HC2.out _)) | (with_reducible exact quiet_same (NHC2.out _))) | (go_at_call 81; exact quiet_same (HD.out _)))
                go_wp2_with fail
                go_ret2
                have hP2 := allB_no (P := fun i => allB (rowAt ys i).size (okI xs ys d r i)) hil (show (fun i => allB (rowAt ys i).size (okI xs ys d r i)) i = false by simp only [QY.out]; exact hP.out)
                exact ⟨by rw [HF.out, HAG.out, show agI xs ys d r = false from hP2]; rfl, B0.out.trans ((HBI.out.trans ((Dr.of _ _).below _)).mono B0.out.size)⟩
        · have hP := Lib.hid (allB_step (P := fun i => allB (rowAt ys i).size (okI xs ys d r i)) ht.out (by simp only [QY.out]; rw [show T.size = k by omega]; exact hkt.out))
          clear cX k0
          go_wp2_with fail
          go_roundw
          case rel => exact ⟨i + 1, by omega, by go_num, hP, hbel⟩
          case measure => simp [intOf]; omega
    · have hP := Lib.hid (show agI xs ys d r = true by rw [agI, show ys.length = i by omega]; exact ht.out)
      go_wp2_with fail
      go_ret2
      exact ⟨by rw [HF.out, HAG.out, hP.out]; rfl, B0.out.trans (hbel.mono B0.out.size)⟩
end Go.Proofs.Ytenedmkjbmbapaa
