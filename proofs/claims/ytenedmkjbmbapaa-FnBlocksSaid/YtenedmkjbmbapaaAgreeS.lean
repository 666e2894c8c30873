/- DoAgree: the walk of one side. -/
import Derived.Test.YtenedmkjbmbapaaAgree
namespace Go.Proofs.Ytenedmkjbmbapaa
open Go.RowKit

set_option maxRecDepth 100000 in
set_option maxHeartbeats 8000000 in
theorem specDoAgree_any (a b : Option Addr) (ca cb : Nat) (xs ys : List ByteArray) (d r : Int) (w : World) (hm : xs.length ≤ maxLen) (hm2 : ys.length ≤ maxLen) (hz : ∀ z ∈ xs, z.size ≤ maxLen) (hz2 : ∀ z ∈ ys, z.size ≤ maxLen) (hx : Reads w a (strs xs)) (hy : Reads w b (strs ys)) :
    Calls Try.prog 38 #[.agg #[.slice a xs.length ca], .agg #[.slice b ys.length cb], .int .i64 d, .int .i64 r] w fun e w' => e = .returned (.tuple #[.bool (agF xs ys d r).1, .bool (agF xs ys d r).2]) ∧ Below w.heap.size w w' := by
  have hA := fun w hr => specIsBlock_any a ca xs w hm hz hr
  have hB := fun w hr => specIsBlock_any b cb ys w hm2 hz2 hr
  have B0 := Lib.hid (Go.Joins.below_alloc2 w (.cells #[.slice a xs.length ca] 45) (.cells #[.slice b ys.length cb] 45))
  have HX := Lib.hid (hx.below B0.out)
  have HY := Lib.hid (hy.below B0.out)
  have BX := Lib.hid (two_new w (.slice a xs.length ca) (.slice b ys.length cb) 45 45).1
  have BY := Lib.hid (two_new w (.slice a xs.length ca) (.slice b ys.length cb) 45 45).2
  have HM := Lib.hid hm
  have HM2 := Lib.hid hm2
  have HZ := Lib.hid hz
  have HZ2 := Lib.hid hz2
  clear hx hy hz hz2
  cases e1 : gridB xs 3
  · have HF := Lib.hid (show agF xs ys d r = (false, false) by simp [agF, e1])
    rw [e1] at hA
    have HA := Lib.hid hA
    clear hA hB e1
    go_enter Try.func38, Try.ntmps38
    go_wp2_with fail
    generalize (w.alloc (.cells #[.slice a xs.length ca] 45)).alloc (.cells #[.slice b ys.length cb] 45) = w0 at *
    refine (HA.out _ HX.out).mono ?_
    rintro e w1 ⟨rfl, hb⟩
    have HB := Lib.hid (B0.out.trans (hb.mono B0.out.size))
    clear hb
    go_wp2_with fail
    go_ret2
    exact ⟨by rw [HF.out]; rfl, HB.out⟩
  cases e2 : gridB ys 3
  · have HF := Lib.hid (show agF xs ys d r = (false, false) by simp [agF, e2])
    rw [e1] at hA
    rw [e2] at hB
    have HA := Lib.hid hA
    have HBB := Lib.hid hB
    clear hA hB e1 e2
    go_enter Try.func38, Try.ntmps38
    go_wp2_with fail
    generalize (w.alloc (.cells #[.slice a xs.length ca] 45)).alloc (.cells #[.slice b ys.length cb] 45) = w0 at *
    refine (HA.out _ HX.out).mono ?_
    rintro e w1 ⟨rfl, hb⟩
    have HB := Lib.hid (B0.out.trans (hb.mono B0.out.size))
    have HY1 := Lib.hid (HY.out.below hb)
    have cY := (BY.out.below hb).cell (j := 0) rfl
    clear hb
    go_wp2_with fail
    refine (HBB.out _ HY1.out).mono ?_
    rintro e w2 ⟨rfl, hb⟩
    have HB2 := Lib.hid (HB.out.trans (hb.mono HB.out.size))
    clear hb cY
    go_wp2_with fail
    go_ret2
    exact ⟨by rw [HF.out]; rfl, HB2.out⟩
  rw [e1] at hA
  rw [e2] at hB
  have HA := Lib.hid hA
  have HBB := Lib.hid hB
  have E1 := Lib.hid e1
  have E2 := Lib.hid e2
  clear hA hB e1 e2
  by_cases e3 : inB d (-2) 2 = true ∧ inB r (-2) 2 = true
  rotate_left
  · have HF := Lib.hid (show agF xs ys d r = (false, false) by
      rw [agF, if_neg]; simp only [Bool.and_eq_true]; intro h; exact e3 ⟨h.1.2, h.2⟩)
    have e4 : inB d (-2) 2 = false ∨ (inB d (-2) 2 = true ∧ inB r (-2) 2 = false) := by
      cases h1 : inB d (-2) 2
      · exact .inl rfl
      · cases h2 : inB r (-2) 2
        · exact .inr ⟨rfl, rfl⟩
        · exact absurd ⟨h1, h2⟩ e3
    clear e3
    rcases e4 with e4 | ⟨e4, e5⟩
    all_goals
      go_enter Try.func38, Try.ntmps38
      go_wp2_with fail
      generalize (w.alloc (.cells #[.slice a xs.length ca] 45)).alloc (.cells #[.slice b ys.length cb] 45) = w0 at *
      refine (HA.out _ HX.out).mono ?_
      rintro e w1 ⟨rfl, hb⟩
      have HB := Lib.hid (B0.out.trans (hb.mono B0.out.size))
      have HY1 := Lib.hid (HY.out.below hb)
      have cY := (BY.out.below hb).cell (j := 0) rfl
      clear hb
      go_wp2_with fail
      refine (HBB.out _ HY1.out).mono ?_
      rintro e w2 ⟨rfl, hb⟩
      have HB2 := Lib.hid (HB.out.trans (hb.mono HB.out.size))
      clear hb cY
      go_wp2_with (go_at_call 49; refine (l1In_any _ _ _ _).mono ?_; rintro e w' ⟨rfl, rfl⟩)
      go_ret2
      exact ⟨by rw [HF.out]; rfl, HB2.out⟩
  obtain ⟨e3, e4⟩ := e3
  obtain ⟨d1, d2⟩ := inB_true.1 e3
  obtain ⟨r1, r2⟩ := inB_true.1 e4
  obtain ⟨x1, x2, x3⟩ := gridB_bd E1.out
  obtain ⟨y1, y2, y3⟩ := gridB_bd E2.out
  have HX3 := Lib.hid x3
  have HY3 := Lib.hid y3
  have HF := Lib.hid (show agF xs ys d r = (agS xs ys d r, true) by rw [agF, E1.out, E2.out, e3, e4]; rfl)
  clear x3 y3
  unfold maxLen at hm hm2
  go_enter Try.func38, Try.ntmps38
  go_wp2_with fail
  generalize (w.alloc (.cells #[.slice a xs.length ca] 45)).alloc (.cells #[.slice b ys.length cb] 45) = w0 at *
  refine (HA.out _ HX.out).mono ?_
  rintro e w1 ⟨rfl, hb⟩
  have HB := Lib.hid hb
  have HY1 := Lib.hid (HY.out.below hb)
  have cY := (BY.out.below hb).cell (j := 0) rfl
  clear hb
  go_wp2_with fail
  refine (HBB.out _ HY1.out).mono ?_
  rintro e w2 ⟨rfl, hb⟩
  have HB2 := Lib.hid (HB.out.trans (hb.mono HB.out.size))
  clear hb cY

  go_wp2_with (go_at_call 49; refine (l1In_any _ _ _ _).mono ?_; rintro e w' ⟨rfl, rfl⟩)
  clear e3 e4
  go_loopw [10] (fun i wr => ∃ i0 : Nat, i0 ≤ xs.length ∧ i = .int .i64 i0 ∧ Hid (allB i0 (fun i => allB (rowAt xs 0).size (okS xs ys d r i)) = true) ∧ Below w0.heap.size w0 wr) (fun i _ => xs.length - (intOf i).toNat)
  case atStart => exact ⟨0, Nat.zero_le _, rfl, allB_zero _, HB2.out⟩
  case round =>
    obtain ⟨i, hi, rfl, ht, hbel⟩ := hrel
    have cX := (BX.out.below hbel).cell (j := 0) rfl
    by_cases hil : i < xs.length
    · rcases HX.out with h0 | ⟨bx, ox, rfl, hbx, hcx⟩
      · simp [strs] at h0; subst h0; simp at hil
      rcases HY.out with h0 | ⟨by', oy, rfl, hby, hcy⟩
      · simp [strs] at h0; subst h0; simp at y1
      have hcell0 := hcx 0 _ (strs_get (show 0 < xs.length by omega))
      have hcell1 := hcx i _ (strs_get hil)
      have hcelly := hcy 0 _ (strs_get (show 0 < ys.length by omega))
      simp only [Nat.add_zero] at hcell0 hcelly
      have s0 := HX3.out 0 (by omega)
      have s1 := HX3.out i hil
      have sy := HY3.out 0 (by omega)
      obtain ⟨S0, hS0⟩ : ∃ s, s = xs[0] := ⟨_, rfl⟩
      obtain ⟨S, hS⟩ : ∃ s, s = xs[i] := ⟨_, rfl⟩
      obtain ⟨T0, hT0⟩ : ∃ s, s = ys[0] := ⟨_, rfl⟩
      rw [← hS0] at hcell0
      rw [← hS] at hcell1
      rw [← hT0] at hcelly
      have q0 : rowAt xs 0 = S0 := by rw [rowAt_of (by omega), hS0]
      have q1 : rowAt xs i = S := by rw [rowAt_of hil, hS]
      have qy : rowAt ys 0 = T0 := by rw [rowAt_of (by omega), hT0]
      rw [q0] at s0 s1
      rw [q1] at s1
      rw [qy] at sy
      obtain ⟨s2, s3, s4⟩ := s1
      have s5 := s0.2.1
      have s6 := s0.2.2
      clear s0
      have s7 := sy.2.1
      have s8 := sy.2.2
      clear sy
      have HSS := Lib.hid s2
      have s9 : S0.size ≤ S.size := by omega
      have Q0 := Lib.hid q0
      have Q1 := Lib.hid q1
      have QY := Lib.hid qy
      have HC0 := Lib.hid hcell0
      have HC1 := Lib.hid hcell1
      have HCY := Lib.hid hcelly
      have HCX := Lib.hid hcx
      have HCYY := Lib.hid hcy
      have k0 := (hbel.cell (p := ⟨bx, ox, none⟩) hbx).trans hcell0
      have HBL := Lib.hid hbel
      have hdi : decide (i < xs.length) = true := by simp [hil]
      clear hcell0 hcell1 hcelly hcx hcy s2 hS0 hS hT0 q0 q1 qy hbel
      go_wp2_with fail
      obtain ⟨wo, rfl⟩ : ∃ wo : World, wo = wr := ⟨_, rfl⟩
      clear k0 cX
      go_loopw [11] (fun k wi => ∃ k0 : Nat, k0 ≤ S0.size ∧ k = .int .i64 k0 ∧ Hid (allB k0 (okS xs ys d r i) = true) ∧ Below w0.heap.size w0 wi) (fun k _ => S0.size - (intOf k).toNat)
      case atStart => exact ⟨0, Nat.zero_le _, rfl, allB_zero _, HBL.out⟩
      case round =>
        obtain ⟨k, hk, rfl, hkt, hbel⟩ := hrel
        have cX := (BX.out.below hbel).cell (j := 0) rfl
        have cY := (BY.out.below hbel).cell (j := 0) rfl
        have k0 := (hbel.cell (p := ⟨bx, ox, none⟩) hbx).trans HC0.out
        by_cases hkl : k < S0.size
        · have k1 := (hbel.cell (p := ⟨bx, ox + i, none⟩) hbx).trans HC1.out
          have ky := (hbel.cell (p := ⟨by', oy, none⟩) hby).trans HCY.out
          have hkS : k < S.size := by omega
          have HBI := Lib.hid hbel
          have hdef := Lib.hid (show okS xs ys d r i k = !(inB ((i : Int) - d) 0 ((ys.length : Int) - 1) && inB ((k : Int) - r) 0 ((T0.size : Int) - 1) && diffB S[k].toNat (chIn ys ((i : Int) - d).toNat ((k : Int) - r).toNat)) by
            rw [okS, QY.out, show chIn xs i k = S[k].toNat by rw [chIn, Q1.out, chAt_of hkS]])
          clear hbel
          cases hin : inB ((i : Int) - d) 0 ((ys.length : Int) - 1)
          · have hP := Lib.hid (allB_step hkt.out (show okS xs ys d r i k = true by rw [hdef.out, hin]; rfl))
            go_wp2_with (go_at_call 49; refine (l1In_any _ _ _ _).mono ?_; rintro e w' ⟨rfl, rfl⟩)
            go_roundw
            case rel => exact ⟨k + 1, by omega, by go_num, hP, HBI.out⟩
            case measure => simp [intOf]; omega
          · obtain ⟨i1, i2⟩ := inB_true.1 hin
            obtain ⟨R, hR⟩ : ∃ R : Nat, (i : Int) - d = (R : Int) := ⟨((i : Int) - d).toNat, by omega⟩
            rw [hR] at hin
            cases hin2 : inB ((k : Int) - r) 0 ((T0.size : Int) - 1)
            · have hP := Lib.hid (allB_step hkt.out (show okS xs ys d r i k = true by rw [hdef.out, hin2]; simp))
              go_wp2_with (go_at_call 49; refine (l1In_any _ _ _ _).mono ?_; rintro e w' ⟨rfl, rfl⟩)
              go_roundw
              case rel => exact ⟨k + 1, by omega, by go_num, hP, HBI.out⟩
              case measure => simp [intOf]; omega
            · obtain ⟨j1, j2⟩ := inB_true.1 hin2
              obtain ⟨C, hCC⟩ : ∃ C : Nat, (k : Int) - r = (C : Int) := ⟨((k : Int) - r).toNat, by omega⟩
              have hRl : R < ys.length := by omega
              have hkc := (HBI.out.cell (p := ⟨by', oy + R, none⟩) hby).trans (HCYY.out R _ (strs_get hRl))
              have st := HY3.out R hRl
              rw [QY.out] at st
              obtain ⟨T, hT⟩ : ∃ s, s = ys[R] := ⟨_, rfl⟩
              rw [← hT] at hkc
              rw [show rowAt ys R = T by rw [rowAt_of hRl, hT]] at st
              have hCT : C < T.size := by omega
              have hdef2 := Lib.hid (show okS xs ys d r i k = !(diffB S[k].toNat T[C].toNat) by
                rw [hdef.out, hR, hin, hin2, hCC, Int.toNat_natCast, Int.toNat_natCast, chIn, rowAt_of hRl, ← hT, chAt_of hCT]; rfl)
              rw [hCC] at hin2
              have st2 := st.2.1
              clear hT st hdef i1 i2 j1 j2
              rcases diff_cases S[k].toNat T[C].toNat with ⟨h0, h1⟩ | ⟨h0, h1, h2⟩ | ⟨h0, h1, h2, h3⟩ | ⟨h0, h1, h2, h3⟩

              · have hP := Lib.hid (allB_step hkt.out (show okS xs ys d r i k = true by rw [hdef2.out, h0]; rfl))
                clear h0
                go_wp2_with (go_at_call 49; refine (l1In_any _ _ _ _).mono ?_; rintro e w' ⟨rfl, rfl⟩)
                go_quiet (fail)
                go_wp2_with fail
                go_roundw
                case rel => exact ⟨k + 1, by omega, by go_num, hP, HBI.out.trans ((Dr.of _ _).below _)⟩
                case measure => simp [intOf]; omega
              · have hP := Lib.hid (allB_step hkt.out (show okS xs ys d r i k = true by rw [hdef2.out, h0]; rfl))
                clear h0
                go_wp2_with (go_at_call 49; refine (l1In_any _ _ _ _).mono ?_; rintro e w' ⟨rfl, rfl⟩)
                go_quiet (fail)
                go_wp2_with fail
                go_roundw
                case rel => exact ⟨k + 1, by omega, by go_num, hP, HBI.out.trans ((Dr.of _ _).below _)⟩
                case measure => simp [intOf]; omega
              · have hP := Lib.hid (allB_step hkt.out (show okS xs ys d r i k = true by rw [hdef2.out, h0]; rfl))
                clear h0
                go_wp2_with (go_at_call 49; refine (l1In_any _ _ _ _).mono ?_; rintro e w' ⟨rfl, rfl⟩)
                go_quiet (fail)
                go_wp2_with fail
                go_roundw
                case rel => exact ⟨k + 1, by omega, by go_num, hP, HBI.out.trans ((Dr.of _ _).below _)⟩
                case measure => simp [intOf]; omega
              · have hP := Lib.hid (allB_no hkl (show okS xs ys d r i k = false by rw [hdef2.out, h0]; rfl))
                clear h0
                go_wp2_with (go_at_call 49; refine (l1In_any _ _ _ _).mono ?_; rintro e w' ⟨rfl, rfl⟩)
                go_quiet (fail)
                go_wp2_with fail
                go_ret2
                have hP2 := allB_no (P := fun i => allB (rowAt xs 0).size (okS xs ys d r i)) hil (show (fun i => allB (rowAt xs 0).size (okS xs ys d r i)) i = false by simp only [Q0.out]; exact hP.out)
                exact ⟨by rw [HF.out, show agS xs ys d r = false from hP2]; rfl, B0.out.trans ((HBI.out.trans ((Dr.of _ _).below _)).mono B0.out.size)⟩
        · have hP := Lib.hid (allB_step (P := fun i => allB (rowAt xs 0).size (okS xs ys d r i)) ht.out (by simp only [Q0.out]; rw [show S0.size = k by omega]; exact hkt.out))
          go_wp2_with fail
          go_roundw
          case rel => exact ⟨i + 1, by omega, by go_num, hP, hbel⟩
          case measure => simp [intOf]; omega
    · have hP := Lib.hid (show agS xs ys d r = true by rw [agS, show xs.length = i by omega]; exact ht.out)
      go_wp2_with fail
      go_ret2
      exact ⟨by rw [HF.out, hP.out]; rfl, B0.out.trans (hbel.mono B0.out.size)⟩
end Go.Proofs.Ytenedmkjbmbapaa
