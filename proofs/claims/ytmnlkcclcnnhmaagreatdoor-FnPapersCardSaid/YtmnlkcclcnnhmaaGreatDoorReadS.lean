/- ParseInt: both sides read one numeral. -/
import Derived.Test.YtmnlkcclcnnhmaaGreatDoorReadM
import Derived.Test.YtmnlkcclcnnhmaaGreatDoorErrS
import Derived.Test.YtmnlkcclcnnhmaaGreatDoorShelfA
namespace Go.Proofs.YtmnlkcclcnnhmaaGreatDoor
open Go.RowKit

theorem ret_pair {p : Int × Bool} {a : Int} {b : Bool} (h : p = (a, b)) : Ending.returned (.tuple #[.int .i64 a, .bool b]) = .returned (.tuple #[.int .i64 p.1, .bool p.2]) := by rw [h]
theorem readR_no {s : ByteArray} (h : readOk s = false) : readR s = (0, false) := by simp [readR, h]
theorem readOk_dig {s : ByteArray} (h : allB (tailF s).size (digAt (tailF s)) = false) : readOk s = false := by simp [readOk, h]
theorem readOk_len {s : ByteArray} (h : inB ((tailF s).size : Int) 1 6 = false) : readOk s = false := by simp [readOk, h]
theorem readOk_num {s : ByteArray} (h : numF (numOf s) ≠ s) : readOk s = false := by simp [readOk, h]
theorem readR_yes {s : ByteArray} (h : inB ((tailF s).size : Int) 1 6 = true) (h2 : allB (tailF s).size (digAt (tailF s)) = true) (h3 : numF (numOf s) = s) : readR s = (numOf s, true) := by simp [readR, readOk, h, h2, h3]
set_option maxHeartbeats 2000000 in
set_option maxRecDepth 100000 in
theorem l1ReadPos_any (s : ByteArray) (en : negB s = false) (w : World) (hm : s.size ≤ 1048576) : Calls Tryz.prog 45 #[.string s] w fun e w' => e = .returned (.tuple #[.int .i64 (readR s).1, .bool (readR s).2]) ∧ Dr w w' := by
  have eT : tailF s = s := by rw [tailF, en]; rfl
  have eN : numOf s = (valTo s s.size : Int) := by rw [numOf, en, eT]; rfl
  have L1 := readOk_len (s := s); have l2 := readOk_dig (s := s); have l3 := readOk_num (s := s); have l4 := readR_yes (s := s); have nb := numOf_bd (s := s)
  rw [eT] at L1 l2 l4 nb
  rw [eN] at l3 l4 nb
  have HI := Lib.hid (fun w => l1In_any (s.size : Int) 1 6 w)
  have hd : ∀ (h : 1 < s.size), (((s[0].toNat : Int)) == 45) = false := fun h => by
    unfold negB at en
    rw [dif_pos h] at en
    have : s[0] ≠ 45 := by simpa using en
    have h2 : s[0].toNat ≠ 45 := fun e => this (UInt8.toNat_inj.1 (by rw [e]; rfl))
    rw [beq_eq_false_iff_ne]; omega
  clear eT eN en
  cases el : inB (s.size : Int) 1 6
  · rw [readR_no (L1 el)]
    rw [el] at HI
    clear L1 l2 l3 l4 nb el
    by_cases h1 : 1 < s.size
    · have hd1 := hd h1
      clear hd
      go_enter Tryz.func45, Tryz.ntmps45
      go_wp2_with (go_at_call 44; refine (HI.out _).mono ?_; rintro e w' ⟨rfl, rfl⟩)
      go_ret2
      exact ⟨rfl, Dr.refl _⟩
    · clear hd
      go_enter Tryz.func45, Tryz.ntmps45
      go_wp2_with (go_at_call 44; refine (HI.out _).mono ?_; rintro e w' ⟨rfl, rfl⟩)
      go_ret2
      exact ⟨rfl, Dr.refl _⟩
  obtain ⟨s1, s2⟩ := inB_true.1 el
  have hs6 : s.size ≤ 6 := by omega
  have L2 := Lib.hid l2; have L3 := Lib.hid l3; have L4 := Lib.hid (l4 el); have NB := Lib.hid (nb hs6)
  rw [el] at HI
  clear L1 el s1 s2 l2 l3 l4 nb
  by_cases h1 : 1 < s.size
  · have hd1 := hd h1
    clear hd
    go_enter Tryz.func45, Tryz.ntmps45
    go_wp2_with (go_at_call 44; refine (HI.out _).mono ?_; rintro e w' ⟨rfl, rfl⟩)
    go_loop [5, 6] (fun n i => ∃ k : Nat, k ≤ s.size ∧ i = .int .i64 k ∧ n = .int .i64 (valTo s k : Int) ∧ allB k (digAt s) = true) (fun _ i => s.size - (intOf i).toNat)
    case atStart => exact ⟨0, Nat.zero_le _, rfl, rfl, rfl⟩
    case round =>
      obtain ⟨k, hk, rfl, rfl, hall⟩ := hrel
      have hb := valTo_lt s k hk (allB_true.1 hall)
      have hb6 : valTo s k < 1000000 := Nat.lt_of_lt_of_le hb (show 10 ^ k ≤ 10 ^ 6 from Nat.pow_le_pow_right (by decide) (by omega))
      clear hb
      by_cases hlt : k < s.size
      · have e := digAt_of hlt
        have htn := s[k].toNat_lt
        by_cases d1 : s[k].toNat < 48
        · have hr := Lib.hid (readR_no (L2.out (allB_no hlt (by rw [e]; simp; omega))))
          have dd : decide ((s[k].toNat : Int) < 48) = true := by simp; omega
          clear e
          go_wp2
          go_ret2
          exact ⟨ret_pair hr.out, Dr.refl _⟩
        have dd : decide ((s[k].toNat : Int) < 48) = false := by simp; omega
        by_cases d2 : 57 < s[k].toNat
        · have hr := Lib.hid (readR_no (L2.out (allB_no hlt (by rw [e]; simp; omega))))
          have dd2 : decide ((57 : Int) < (s[k].toNat : Int)) = true := by simp; omega
          clear e
          go_wp2
          go_ret2
          exact ⟨ret_pair hr.out, Dr.refl _⟩
        · have dd2 : decide ((57 : Int) < (s[k].toNat : Int)) = false := by simp; omega
          have hst := Lib.hid (allB_step hall (show digAt s k = true by rw [e]; simp; omega))
          have hvs := Lib.hid (valTo_succ hlt)
          clear e hall
          go_wp2
          go_round
          case rel => exact ⟨k + 1, by omega, by go_num, by rw [hvs.out]; congr 1; omega, hst.out⟩
          case measure => simp [intOf]; omega
      · obtain rfl : k = s.size := by omega
        obtain ⟨n1, n2⟩ := NB.out hall
        have L5 := Lib.hid (L4.out hall)
        have HN := Lib.hid (fun w => l1Num_any ((valTo s s.size : Int)) (by omega) (by omega) w)
        have HN2 : Hid (∀ w, Calls Tryz.prog 59 #[.int .i64 (IntKind.i64.wrap ((valTo s s.size : Int)))] w fun e w' => e = .returned (.string (numF ((valTo s s.size : Int)))) ∧ Dr w w') := Lib.hid (by rw [IntWalk.i64_in _ (by omega)]; exact HN.out)
        have HV : Hid (∀ b, Ending.returned (.tuple #[.int .i64 (IntKind.i64.wrap ((valTo s s.size : Int))), .bool b]) = .returned (.tuple #[.int .i64 ((valTo s s.size : Int)), .bool b])) := Lib.hid (fun b => by rw [IntWalk.i64_in _ (by omega)])
        clear hall
        by_cases hq : numF ((valTo s s.size : Int)) = s
        · have hr := Lib.hid (L5.out hq)
          have hbq := str_beq hq
          clear hq
          go_wp2_with (go_at_call 59; refine (HN.out _).mono ?_; rintro e w' ⟨rfl, kk, rfl⟩)
          go_ret2
          first | exact ⟨ret_pair hr.out, Dr.of _ _⟩ | exact ⟨(HV.out _).trans (ret_pair hr.out), Dr.of _ _⟩
        · have hr := Lib.hid (readR_no (L3.out hq))
          have hbq := str_bne hq
          clear hq
          go_wp2_with (go_at_call 59; refine (HN.out _).mono ?_; rintro e w' ⟨rfl, kk, rfl⟩)
          go_ret2
          first | exact ⟨ret_pair hr.out, Dr.of _ _⟩ | exact ⟨(HV.out _).trans (ret_pair hr.out), Dr.of _ _⟩
  · clear hd
    go_enter Tryz.func45, Tryz.ntmps45
    go_wp2_with (go_at_call 44; refine (HI.out _).mono ?_; rintro e w' ⟨rfl, rfl⟩)
    go_loop [5, 6] (fun n i => ∃ k : Nat, k ≤ s.size ∧ i = .int .i64 k ∧ n = .int .i64 (valTo s k : Int) ∧ allB k (digAt s) = true) (fun _ i => s.size - (intOf i).toNat)
    case atStart => exact ⟨0, Nat.zero_le _, rfl, rfl, rfl⟩
    case round =>
      obtain ⟨k, hk, rfl, rfl, hall⟩ := hrel
      have hb := valTo_lt s k hk (allB_true.1 hall)
      have hb6 : valTo s k < 1000000 := Nat.lt_of_lt_of_le hb (show 10 ^ k ≤ 10 ^ 6 from Nat.pow_le_pow_right (by decide) (by omega))
      clear hb
      by_cases hlt : k < s.size
      · have e := digAt_of hlt
        have htn := s[k].toNat_lt
        by_cases d1 : s[k].toNat < 48
        · have hr := Lib.hid (readR_no (L2.out (allB_no hlt (by rw [e]; simp; omega))))
          have dd : decide ((s[k].toNat : Int) < 48) = true := by simp; omega
          clear e
          go_wp2
          go_ret2
          exact ⟨ret_pair hr.out, Dr.refl _⟩
        have dd : decide ((s[k].toNat : Int) < 48) = false := by simp; omega
        by_cases d2 : 57 < s[k].toNat
        · have hr := Lib.hid (readR_no (L2.out (allB_no hlt (by rw [e]; simp; omega))))
          have dd2 : decide ((57 : Int) < (s[k].toNat : Int)) = true := by simp; omega
          clear e
          go_wp2
          go_ret2
          exact ⟨ret_pair hr.out, Dr.refl _⟩
        · have dd2 : decide ((57 : Int) < (s[k].toNat : Int)) = false := by simp; omega
          have hst := Lib.hid (allB_step hall (show digAt s k = true by rw [e]; simp; omega))
          have hvs := Lib.hid (valTo_succ hlt)
          clear e hall
          go_wp2
          go_round
          case rel => exact ⟨k + 1, by omega, by go_num, by rw [hvs.out]; congr 1; omega, hst.out⟩
          case measure => simp [intOf]; omega
      · obtain rfl : k = s.size := by omega
        obtain ⟨n1, n2⟩ := NB.out hall
        have L5 := Lib.hid (L4.out hall)
        have HN := Lib.hid (fun w => l1Num_any ((valTo s s.size : Int)) (by omega) (by omega) w)
        have HN2 : Hid (∀ w, Calls Tryz.prog 59 #[.int .i64 (IntKind.i64.wrap ((valTo s s.size : Int)))] w fun e w' => e = .returned (.string (numF ((valTo s s.size : Int)))) ∧ Dr w w') := Lib.hid (by rw [IntWalk.i64_in _ (by omega)]; exact HN.out)
        have HV : Hid (∀ b, Ending.returned (.tuple #[.int .i64 (IntKind.i64.wrap ((valTo s s.size : Int))), .bool b]) = .returned (.tuple #[.int .i64 ((valTo s s.size : Int)), .bool b])) := Lib.hid (fun b => by rw [IntWalk.i64_in _ (by omega)])
        clear hall
        by_cases hq : numF ((valTo s s.size : Int)) = s
        · have hr := Lib.hid (L5.out hq)
          have hbq := str_beq hq
          clear hq
          go_wp2_with (go_at_call 59; refine (HN.out _).mono ?_; rintro e w' ⟨rfl, kk, rfl⟩)
          go_ret2
          first | exact ⟨ret_pair hr.out, Dr.of _ _⟩ | exact ⟨(HV.out _).trans (ret_pair hr.out), Dr.of _ _⟩
        · have hr := Lib.hid (readR_no (L3.out hq))
          have hbq := str_bne hq
          clear hq
          go_wp2_with (go_at_call 59; refine (HN.out _).mono ?_; rintro e w' ⟨rfl, kk, rfl⟩)
          go_ret2
          first | exact ⟨ret_pair hr.out, Dr.of _ _⟩ | exact ⟨(HV.out _).trans (ret_pair hr.out), Dr.of _ _⟩
set_option maxHeartbeats 2000000 in
set_option maxRecDepth 100000 in
theorem l1ReadNeg_any (s : ByteArray) (en : negB s = true) (w : World) (hm : s.size ≤ 1048576) : Calls Tryz.prog 45 #[.string s] w fun e w' => e = .returned (.tuple #[.int .i64 (readR s).1, .bool (readR s).2]) ∧ Dr w w' := by
  have hs1 : 1 < s.size := by unfold negB at en; split at en; assumption; cases en
  have h0 : s[0] = 45 := by unfold negB at en; rw [dif_pos hs1] at en; exact beq_iff_eq.1 en
  have hd : ((s[0].toNat : Int) == 45) = true := by rw [h0]; rfl
  have eT : tailF s = s.extract 1 s.size := by rw [tailF, if_pos en]
  have eN : numOf s = -(valTo (s.extract 1 s.size) (s.extract 1 s.size).size : Int) := by rw [numOf, if_pos en, eT]
  have hTs : (s.extract 1 s.size).size = s.size - 1 := by simp
  have L1 := readOk_len (s := s); have l2 := readOk_dig (s := s); have l3 := readOk_num (s := s); have l4 := readR_yes (s := s); have nb := numOf_bd (s := s)
  rw [eT] at L1 l2 l4 nb
  rw [eN] at l3 l4 nb
  rw [hTs] at L1
  have HI := Lib.hid (fun w => l1In_any ((s.size - 1 : Nat) : Int) 1 6 w)
  clear eT eN en h0
  cases el : inB ((s.size - 1 : Nat) : Int) 1 6
  · rw [readR_no (L1 el)]
    rw [el] at HI
    clear L1 l2 l3 l4 nb el
    clear hTs
    go_enter Tryz.func45, Tryz.ntmps45
    go_wp2_with (go_at_call 44; refine (HI.out _).mono ?_; rintro e w' ⟨rfl, rfl⟩)
    go_ret2
    exact ⟨rfl, Dr.refl _⟩
  obtain ⟨s1, s2⟩ := inB_true.1 el
  have hs6 : (s.extract 1 s.size).size ≤ 6 := by omega
  have el2 : inB ((s.extract 1 s.size).size : Int) 1 6 = true := by rw [hTs]; exact el
  rw [el] at HI
  have L2 := Lib.hid l2; have L3 := Lib.hid l3; have L4 := Lib.hid (l4 el2); have NB := Lib.hid (nb hs6)
  have hltN : (s.extract 1 s.size).size < s.size := by rw [hTs]; omega
  have HTS := Lib.hid hTs
  have hsm : s.size ≤ 7 := by omega
  clear L1 el el2 s1 s2 hTs l2 l3 l4 nb
  go_enter Tryz.func45, Tryz.ntmps45
  go_wp2_with (go_at_call 44; refine (HI.out _).mono ?_; rintro e w' ⟨rfl, rfl⟩)
  generalize s.extract 1 s.size = T at *
  go_loop [5, 6] (fun n i => ∃ k : Nat, k ≤ T.size ∧ i = .int .i64 k ∧ n = .int .i64 (valTo T k : Int) ∧ allB k (digAt T) = true) (fun _ i => T.size - (intOf i).toNat)
  case atStart => exact ⟨0, Nat.zero_le _, rfl, rfl, rfl⟩
  case round =>
    obtain ⟨k, hk, rfl, rfl, hall⟩ := hrel
    have hb := valTo_lt T k hk (allB_true.1 hall)
    have hb6 : valTo T k < 1000000 := Nat.lt_of_lt_of_le hb (show 10 ^ k ≤ 10 ^ 6 from Nat.pow_le_pow_right (by decide) (by omega))
    clear hb
    by_cases hlt : k < T.size
    · have e := digAt_of hlt
      have htn := T[k].toNat_lt
      by_cases d1 : T[k].toNat < 48
      · have hr := Lib.hid (readR_no (L2.out (allB_no hlt (by rw [e]; simp; omega))))
        have dd : decide ((T[k].toNat : Int) < 48) = true := by simp; omega
        clear e
        go_wp2
        go_ret2
        exact ⟨ret_pair hr.out, Dr.refl _⟩
      have dd : decide ((T[k].toNat : Int) < 48) = false := by simp; omega
      by_cases d2 : 57 < T[k].toNat
      · have hr := Lib.hid (readR_no (L2.out (allB_no hlt (by rw [e]; simp; omega))))
        have dd2 : decide ((57 : Int) < (T[k].toNat : Int)) = true := by simp; omega
        clear e
        go_wp2
        go_ret2
        exact ⟨ret_pair hr.out, Dr.refl _⟩
      · have dd2 : decide ((57 : Int) < (T[k].toNat : Int)) = false := by simp; omega
        have hst := Lib.hid (allB_step hall (show digAt T k = true by rw [e]; simp; omega))
        have hvs := Lib.hid (valTo_succ hlt)
        clear e hall
        go_wp2
        go_round
        case rel => exact ⟨k + 1, by omega, by go_num, by rw [hvs.out]; congr 1; omega, hst.out⟩
        case measure => simp [intOf]; omega
    · obtain rfl : k = T.size := by omega
      obtain ⟨n1, n2⟩ := NB.out hall
      have L5 := Lib.hid (L4.out hall)
      have HN := Lib.hid (fun w => l1Num_any (-(valTo T T.size : Int)) (by omega) (by omega) w)
      have HN2 : Hid (∀ w, Calls Tryz.prog 59 #[.int .i64 (IntKind.i64.wrap (-(valTo T T.size : Int)))] w fun e w' => e = .returned (.string (numF (-(valTo T T.size : Int)))) ∧ Dr w w') := Lib.hid (by rw [IntWalk.i64_in _ (by omega)]; exact HN.out)
      have HV : Hid (∀ b, Ending.returned (.tuple #[.int .i64 (IntKind.i64.wrap (-(valTo T T.size : Int))), .bool b]) = .returned (.tuple #[.int .i64 (-(valTo T T.size : Int)), .bool b])) := Lib.hid (fun b => by rw [IntWalk.i64_in _ (by omega)])
      clear hall
      by_cases hq : numF (-(valTo T T.size : Int)) = s
      · have hr := Lib.hid (L5.out hq)
        have hbq := str_beq hq
        clear hq
        go_wp2_with (go_at_call 59; refine (HN.out _).mono ?_; rintro e w' ⟨rfl, kk, rfl⟩)
        go_ret2
        first | exact ⟨ret_pair hr.out, Dr.of _ _⟩ | exact ⟨(HV.out _).trans (ret_pair hr.out), Dr.of _ _⟩
      · have hr := Lib.hid (readR_no (L3.out hq))
        have hbq := str_bne hq
        clear hq
        go_wp2_with (go_at_call 59; refine (HN.out _).mono ?_; rintro e w' ⟨rfl, kk, rfl⟩)
        go_ret2
        first | exact ⟨ret_pair hr.out, Dr.of _ _⟩ | exact ⟨(HV.out _).trans (ret_pair hr.out), Dr.of _ _⟩
theorem l1Read_any (s : ByteArray) (w : World) (hm : s.size ≤ 1048576) : Calls Tryz.prog 45 #[.string s] w fun e w' => e = .returned (.tuple #[.int .i64 (readR s).1, .bool (readR s).2]) ∧ Dr w w' := by
  cases en : negB s
  · exact l1ReadPos_any s en w hm
  · exact l1ReadNeg_any s en w hm
end Go.Proofs.YtmnlkcclcnnhmaaGreatDoor
