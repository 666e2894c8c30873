/- BlockText, PointsOn: both sides compute one value. -/
import Derived.Test.YtenedmkjbmbapaaJoinT
import Derived.Test.YtenedmkjbmbapaaBlockS
import Derived.Test.YtenedmkjbmbapaaAgree
namespace Go.Proofs.Ytenedmkjbmbapaa
open Go.RowKit

abbrev slashB : ByteArray := ⟨#[47]⟩
theorem gridB_mem {zs : List ByteArray} {most : Nat} (h : gridB zs most = true) : ∀ z ∈ zs, z.size ≤ most := by
  intro z hz
  obtain ⟨i, hi, rfl⟩ := List.getElem_of_mem hz
  have := ((gridB_bd h).2.2 i hi).2.2
  rwa [rowAt_of hi] at this
set_option maxHeartbeats 2000000 in
theorem specText_any (a : Option Addr) (cap : Nat) (zs : List ByteArray) (w : World) (hm : zs.length ≤ maxLen) (hz : ∀ z ∈ zs, z.size ≤ maxLen) (hr : Reads w a (strs zs)) :
    Calls Try.prog 43 #[.agg #[.slice a zs.length cap]] w fun e w' => e = .returned (.tuple #[.string (if gridB zs 3 = true then joinB zs slashB else ⟨#[]⟩), .bool (gridB zs 3)]) ∧ Below w.heap.size w w' := by
  have hA := fun w hr => specIsBlock_any a cap zs w hm hz hr
  have B0 := Lib.hid (Go.Joins.below_alloc1 w (.cells #[.slice a zs.length cap] 45))
  have HX := Lib.hid (hr.below B0.out)
  have BX := Lib.hid (RowIs.new w 45 [.slice a zs.length cap])
  clear hr hz
  cases e1 : gridB zs 3
  · rw [e1] at hA
    have HA := Lib.hid hA
    clear hA e1
    go_enter Try.func43, Try.ntmps43
    go_wp2_with fail
    refine (HA.out _ HX.out).mono ?_
    rintro e w1 ⟨rfl, hb⟩
    have HB := Lib.hid (B0.out.trans (hb.mono B0.out.size))
    clear hb
    go_wp2_with fail
    go_ret2
    exact ⟨rfl, HB.out⟩
  rw [e1] at hA
  have HA := Lib.hid hA
  obtain ⟨l1, l2, _⟩ := gridB_bd e1
  have HS := Lib.hid (joinTo_size (sep := slashB) (gridB_mem e1))
  have HZM := Lib.hid (gridB_mem e1)
  unfold maxLen at hm
  clear hA e1
  simp only [if_true]
  go_enter Try.func43, Try.ntmps43
  go_wp2_with fail
  refine (HA.out _ HX.out).mono ?_
  rintro e w1 ⟨rfl, hb⟩
  have HB := Lib.hid hb
  clear hb
  go_wp2_with fail
  generalize w.alloc (.cells #[.slice a zs.length cap] 45) = w0 at *
  go_loopw [4, 5] (fun q i wr => ∃ k : Nat, k ≤ zs.length ∧ i = .int .i64 k ∧ q = .string (joinTo zs slashB k) ∧ Below w0.heap.size w0 wr) (fun _ i _ => zs.length - (intOf i).toNat)
  case atStart => exact ⟨0, Nat.zero_le _, rfl, rfl, HB.out⟩
  case round =>
    obtain ⟨k, hk, rfl, rfl, hbel⟩ := hrel
    have cX := (BX.out.below hbel).cell (j := 0) rfl
    by_cases hlt : k < zs.length
    · rcases HX.out.below hbel with h0 | ⟨b, off, rfl, hb2, hc⟩
      · simp [strs] at h0; subst h0; simp at hlt
      have hc1 := hc k _ (strs_get hlt)
      have s1 := HS.out k (by omega)
      have s3 : (joinTo zs slashB k).size ≤ 100 := Nat.le_trans s1 (Nat.le_trans (Nat.mul_le_mul_right _ (show k ≤ 3 by omega)) (by decide))
      have s4 := HZM.out _ (List.getElem_mem hlt)
      have HBL := Lib.hid hbel
      clear hc s1 hbel
      rcases Nat.eq_zero_or_pos k with h0 | h0
      · subst h0
        simp only [Nat.add_zero] at hc1
        have hst := Lib.hid (joinTo_one (sep := slashB) hlt)
        have hz0 := Lib.hid (joinTo_zero zs slashB)
        go_wp2_with fail
        go_roundw
        case rel => exact ⟨1, by omega, by go_num, by rw [hst.out, hz0.out]; exact congrArg Value.string (by apply ByteArray.ext; simp [ByteArray.data_append]), HBL.out⟩
        case measure => simp [intOf]; omega
      · have hst := Lib.hid (joinTo_succ (sep := slashB) hlt h0)
        have hd : decide (0 < k) = true := by simp [h0]
        go_wp2_with fail
        go_roundw
        case rel => exact ⟨k + 1, by omega, by go_num, by rw [hst.out], HBL.out⟩
        case measure => simp [intOf]; omega
    · obtain rfl : k = zs.length := by omega
      have he := Lib.hid (joinTo_all zs slashB)
      go_wp2_with fail
      go_ret2
      exact ⟨by rw [he.out]; rfl, B0.out.trans (hbel.mono B0.out.size)⟩
set_option maxHeartbeats 1000000 in
theorem implText_any (a : Option Addr) (cap : Nat) (zs : List ByteArray) (w : World) (hm : zs.length ≤ maxLen) (hcap : zs.length ≤ cap) (hz : ∀ z ∈ zs, z.size ≤ maxLen) (hr : Reads w a (strs zs)) :
    Calls Try.prog 42 #[.agg #[.slice a zs.length cap]] w fun e w' => e = .returned (.tuple #[.string (if gridB zs 3 = true then joinB zs slashB else ⟨#[]⟩), .bool (gridB zs 3)]) ∧ Below w.heap.size w w' := by
  have hA := fun w hr => isBlock_any a cap zs w hm hz hr
  have B0 := Lib.hid (Go.Joins.below_alloc1 w (.cells #[.slice a zs.length cap] 45))
  have HX := Lib.hid (hr.below B0.out)
  have BX := Lib.hid (RowIs.new w 45 [.slice a zs.length cap])
  clear hr hz
  cases e1 : gridB zs 3
  · rw [e1] at hA
    have HA := Lib.hid hA
    clear hA e1
    go_enter Try.func42, Try.ntmps42
    go_wp2_with fail
    refine (HA.out _ HX.out).mono ?_
    rintro e w1 ⟨rfl, hb⟩
    have HB := Lib.hid (B0.out.trans (hb.mono B0.out.size))
    clear hb
    go_wp2_with fail
    go_ret2
    exact ⟨rfl, HB.out⟩
  rw [e1] at hA
  have HA := Lib.hid hA
  obtain ⟨l1, l2, _⟩ := gridB_bd e1
  have HJ := Lib.hid (fun w hr => join_any a cap zs slashB w hr hcap (by omega) (by
    rw [← joinTo_all]
    have h1 := joinTo_size (sep := slashB) (gridB_mem e1) zs.length (Nat.le_refl _)
    have h2 := Nat.mul_le_mul_right (3 + slashB.size) l2
    have h3 : 3 * (3 + slashB.size) = 12 := rfl
    omega))
  unfold maxLen at hm
  clear hA e1
  simp only [if_true]
  go_enter Try.func42, Try.ntmps42
  go_wp2_with fail
  refine (HA.out _ HX.out).mono ?_
  rintro e w1 ⟨rfl, hb⟩
  have HB := Lib.hid hb
  have cX := (BX.out.below hb).cell (j := 0) rfl
  clear hb
  go_wp2_with fail
  refine (HJ.out _ (HX.out.below HB.out)).mono ?_
  rintro e w2 ⟨rfl, hb⟩
  have HB2 := Lib.hid (HB.out.trans (hb.mono HB.out.size))
  clear hb
  go_wp2_with fail
  go_ret2
  exact ⟨rfl, B0.out.trans (HB2.out.mono B0.out.size)⟩
/-! ### Points -/
def cntTo (s : ByteArray) (k : Nat) : Nat := (s.data.toList.take k).count 46
theorem cntTo_zero (s : ByteArray) : cntTo s 0 = 0 := by simp [cntTo]
theorem cntTo_succ {s : ByteArray} {k : Nat} (h : k < s.size) : cntTo s (k + 1) = cntTo s k + (if ((s[k].toNat : Int) == 46) = true then 1 else 0) := by
  have hl : k < s.data.toList.length := by simpa using h
  unfold cntTo
  rw [List.take_succ_eq_append_getElem hl, List.count_append]
  congr 1
  have e : s.data.toList[k] = s[k] := by simp; rfl
  rw [e, List.count_singleton]
  by_cases h9 : s[k] = 46
  · simp [h9]
  · have : s[k].toNat ≠ 46 := fun e9 => h9 (by apply UInt8.toNat_inj.1; simpa using e9)
    have h8 : ((s[k].toNat : Int) == 46) = false := by simp; omega
    rw [h8]
    simp [h9]
theorem cntTo_all (s : ByteArray) : cntTo s s.size = s.data.toList.count 46 := by
  unfold cntTo
  rw [List.take_of_length_le (by simp)]
theorem cntTo_le (s : ByteArray) (k : Nat) : cntTo s k ≤ k := by
  unfold cntTo
  have h1 := List.count_le_length (a := 46) (l := s.data.toList.take k)
  have h2 := List.length_take_le k s.data.toList
  omega
def ptsTo (zs : List ByteArray) : Nat → Nat
  | 0 => 0
  | k + 1 => ptsTo zs k + cntTo (rowAt zs k) (rowAt zs k).size
theorem ptsTo_le {zs : List ByteArray} {m : Nat} (h : ∀ z ∈ zs, z.size ≤ m) : ∀ k, k ≤ zs.length → ptsTo zs k ≤ k * m := by
  intro k
  induction k with
  | zero => intro _; exact Nat.zero_le _
  | succ k ih =>
    intro hk
    have h1 := ih (by omega)
    have h2 := cntTo_le (rowAt zs k) (rowAt zs k).size
    have h3 := h (rowAt zs k) (by rw [rowAt_of (by omega)]; exact List.getElem_mem _)
    rw [ptsTo, Nat.add_mul]
    omega
def ptsF (zs : List ByteArray) : Nat := ptsTo zs zs.length
theorem join_nil_sep (xs : List (List UInt8)) : Lib.join xs [] = xs.flatten := by
  cases xs with
  | nil => rfl
  | cons x xs =>
    rw [Lib.join_cons, Lib.joinTail]
    simp
theorem ptsTo_flat (zs : List ByteArray) : ∀ k, k ≤ zs.length → ptsTo zs k = (((zs.take k).map (·.data.toList)).flatten).count 46 := by
  intro k
  induction k with
  | zero => intro _; simp [ptsTo]
  | succ k ih =>
    intro hk
    rw [ptsTo, ih (by omega), List.take_succ_eq_append_getElem (by omega), List.map_append, List.flatten_append, List.count_append, rowAt_of (by omega), cntTo_all]
    simp
theorem pts_join (zs : List ByteArray) : Lib.countByte (joinB zs ⟨#[]⟩).data.toList 46 = ptsF zs := by
  rw [ptsF, ptsTo_flat zs _ (Nat.le_refl _), List.take_length, Lib.countByte, joinB, ba]
  simp only [join_nil_sep]
set_option maxHeartbeats 2000000 in
theorem l4Points_any (a : Option Addr) (cap : Nat) (zs : List ByteArray) (w : World) (hm : zs.length ≤ 1048576) (hz : ∀ z ∈ zs, z.size ≤ 1048576) (hr : Reads w a (strs zs)) :
    Calls Try.prog 83 #[.slice a zs.length cap] w fun e w' => e = .returned (.int .i64 (ptsF zs : Int)) ∧ w = w' := by
  have HR := Lib.hid hr
  have HZ := Lib.hid hz
  have HP := Lib.hid (ptsTo_le hz)
  clear hr hz
  go_enter Try.func83, Try.ntmps83
  go_wp2_with fail
  go_loop [3, 4] (fun q i => ∃ k : Nat, k ≤ zs.length ∧ i = .int .i64 k ∧ q = .int .i64 (ptsTo zs k : Int)) (fun _ i => zs.length - (intOf i).toNat)
  case atStart => exact ⟨0, Nat.zero_le _, rfl, rfl⟩
  case round =>
    obtain ⟨k, hk, rfl, rfl⟩ := hrel
    by_cases hlt : k < zs.length
    · rcases HR.out with h0 | ⟨b, off, rfl, hb2, hc⟩
      · simp [strs] at h0; subst h0; simp at hlt
      have hc1 := hc k _ (strs_get hlt)
      have b1 : ptsTo zs k ≤ 1099511627776 := Nat.le_trans (HP.out k hk) (Nat.le_trans (Nat.mul_le_mul_right _ (show k ≤ 1048576 by omega)) (by decide))
      have sz := HZ.out _ (List.getElem_mem hlt)
      have hst := Lib.hid (show ptsTo zs (k + 1) = ptsTo zs k + cntTo zs[k] zs[k].size by rw [ptsTo, rowAt_of hlt])
      have hdk : decide (k < zs.length) = true := by simp [hlt]
      clear hc
      go_wp2_with fail
      go_loop [3, 5] (fun q i => ∃ j : Nat, j ≤ zs[k].size ∧ i = .int .i64 j ∧ q = .int .i64 ((ptsTo zs k : Int) + (cntTo zs[k] j : Int))) (fun _ i => zs[k].size - (intOf i).toNat)
      case atStart => exact ⟨0, Nat.zero_le _, rfl, by rw [cntTo_zero]; simp⟩
      case round =>
        obtain ⟨j, hj, rfl, rfl⟩ := hrel
        have c1 := cntTo_le zs[k] j
        by_cases hjl : j < zs[k].size
        · have hs2 := Lib.hid (cntTo_succ hjl)
          cases h46 : ((zs[k][j].toNat : Int) == 46)
          · have hs3 := Lib.hid (show cntTo zs[k] (j + 1) = cntTo zs[k] j by rw [hs2.out, h46]; simp)
            go_wp2_with fail
            go_round
            case rel => exact ⟨j + 1, by omega, by go_num, by rw [hs3.out]⟩
            case measure => simp [intOf]; omega
          · have hs3 := Lib.hid (show cntTo zs[k] (j + 1) = cntTo zs[k] j + 1 by rw [hs2.out, h46]; simp)
            go_wp2_with fail
            go_round
            case rel => exact ⟨j + 1, by omega, by go_num, by rw [hs3.out]; go_num⟩
            case measure => simp [intOf]; omega
        · obtain rfl : j = zs[k].size := by omega
          go_wp2_with fail
          go_round
          case rel => exact ⟨k + 1, by omega, by go_num, by rw [hst.out]; go_num⟩
          case measure => simp [intOf]; omega
    · obtain rfl : k = zs.length := by omega
      go_wp2_with fail
      go_ret
      exact ⟨rfl, rfl⟩
theorem pointsOn_any (a : Option Addr) (cap : Nat) (zs : List ByteArray) (w : World) (hcap : zs.length ≤ cap) (hg : gridB zs 5 = true) (hr : Reads w a (strs zs)) :
    Calls Try.prog 67 #[.slice a zs.length cap] w fun e w' => e = .returned (.int .i64 (ptsF zs : Int)) ∧ Below w.heap.size w w' := by
  obtain ⟨l1, l2, _⟩ := gridB_bd hg
  have HJ := Lib.hid (join_any a cap zs ⟨#[]⟩ w hr hcap (by omega) (by
    rw [← joinTo_all]
    have h1 := joinTo_size (sep := ⟨#[]⟩) (gridB_mem hg) zs.length (Nat.le_refl _)
    have h2 := Nat.mul_le_mul_right (5 + (⟨#[]⟩ : ByteArray).size) l2
    have h3 : 5 * (5 + (⟨#[]⟩ : ByteArray).size) = 25 := rfl
    omega))
  have hC := fun w => Try.strings_Count_one (joinB zs ⟨#[]⟩) 46 w
  rw [pts_join] at hC
  have HC := Lib.hid hC
  clear hC hr
  go_enter Try.func67, Try.ntmps67
  go_wp2_with fail
  refine HJ.out.mono ?_
  rintro e w1 ⟨rfl, hb⟩
  have HB := Lib.hid hb
  clear hb
  go_wp2_with fail
  refine (HC.out _).mono ?_
  rintro e w2 ⟨rfl, rfl⟩
  go_wp2_with fail
  go_ret
  exact ⟨rfl, HB.out⟩
def ptsR (zs : List ByteArray) : Int × Bool := if gridB zs 5 = true then ((ptsF zs : Int), true) else (0, false)
theorem specPts_any (a : Option Addr) (cap : Nat) (zs : List ByteArray) (w : World) (hm : zs.length ≤ 1048576) (hz : ∀ z ∈ zs, z.size ≤ 1048576) (hr : Reads w a (strs zs)) :
    Calls Try.prog 40 #[.slice a zs.length cap] w fun e w' => e = .returned (.tuple #[.int .i64 (ptsR zs).1, .bool (ptsR zs).2]) ∧ Below w.heap.size w w' := by
  have hA := specIsSheet_any a cap zs w (by unfold maxLen; omega) (fun z h => Nat.le_trans (hz z h) (by unfold maxLen; omega)) hr
  have HP := Lib.hid (fun w hr => l4Points_any a cap zs w hm hz hr)
  have HR := Lib.hid hr
  cases e1 : gridB zs 5
  all_goals
    rw [e1] at hA
    have HA := Lib.hid hA
    have HF := Lib.hid (show ptsR zs = _ by rw [ptsR, e1])
    clear hA hr hz e1
    go_enter Try.func40, Try.ntmps40
    go_wp2_with fail
    refine HA.out.mono ?_
    rintro e w1 ⟨rfl, hb⟩
    have HB := Lib.hid hb
    clear hb
    go_wp2_with (go_at_call 83; refine (HP.out _ (HR.out.below HB.out)).mono ?_; rintro e w' ⟨rfl, rfl⟩)
    go_ret2
    exact ⟨by rw [HF.out]; rfl, HB.out⟩
theorem implPts_any (a : Option Addr) (cap : Nat) (zs : List ByteArray) (w : World) (hcap : zs.length ≤ cap) (hm : zs.length ≤ 1048576) (hz : ∀ z ∈ zs, z.size ≤ 1048576) (hr : Reads w a (strs zs)) :
    Calls Try.prog 32 #[.slice a zs.length cap] w fun e w' => e = .returned (.tuple #[.int .i64 (ptsR zs).1, .bool (ptsR zs).2]) ∧ Below w.heap.size w w' := by
  have hA := isGrid_any a cap zs 5 w (by unfold maxLen; omega) (fun z h => Nat.le_trans (hz z h) (by unfold maxLen; omega)) hr
  have HR := Lib.hid hr
  cases e1 : gridB zs 5
  · rw [e1] at hA
    have HA := Lib.hid hA
    have HF := Lib.hid (show ptsR zs = (0, false) by rw [ptsR, e1]; rfl)
    clear hA hr hz e1
    go_enter Try.func32, Try.ntmps32
    go_wp2_with fail
    refine HA.out.mono ?_
    rintro e _ ⟨rfl, rfl⟩
    go_wp2_with fail
    go_ret2
    exact ⟨by rw [HF.out]; rfl, Below.refl _ _⟩
  · have HP := Lib.hid (fun w hr => pointsOn_any a cap zs w hcap e1 hr)
    rw [e1] at hA
    have HA := Lib.hid hA
    have HF := Lib.hid (show ptsR zs = ((ptsF zs : Int), true) by rw [ptsR, e1]; rfl)
    clear hA hr hz e1
    go_enter Try.func32, Try.ntmps32
    go_wp2_with fail
    refine HA.out.mono ?_
    rintro e _ ⟨rfl, rfl⟩
    go_wp2_with fail
    refine (HP.out _ HR.out).mono ?_
    rintro e w1 ⟨rfl, hb⟩
    have HB := Lib.hid hb
    clear hb
    go_wp2_with fail
    go_ret2
    exact ⟨by rw [HF.out]; rfl, HB.out⟩
end Go.Proofs.Ytenedmkjbmbapaa
