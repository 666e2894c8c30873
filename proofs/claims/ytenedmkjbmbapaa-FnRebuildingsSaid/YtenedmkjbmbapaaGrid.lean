/- Grids of letters and points: both sides answer alike. -/
import Derived.Test.YtenedmkjbmbapaaStrS
import Derived.Test.YtenedmkjbmbapaaQuiet
import Derived.Test.YtenedmkjbmbapaaScalar
namespace Go.Proofs.Ytenedmkjbmbapaa
open Go.RowKit

/-- the byte of a text at a place -/
def chAt (s : ByteArray) (i : Nat) : Nat := if h : i < s.size then s[i].toNat else 0
theorem chAt_of {s : ByteArray} {i : Nat} (h : i < s.size) : chAt s i = s[i].toNat := by simp [chAt, h]
def chOk (c : Nat) : Bool := decide (c = 46) || (decide (97 ≤ c) && decide (c ≤ 122))
def rowAt (zs : List ByteArray) (i : Nat) : ByteArray := zs.getD i .empty
theorem rowAt_of {zs : List ByteArray} {i : Nat} (h : i < zs.length) : rowAt zs i = zs[i] := by simp [rowAt, List.getD, h]
def rowOk (zs : List ByteArray) (most : Nat) (i : Nat) : Bool :=
  decide ((rowAt zs i).size = (rowAt zs 0).size) && inB ((rowAt zs i).size : Int) 1 most && allB (rowAt zs i).size (fun k => chOk (chAt (rowAt zs i) k))
def gridB (zs : List ByteArray) (most : Nat) : Bool := inB (zs.length : Int) 1 most && allB zs.length (rowOk zs most)
/-- what a test of one byte says, in the walk's spelling -/
theorem ch_cases (c : Nat) : (chOk c = true ∧ ((c : Int) == 46) = true ∧ ((c : Int) != 46) = false) ∨ (chOk c = true ∧ ((c : Int) == 46) = false ∧ ((c : Int) != 46) = true ∧ 97 ≤ c ∧ c ≤ 122) ∨
    (chOk c = false ∧ ((c : Int) == 46) = false ∧ ((c : Int) != 46) = true ∧ c < 97) ∨ (chOk c = false ∧ ((c : Int) == 46) = false ∧ ((c : Int) != 46) = true ∧ 97 ≤ c ∧ 122 < c) := by
  by_cases h1 : c = 46
  · subst h1; left; simp [chOk]
  right
  have e1 : ((c : Int) == 46) = false := by simp; omega
  have e2 : ((c : Int) != 46) = true := by simp; omega
  by_cases h2 : 97 ≤ c
  · by_cases h3 : c ≤ 122
    · left; exact ⟨by simp [chOk, h2, h3], e1, e2, h2, h3⟩
    · right; right; exact ⟨by simp [chOk, h1, h3], e1, e2, h2, by omega⟩
  · right; left; exact ⟨by simp [chOk, h1, h2], e1, e2, by omega⟩
set_option maxRecDepth 100000 in
set_option maxHeartbeats 4000000 in
theorem l4Rows_any (a : Option Addr) (cap : Nat) (zs : List ByteArray) (most : Nat) (w : World) (hm : zs.length ≤ maxLen) (hz : ∀ z ∈ zs, z.size ≤ maxLen) (hr : Reads w a (strs zs)) :
    Calls Try.prog 96 #[.slice a zs.length cap, .int .i64 (most : Int)] w fun e w' => e = .returned (.bool (gridB zs most)) ∧ Dr w w' := by
  have HR := Lib.hid hr
  have HZ := Lib.hid hz
  clear hr hz
  unfold maxLen at hm
  have hD := fun w => l1In_any (zs.length : Int) 1 most w
  cases hlen : inB (zs.length : Int) 1 most
  · rw [hlen] at hD
    have HD := Lib.hid hD
    have HF := Lib.hid (show gridB zs most = false by rw [gridB, hlen]; rfl)
    clear hD hlen
    go_enter Try.func96, Try.ntmps96
    go_wp2_with fail
    refine (HD.out _).mono ?_
    rintro e _ ⟨rfl, rfl⟩
    go_wp2_with fail
    go_ret
    exact ⟨ret_bool HF.out.symm, Dr.refl _⟩
  rw [hlen] at hD
  have HD := Lib.hid hD
  have HL := Lib.hid hlen
  clear hD hlen
  go_enter Try.func96, Try.ntmps96
  go_wp2_with fail
  refine (HD.out _).mono ?_
  rintro e _ ⟨rfl, rfl⟩
  go_wp2_with fail
  go_loopw [5] (fun i wr => ∃ k : Nat, k ≤ zs.length ∧ i = .int .i64 k ∧ Hid (allB k (rowOk zs most) = true) ∧ Dr w wr) (fun i _ => zs.length - (intOf i).toNat)
  case atStart => exact ⟨0, Nat.zero_le _, rfl, allB_zero _, Dr.refl _⟩
  case round =>
    obtain ⟨k, hk, rfl, ht, hdr⟩ := hrel
    by_cases hlt : k < zs.length
    · rcases HR.out.dr hdr with h0 | ⟨b, off, rfl, hb, hc⟩
      · simp [strs] at h0; subst h0; simp at hlt
      have h0l : 0 < zs.length := by omega
      have hc1 := hc k _ (strs_get hlt)
      have hc0 := hc 0 _ (strs_get h0l)
      simp only [Nat.add_zero] at hc0
      have s1 := HZ.out _ (List.getElem_mem hlt)
      have s0 := HZ.out _ (List.getElem_mem h0l)
      unfold maxLen at s0 s1
      have hdef := Lib.hid (show rowOk zs most k = (decide (zs[k].size = zs[0].size) && inB (zs[k].size : Int) 1 most && allB zs[k].size (fun q => chOk (chAt zs[k] q))) by simp only [rowOk, rowAt_of hlt, rowAt_of h0l])
      have hdk : decide (k < zs.length) = true := by simp [hlt]
      have hC := fun w => l1In_any (zs[k].size : Int) 1 most w
      clear hc
      by_cases hs : zs[k].size = zs[0].size
      · have hs1 : (((zs[k].size : Nat) : Int) != ((zs[0].size : Nat) : Int)) = false := by simp [hs]
        have HS := Lib.hid hs
        clear hs
        cases hin : inB (zs[k].size : Int) 1 most
        · have hP := Lib.hid (allB_no hlt (show rowOk zs most k = false by rw [hdef.out, hin]; simp))
          rw [hin] at hC
          have HC := Lib.hid hC
          clear hC hin
          go_wp2_with fail
          go_quiet ((go_at_call 49; exact quiet_same (HC.out _)))
          go_wp2_with fail
          go_ret
          exact ⟨ret_bool (by rw [gridB, hP.out]; simp), hdr.trans (Dr.of _ _)⟩
        · rw [hin] at hC
          have HC := Lib.hid hC
          have HI := Lib.hid hin
          clear hC hin
          go_wp2_with fail
          go_quiet ((go_at_call 49; exact quiet_same (HC.out _)))
          go_wp2_with fail
          have hcw := (hdr.cell ⟨b, off + k, none⟩).symm.trans hc1
          have HDR := Lib.hid (hdr.trans (Dr.of wr nq))
          generalize wr.drewN nq = wo at *
          clear hdr
          go_loopw [6] (fun i wi => ∃ q : Nat, q ≤ zs[k].size ∧ i = .int .i64 q ∧ Hid (allB q (fun q => chOk (chAt zs[k] q)) = true) ∧ Dr w wi) (fun i _ => zs[k].size - (intOf i).toNat)
          case atStart => exact ⟨0, Nat.zero_le _, rfl, allB_zero _, HDR.out⟩
          case round =>
            obtain ⟨q, hq, rfl, hqt, hdi⟩ := hrel
            have hc3 := (hdi.cell ⟨b, off + k, none⟩).trans hcw
            by_cases hql : q < zs[k].size
            · have hdef2 := Lib.hid (chAt_of hql)
              rcases ch_cases zs[k][q].toNat with ⟨c0, c1, c2⟩ | ⟨c0, c1, c2, c3, c4⟩ | ⟨c0, c1, c2, c3⟩ | ⟨c0, c1, c2, c3, c4⟩
              · have hP := Lib.hid (allB_step hqt.out (show chOk (chAt zs[k] q) = true by rw [hdef2.out]; exact c0))
                clear c0
                go_wp2_with fail
                go_roundw
                case rel => exact ⟨q + 1, by omega, by go_num, hP, hdi⟩
                case measure => simp [intOf]; omega
              · have hP := Lib.hid (allB_step hqt.out (show chOk (chAt zs[k] q) = true by rw [hdef2.out]; exact c0))
                clear c0
                go_wp2_with fail
                go_roundw
                case rel => exact ⟨q + 1, by omega, by go_num, hP, hdi⟩
                case measure => simp [intOf]; omega
              · have hP := Lib.hid (allB_no (P := fun q => chOk (chAt zs[k] q)) hql (show chOk (chAt zs[k] q) = false by rw [hdef2.out]; exact c0))
                have hP2 := Lib.hid (allB_no hlt (show rowOk zs most k = false by rw [hdef.out, hP.out]; simp))
                clear c0
                go_wp2_with fail
                go_ret
                exact ⟨ret_bool (by rw [gridB, hP2.out]; simp), hdi⟩
              · have hP := Lib.hid (allB_no (P := fun q => chOk (chAt zs[k] q)) hql (show chOk (chAt zs[k] q) = false by rw [hdef2.out]; exact c0))
                have hP2 := Lib.hid (allB_no hlt (show rowOk zs most k = false by rw [hdef.out, hP.out]; simp))
                clear c0
                go_wp2_with fail
                go_ret
                exact ⟨ret_bool (by rw [gridB, hP2.out]; simp), hdi⟩
            · have hqe : q = zs[k].size := by omega
              have hP := Lib.hid (allB_step ht.out (show rowOk zs most k = true by
                have hq3 := hqt.out
                rw [hqe] at hq3
                rw [hdef.out, HI.out, hq3]; simp [HS.out]))
              clear hqe
              go_wp2_with fail
              go_roundw
              case rel => exact ⟨k + 1, by omega, by go_num, hP, hdi⟩
              case measure => simp [intOf]; omega
      · have hs1 : (((zs[k].size : Nat) : Int) != ((zs[0].size : Nat) : Int)) = true := by simp; omega
        have hP := Lib.hid (allB_no hlt (show rowOk zs most k = false by rw [hdef.out]; simp [hs]))
        clear hs hC
        go_wp2_with fail
        go_quiet (fail)
        go_wp2_with fail
        go_ret
        exact ⟨ret_bool (by rw [gridB, hP.out]; simp), hdr.trans (Dr.of _ _)⟩
    · have heq := Lib.hid (show allB zs.length (rowOk zs most) = true by rw [show zs.length = k from by omega]; exact ht.out)
      go_wp2_with fail
      go_ret
      exact ⟨ret_bool (by rw [gridB, heq.out, HL.out]; rfl), hdr⟩
set_option maxRecDepth 100000 in
set_option maxHeartbeats 4000000 in
theorem isGrid_any (a : Option Addr) (cap : Nat) (zs : List ByteArray) (most : Nat) (w : World) (hm : zs.length ≤ maxLen) (hz : ∀ z ∈ zs, z.size ≤ maxLen) (hr : Reads w a (strs zs)) :
    Calls Try.prog 70 #[.slice a zs.length cap, .int .i64 (most : Int)] w fun e w' => e = .returned (.bool (gridB zs most)) ∧ w = w' := by
  have HR := Lib.hid hr
  have HZ := Lib.hid hz
  clear hr hz
  unfold maxLen at hm
  go_enter Try.func70, Try.ntmps70
  go_wp2_with fail
  go_loop [10] (fun i => ∃ k : Nat, k ≤ zs.length ∧ i = .int .i64 k ∧ Hid (allB k (rowOk zs most) = true)) (fun i => zs.length - (intOf i).toNat)
  case atStart => exact ⟨0, Nat.zero_le _, rfl, allB_zero _⟩
  case round =>
    obtain ⟨k, hk, rfl, ht⟩ := hrel
    by_cases hlt : k < zs.length
    · rcases HR.out with h0 | ⟨b, off, rfl, hb, hc⟩
      · simp [strs] at h0; subst h0; simp at hlt
      have h0l : 0 < zs.length := by omega
      have hc1 := hc k _ (strs_get hlt)
      have hc0 := hc 0 _ (strs_get h0l)
      simp only [Nat.add_zero] at hc0
      have s1 := HZ.out _ (List.getElem_mem hlt)
      have s0 := HZ.out _ (List.getElem_mem h0l)
      unfold maxLen at s0 s1
      have hdef := Lib.hid (show rowOk zs most k = (decide (zs[k].size = zs[0].size) && inB (zs[k].size : Int) 1 most && allB zs[k].size (fun q => chOk (chAt zs[k] q))) by simp only [rowOk, rowAt_of hlt, rowAt_of h0l])
      have hdk : decide (k < zs.length) = true := by simp [hlt]
      have hC := fun w => inRange_any (zs[k].size : Int) 1 most w
      clear hc
      by_cases hs : zs[k].size = zs[0].size
      · have hs1 : (((zs[k].size : Nat) : Int) != ((zs[0].size : Nat) : Int)) = false := by simp [hs]
        have HS := Lib.hid hs
        clear hs
        cases hin : inB (zs[k].size : Int) 1 most
        · have hP := Lib.hid (allB_no hlt (show rowOk zs most k = false by rw [hdef.out, hin]; simp))
          rw [hin] at hC
          have HC := Lib.hid hC
          clear hC hin
          go_wp2_with fail
          refine (HC.out _).mono ?_
          rintro e _ ⟨rfl, rfl⟩
          go_wp2_with fail
          go_ret
          exact ⟨ret_bool (by rw [gridB, hP.out]; simp), rfl⟩
        · rw [hin] at hC
          have HC := Lib.hid hC
          have HI := Lib.hid hin
          clear hC hin
          go_wp2_with fail
          refine (HC.out _).mono ?_
          rintro e _ ⟨rfl, rfl⟩
          go_wp2_with fail
          go_loop [30] (fun i => ∃ q : Nat, q ≤ zs[k].size ∧ i = .int .i64 q ∧ Hid (allB q (fun q => chOk (chAt zs[k] q)) = true)) (fun i => zs[k].size - (intOf i).toNat)
          case atStart => exact ⟨0, Nat.zero_le _, rfl, allB_zero _⟩
          case round =>
            obtain ⟨q, hq, rfl, hqt⟩ := hrel
            by_cases hql : q < zs[k].size
            · have hdef2 := Lib.hid (chAt_of hql)
              rcases ch_cases zs[k][q].toNat with ⟨c0, c1, c2⟩ | ⟨c0, c1, c2, c3, c4⟩ | ⟨c0, c1, c2, c3⟩ | ⟨c0, c1, c2, c3, c4⟩
              · have hP := Lib.hid (allB_step hqt.out (show chOk (chAt zs[k] q) = true by rw [hdef2.out]; exact c0))
                clear c0
                go_wp2_with fail
                go_round
                case rel => exact ⟨q + 1, by omega, by go_num, hP⟩
                case measure => simp [intOf]; omega
              · have hP := Lib.hid (allB_step hqt.out (show chOk (chAt zs[k] q) = true by rw [hdef2.out]; exact c0))
                clear c0
                go_wp2_with fail
                go_round
                case rel => exact ⟨q + 1, by omega, by go_num, hP⟩
                case measure => simp [intOf]; omega
              · have hP := Lib.hid (allB_no (P := fun q => chOk (chAt zs[k] q)) hql (show chOk (chAt zs[k] q) = false by rw [hdef2.out]; exact c0))
                have hP2 := Lib.hid (allB_no hlt (show rowOk zs most k = false by rw [hdef.out, hP.out]; simp))
                clear c0
                go_wp2_with fail
                go_ret
                exact ⟨ret_bool (by rw [gridB, hP2.out]; simp), rfl⟩
              · have hP := Lib.hid (allB_no (P := fun q => chOk (chAt zs[k] q)) hql (show chOk (chAt zs[k] q) = false by rw [hdef2.out]; exact c0))
                have hP2 := Lib.hid (allB_no hlt (show rowOk zs most k = false by rw [hdef.out, hP.out]; simp))
                clear c0
                go_wp2_with fail
                go_ret
                exact ⟨ret_bool (by rw [gridB, hP2.out]; simp), rfl⟩
            · have hqe : q = zs[k].size := by omega
              have hP := Lib.hid (allB_step ht.out (show rowOk zs most k = true by
                have hq3 := hqt.out
                rw [hqe] at hq3
                rw [hdef.out, HI.out, hq3]; simp [HS.out]))
              clear hqe
              go_wp2_with fail
              go_round
              case rel => exact ⟨k + 1, by omega, by go_num, hP⟩
              case measure => simp [intOf]; omega
      · have hs1 : (((zs[k].size : Nat) : Int) != ((zs[0].size : Nat) : Int)) = true := by simp; omega
        have hP := Lib.hid (allB_no hlt (show rowOk zs most k = false by rw [hdef.out]; simp [hs]))
        clear hs hC
        go_wp2_with fail
        go_ret
        exact ⟨ret_bool (by rw [gridB, hP.out]; simp), rfl⟩
    · have heq := Lib.hid (show allB zs.length (rowOk zs most) = true by rw [show zs.length = k from by omega]; exact ht.out)
      go_wp2_with (go_at_call 54; refine (inRange_any _ _ _ _).mono ?_; rintro e w' ⟨rfl, rfl⟩)
      go_ret
      exact ⟨ret_bool (by rw [gridB, heq.out]; simp), rfl⟩
end Go.Proofs.Ytenedmkjbmbapaa
