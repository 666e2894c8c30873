/- NearestPaper: both sides compute one value. -/
import Derived.Test.YtmnlkcclcnnhmaaGreatDoorPaperG
namespace Go.Proofs.YtmnlkcclcnnhmaaGreatDoor
open Go.RowKit

theorem papersOk_len {zs : List PaperT} (h : papersOk zs = true) : zs.length ≤ 10 := by
  simp only [papersOk, Bool.and_eq_true, decide_eq_true_eq] at h; exact h.2
theorem papersOk_at {zs : List PaperT} (h : papersOk zs = true) {k : Nat} (hk : k < zs.length) : paperOk zs[k] = true := by
  simp only [papersOk, Bool.and_eq_true, allB_true] at h
  have := h.1 k hk
  simp only [paperAt, Bool.and_eq_true, paper_getD hk] at this
  exact this.1
theorem paperOk_thick {c : PaperT} (h : paperOk c = true) : 1 ≤ c.thick ∧ c.thick ≤ 300 := by
  simp only [paperOk, Bool.and_eq_true, inB_true] at h; exact h.1.1.2
def offOf (c : PaperT) (th : Int) : Int := max (c.thick - th) (th - c.thick)
def nearTo (zs : List PaperT) (th : Int) : Nat → Int × Int
  | 0 => (0, 301)
  | k + 1 => if offOf (zs.getD k paper0) th < (nearTo zs th k).2 then ((zs.getD k paper0).id, offOf (zs.getD k paper0) th) else nearTo zs th k
def nearAsk (zs : List PaperT) (th : Int) : Bool := papersOk zs && inB th 1 300 && !decide (zs.length = 0)
def nearF (zs : List PaperT) (th : Int) : Int × Int × Bool := if nearAsk zs th = true then ((nearTo zs th zs.length).1, (nearTo zs th zs.length).2, true) else (0, 0, false)
theorem nearTo_bd (zs : List PaperT) (th : Int) (hz : papersOk zs = true) (h1 : 1 ≤ th) (h2 : th ≤ 300) : ∀ k, k ≤ zs.length → 0 ≤ (nearTo zs th k).2 ∧ (nearTo zs th k).2 ≤ 301 ∧ (0 < k → (nearTo zs th k).2 ≤ 299) := by
  intro k
  induction k with
  | zero => intro _; simp [nearTo]
  | succ k ih =>
    intro hk
    have hb := paperOk_thick (papersOk_at hz (show k < zs.length by omega))
    have := ih (by omega)
    rw [nearTo, paper_getD (show k < zs.length by omega)]
    split
    · simp only [offOf] at *; omega
    · rename_i hno; simp only [offOf] at *; omega
theorem int_max {k : IntKind} {a b : Int} (h : a = b) : Value.int k a = .int k b := by rw [h]
set_option maxHeartbeats 2000000 in
theorem specNear_any (a : Option Addr) (cap : Nat) (zs : List PaperT) (th : Int) (w : World) (hm : zs.length ≤ maxLen) (hr : Reads w a (papers zs)) (hfit : ∀ z ∈ zs, z.mark.size ≤ maxLen) :
    Calls Tryz.prog 19 #[.slice a zs.length cap, .int .i64 th] w fun e w' => e = .returned (.tuple #[.int .i64 (nearF zs th).1, .int .i64 (nearF zs th).2.1, .bool (nearF zs th).2.2]) ∧ Below w.heap.size w w' := by
  have hA := l3Good_any a cap zs w hm hr hfit
  unfold maxLen at hm
  cases e1 : papersOk zs
  · rw [e1] at hA
    have HA := Lib.hid hA
    rw [show nearF zs th = (0, 0, false) by simp [nearF, nearAsk, e1]]
    clear hA hr hfit
    go_enter Tryz.func19, Tryz.ntmps19
    go_wp2_with fail
    refine HA.out.mono ?_
    rintro e w1 ⟨rfl, hb⟩
    have HB := Lib.hid hb
    clear hb
    go_wp2_with fail
    go_ret3
    exact ⟨rfl, HB.out⟩
  rw [e1] at hA
  have HA := Lib.hid hA
  cases e2 : inB th 1 300
  · rw [show nearF zs th = (0, 0, false) by simp [nearF, nearAsk, e2]]
    clear hA hr hfit
    go_enter Tryz.func19, Tryz.ntmps19
    go_wp2_with fail
    refine HA.out.mono ?_
    rintro e w1 ⟨rfl, hb⟩
    have HB := Lib.hid hb
    clear hb
    go_wp2_with (go_at_call 44; refine (l1In_any _ _ _ _).mono ?_; rintro e w' ⟨rfl, rfl⟩)
    go_ret3
    exact ⟨rfl, HB.out⟩
  by_cases e3 : zs.length = 0
  · rw [show nearF zs th = (0, 0, false) by simp [nearF, nearAsk, e3]]
    have hl : (((zs.length : Nat) : Int) == 0) = true := by simp [e3]
    have hle : zs.length ≤ 0 := by omega
    clear hA hr hfit e3
    go_enter Tryz.func19, Tryz.ntmps19
    go_wp2_with fail
    refine HA.out.mono ?_
    rintro e w1 ⟨rfl, hb⟩
    have HB := Lib.hid hb
    clear hb
    go_wp2_with (go_at_call 44; refine (l1In_any _ _ _ _).mono ?_; rintro e w' ⟨rfl, rfl⟩)
    go_ret3
    exact ⟨rfl, HB.out⟩
  have hl : (((zs.length : Nat) : Int) == 0) = false := by rw [beq_eq_false_iff_ne]; omega
  have hpos : 0 < zs.length := by omega
  rw [show nearF zs th = ((nearTo zs th zs.length).1, (nearTo zs th zs.length).2, true) by simp [nearF, nearAsk, e1, e2, e3]]
  obtain ⟨t1, t2⟩ := inB_true.1 e2
  have HZ := Lib.hid e1
  have h10 := papersOk_len e1
  have HR := Lib.hid hr
  clear hA hr hfit e3 e1
  go_enter Tryz.func19, Tryz.ntmps19
  go_wp2_with fail
  refine HA.out.mono ?_
  rintro e w1 ⟨rfl, hb⟩
  have HB1 := Lib.hid hb
  clear hb
  go_wp2_with (go_at_call 44; refine (l1In_any _ _ _ _).mono ?_; rintro e w' ⟨rfl, rfl⟩)
  go_loopw [7, 8, 9] (fun p q i wr => ∃ k : Nat, k ≤ zs.length ∧ i = .int .i64 k ∧ p = .int .i64 (nearTo zs th k).1 ∧ q = .int .i64 (nearTo zs th k).2 ∧ Below w.heap.size w wr) (fun _ _ i _ => zs.length - (intOf i).toNat)
  case atStart => exact ⟨0, Nat.zero_le _, rfl, rfl, rfl, HB1.out⟩
  case round =>
    obtain ⟨k, hk, rfl, rfl, rfl, hbel⟩ := hrel
    by_cases hlt : k < zs.length
    · rcases HR.out.below hbel with h0 | ⟨b, bo, rfl, hb2, hc⟩
      · have := papers_length zs; rw [h0] at this; simp at this; omega
      obtain ⟨g0, g1, _⟩ := papers_get hlt
      have hc0 := hc _ _ g0
      have hc1 := hc _ _ g1
      simp only [← Nat.add_assoc] at hc1
      obtain ⟨q1, q2⟩ := paperOk_thick (papersOk_at HZ.out hlt)
      obtain ⟨q3, q4, _⟩ := nearTo_bd zs th HZ.out t1 t2 k hk
      have hst : nearTo zs th (k + 1) = if offOf zs[k] th < (nearTo zs th k).2 then (zs[k].id, offOf zs[k] th) else nearTo zs th k := by rw [nearTo, paper_getD hlt]
      have HB := Lib.hid hbel
      clear hc g0 g1 hbel
      by_cases hd : offOf zs[k] th < (nearTo zs th k).2
      · rw [if_pos hd] at hst
        have HST := Lib.hid hst
        unfold offOf at hd
        clear hst
        go_wp2_with fail
        go_quiet ((go_at_call 52; exact quiet_same (l1Most_any _ _ _)))
        go_wp2_with fail
        go_roundw
        case rel => exact ⟨k + 1, by omega, by go_num, by rw [HST.out], by rw [HST.out]; rfl, HB.out.trans ((Dr.of _ _).below _)⟩
        case measure => simp [intOf]; omega
      · rw [if_neg hd] at hst
        have HST := Lib.hid hst
        have hd2 : (nearTo zs th k).2 ≤ max (zs[k].thick - th) (th - zs[k].thick) := by unfold offOf at hd; omega
        clear hst hd
        go_wp2_with fail
        go_quiet ((go_at_call 52; exact quiet_same (l1Most_any _ _ _)))
        go_wp2_with fail
        go_roundw
        case rel => exact ⟨k + 1, by omega, by go_num, by rw [HST.out], by rw [HST.out], HB.out.trans ((Dr.of _ _).below _)⟩
        case measure => simp [intOf]; omega
    · have hk2 : k = zs.length := by omega
      have HK := Lib.hid hk2
      clear hk2
      go_wp2_with fail
      go_ret3
      exact ⟨by rw [HK.out]; rfl, hbel⟩
set_option maxHeartbeats 2000000 in
theorem implNear_any (a : Option Addr) (cap : Nat) (zs : List PaperT) (th : Int) (w : World) (hm : zs.length ≤ maxLen) (hr : Reads w a (papers zs)) (hfit : ∀ z ∈ zs, z.mark.size ≤ maxLen) :
    Calls Tryz.prog 18 #[.slice a zs.length cap, .int .i64 th] w fun e w' => e = .returned (.tuple #[.int .i64 (nearF zs th).1, .int .i64 (nearF zs th).2.1, .bool (nearF zs th).2.2]) ∧ Below w.heap.size w w' := by
  have hA := arePapers_any a cap zs w hm hr hfit
  unfold maxLen at hm
  cases e1 : papersOk zs
  · rw [e1] at hA
    have HA := Lib.hid hA
    rw [show nearF zs th = (0, 0, false) by simp [nearF, nearAsk, e1]]
    clear hA hr hfit
    go_enter Tryz.func18, Tryz.ntmps18
    go_wp2_with fail
    refine HA.out.mono ?_
    rintro e w1 ⟨rfl, hb⟩
    have HB := Lib.hid hb
    clear hb
    go_wp2_with fail
    go_ret3
    exact ⟨rfl, HB.out⟩
  rw [e1] at hA
  have HA := Lib.hid hA
  cases e2 : inB th 1 300
  · rw [show nearF zs th = (0, 0, false) by simp [nearF, nearAsk, e2]]
    clear hA hr hfit
    go_enter Tryz.func18, Tryz.ntmps18
    go_wp2_with fail
    refine HA.out.mono ?_
    rintro e w1 ⟨rfl, hb⟩
    have HB := Lib.hid hb
    clear hb
    go_wp2_with (go_at_call 50; refine (inRange_any _ _ _ _).mono ?_; rintro e w' ⟨rfl, rfl⟩)
    go_ret3
    exact ⟨rfl, HB.out⟩
  by_cases e3 : zs.length = 0
  · rw [show nearF zs th = (0, 0, false) by simp [nearF, nearAsk, e3]]
    have hl : (((zs.length : Nat) : Int) == 0) = true := by simp [e3]
    have hle : zs.length ≤ 0 := by omega
    clear hA hr hfit e3
    go_enter Tryz.func18, Tryz.ntmps18
    go_wp2_with fail
    refine HA.out.mono ?_
    rintro e w1 ⟨rfl, hb⟩
    have HB := Lib.hid hb
    clear hb
    go_wp2_with (go_at_call 50; refine (inRange_any _ _ _ _).mono ?_; rintro e w' ⟨rfl, rfl⟩)
    go_ret3
    exact ⟨rfl, HB.out⟩
  have hl : (((zs.length : Nat) : Int) == 0) = false := by rw [beq_eq_false_iff_ne]; omega
  have hpos : 0 < zs.length := by omega
  rw [show nearF zs th = ((nearTo zs th zs.length).1, (nearTo zs th zs.length).2, true) by simp [nearF, nearAsk, e1, e2, e3]]
  obtain ⟨t1, t2⟩ := inB_true.1 e2
  have HZ := Lib.hid e1
  have h10 := papersOk_len e1
  have HR := Lib.hid hr
  clear hA hr hfit e3 e1
  go_enter Tryz.func18, Tryz.ntmps18
  go_wp2_with fail
  refine HA.out.mono ?_
  rintro e w1 ⟨rfl, hb⟩
  have HB1 := Lib.hid hb
  clear hb
  go_wp2_with (go_at_call 50; refine (inRange_any _ _ _ _).mono ?_; rintro e w' ⟨rfl, rfl⟩)
  go_loopw [7, 8, 27] (fun p q i wr => ∃ k : Nat, k ≤ zs.length ∧ i = .int .i64 k ∧ p = .int .i64 (nearTo zs th k).1 ∧ q = .int .i64 (if k = 0 then -1 else (nearTo zs th k).2) ∧ Below w.heap.size w wr) (fun _ _ i _ => zs.length - (intOf i).toNat)
  case atStart => exact ⟨0, Nat.zero_le _, rfl, rfl, rfl, HB1.out⟩
  case round =>
    obtain ⟨k, hk, rfl, rfl, rfl, hbel⟩ := hrel
    by_cases hlt : k < zs.length
    · rcases HR.out.below hbel with h0 | ⟨b, bo, rfl, hb2, hc⟩
      · have := papers_length zs; rw [h0] at this; simp at this; omega
      obtain ⟨g0, g1, g2, g3, g4⟩ := papers_get hlt
      have hc0 := hc _ _ g0
      have hc1 := hc _ _ g1
      have hc2 := hc _ _ g2
      have hc3 := hc _ _ g3
      have hc4 := hc _ _ g4
      simp only [← Nat.add_assoc] at hc1 hc2 hc3 hc4
      obtain ⟨q1, q2⟩ := paperOk_thick (papersOk_at HZ.out hlt)
      obtain ⟨q3, q4, q5⟩ := nearTo_bd zs th HZ.out t1 t2 k hk
      have hst : nearTo zs th (k + 1) = if offOf zs[k] th < (nearTo zs th k).2 then (zs[k].id, offOf zs[k] th) else nearTo zs th k := by rw [nearTo, paper_getD hlt]
      have HB := Lib.hid (hbel.alloc hbel.size (.cells #[.int .i64 zs[k].id, .int .i64 zs[k].thick, .int .i64 zs[k].tint, .string zs[k].mark, .bool zs[k].laid] 25))
      clear hc g0 g1 g2 g3 g4 hbel
      by_cases hd : offOf zs[k] th < (nearTo zs th k).2
      · rw [if_pos hd] at hst
        have HST := Lib.hid hst
        have HD := Lib.hid (show offOf zs[k] th = max (zs[k].thick - th) (th - zs[k].thick) from rfl)
        unfold offOf at hd
        clear hst
        by_cases hk0 : k = 0
        · simp only [if_pos hk0]
          have HK0 := Lib.hid hk0
          clear q5 hk0
          go_wp2_with fail
          all_goals
            go_roundw
            case rel => exact ⟨k + 1, by omega, by go_num, by rw [HST.out], by rw [HST.out, HD.out, if_neg (show ¬ (k + 1 = 0) by omega)]; exact int_max (by omega), HB.out⟩
            case measure => simp [intOf]; omega
        · have hk1 : 0 < k := by omega
          simp only [if_neg hk0]
          have q6 := q5 hk1
          clear q5 hk0
          go_wp2_with fail
          all_goals
            go_roundw
            case rel => exact ⟨k + 1, by omega, by go_num, by rw [HST.out], by rw [HST.out, HD.out, if_neg (show ¬ (k + 1 = 0) by omega)]; exact int_max (by omega), HB.out⟩
            case measure => simp [intOf]; omega
      · have hd2 : (nearTo zs th k).2 ≤ max (zs[k].thick - th) (th - zs[k].thick) := by unfold offOf at hd; omega
        rw [if_neg hd] at hst
        have HST := Lib.hid hst
        by_cases hk0 : k = 0
        · subst hk0
          simp only [nearTo] at hd2
          omega
        · have hk1 : 0 < k := by omega
          simp only [if_neg hk0]
          have q6 := q5 hk1
          clear q5 hk0 hst hd
          go_wp2_with fail
          all_goals
            go_roundw
            case rel => exact ⟨k + 1, by omega, by go_num, by rw [HST.out], by rw [HST.out, if_neg (show ¬ (k + 1 = 0) by omega)], HB.out⟩
            case measure => simp [intOf]; omega
    · have hk2 : k = zs.length := by omega
      simp only [if_neg (show ¬ k = 0 by omega)]
      have HK := Lib.hid hk2
      clear hk2
      go_wp2_with fail
      go_ret3
      exact ⟨by rw [HK.out]; rfl, hbel⟩
end Go.Proofs.YtmnlkcclcnnhmaaGreatDoor
