/- The draws of positions, and the law FnTurned. -/
import Derived.Test.YtolajlkijeaacaaCur
import Derived.Test.YtolajlkijeaacaaPos
import Derived.Test.YtolajlkijeaacaaPosN
namespace Go.Proofs.Ytolajlkijeaacaa
open Go.RowKit

def poss : List Int := [0, 1, 2, 3, 4, 5, 6, 7, -1, 8]
theorem poss_bd {r : Int} (h : r ∈ poss) : -1 ≤ r ∧ r ≤ 8 := by
  simp only [poss, List.mem_cons, List.not_mem_nil, or_false] at h
  omega
set_option maxRecDepth 100000 in
set_option maxHeartbeats 1000000 in
theorem position3_any (g n : Nat) (w : World) (h : Cur w g n) (hn : n ≤ 1048000) : Calls Try.prog 25 #[.pointer (some ⟨g, 0, none⟩)] w (Drawn w g (n + 4) (fun r => -1 ≤ r ∧ r ≤ 8)) := by
  have hb1 := Go.Joins.below_alloc1 w (.cells (ints poss).toArray 3)
  have HC := Lib.hid (h.below hb1)
  have HG := Lib.hid (below_grown' hb1 (some g))
  have HROW := Lib.hid (RowIs.new w 3 (ints poss))
  have hlt := h.lt
  have HP := Lib.hid (fun w h => pick_any g n 24 w h (by omega) (by omega) (by omega))
  have HA := Lib.hid (fun k (hk : 2 ≤ k) (hk2 : k ≤ 10) c wx h hr => among_any g (n + 2) c (some ⟨w.heap.size, 0, none⟩) (poss.take k) wx h (by omega) (by simp [poss]; omega) (by simp [poss]; omega) hr (fun p hp => by injection hp with hp; rw [← hp]; show w.heap.size ≠ g; omega))
  clear h hb1
  go_enter Try.func25, Try.ntmps25
  go_wp2_with fail
  refine (HP.out _ HC.out).mono ?_
  rintro e w1 ⟨x, rfl, ⟨x1, x2⟩, hc1, hg1⟩
  have HC1 := Lib.hid hc1
  have HG1 := Lib.hid (grownBy_trans HG.out hg1)
  have HR1 := Lib.hid (HROW.out.grown hg1 (by intro e; injection e with e; omega))
  clear hg1 hc1 HG HC HP
  rcases (show x / 11 = 0 ∨ x / 11 = 1 ∨ x / 11 = 2 by omega) with hx | hx | hx
  · have HK := HA.out 8 (by omega) (by omega) 10 _ HC1.out (by
      have h9 := HR1.out.reads
      rcases h9 with h0 | ⟨b, off, h1, h2, h3⟩
      · cases h0
      · exact .inr ⟨b, off, h1, h2, fun j u hu => h3 j u (by
          rw [ints, List.map_take, List.getElem?_take] at hu
          split at hu
          · exact hu
          · cases hu)⟩)
    rw [show (poss.take 8).length = 8 from rfl] at HK
    have HKH := Lib.hid HK
    clear HK
    go_wp2_with fail
    refine HKH.out.mono ?_
    rintro e w2 ⟨y, rfl, hy, hc2, hg2⟩
    have HY := Lib.hid (poss_bd (List.mem_of_mem_take hy))
    have HC2 := Lib.hid hc2
    have HG2 := Lib.hid (grownBy_trans HG1.out hg2)
    clear hy hc2 hg2
    go_wp2_with fail
    go_ret
    exact ⟨_, rfl, HY.out, HC2.out, HG2.out⟩
  · have HK := HA.out 9 (by omega) (by omega) 10 _ HC1.out (by
      have h9 := HR1.out.reads
      rcases h9 with h0 | ⟨b, off, h1, h2, h3⟩
      · cases h0
      · exact .inr ⟨b, off, h1, h2, fun j u hu => h3 j u (by
          rw [ints, List.map_take, List.getElem?_take] at hu
          split at hu
          · exact hu
          · cases hu)⟩)
    rw [show (poss.take 9).length = 9 from rfl] at HK
    have HKH := Lib.hid HK
    clear HK
    go_wp2_with fail
    refine HKH.out.mono ?_
    rintro e w2 ⟨y, rfl, hy, hc2, hg2⟩
    have HY := Lib.hid (poss_bd (List.mem_of_mem_take hy))
    have HC2 := Lib.hid hc2
    have HG2 := Lib.hid (grownBy_trans HG1.out hg2)
    clear hy hc2 hg2
    go_wp2_with fail
    go_ret
    exact ⟨_, rfl, HY.out, HC2.out, HG2.out⟩
  · have HK := HA.out 10 (by omega) (by omega) 10 _ HC1.out (by
      have h9 := HR1.out.reads
      rcases h9 with h0 | ⟨b, off, h1, h2, h3⟩
      · cases h0
      · exact .inr ⟨b, off, h1, h2, fun j u hu => h3 j u (by
          rw [ints, List.map_take, List.getElem?_take] at hu
          split at hu
          · exact hu
          · cases hu)⟩)
    rw [show (poss.take 10).length = 10 from rfl] at HK
    have HKH := Lib.hid HK
    clear HK
    go_wp2_with fail
    refine HKH.out.mono ?_
    rintro e w2 ⟨y, rfl, hy, hc2, hg2⟩
    have HY := Lib.hid (poss_bd (List.mem_of_mem_take hy))
    have HC2 := Lib.hid hc2
    have HG2 := Lib.hid (grownBy_trans HG1.out hg2)
    clear hy hc2 hg2
    go_wp2_with fail
    go_ret
    exact ⟨_, rfl, HY.out, HC2.out, HG2.out⟩
/-- a fresh cursor over the code -/
theorem cur_new {w : World} {a : Option Addr} {cs : List Int} (cap : Nat) (hm : cs.length ≤ maxLen) (hr : Reads w a (bytesV cs)) (hz : ∀ z ∈ cs, 0 ≤ z ∧ z ≤ 255):
    Cur (w.alloc (.cells #[.slice a cs.length cap, .int .i64 0, .int .u64 0] 47)) w.heap.size 0 :=
  ⟨a, cap, 0, 0, cs, RowIs.new w 47 [.slice a cs.length cap, .int .i64 0, .int .u64 0], Nat.le_refl _, hm, hz, hr.below (Go.Joins.below_alloc1 w _), by
    rcases hr with h0 | ⟨b, off, rfl, hb, _⟩
    · left; simpa [bytesV] using h0
    · right; intro q hq; injection hq with hq; rw [← hq]; exact hb⟩
theorem below_cur {w w' : World} {o : Obj} (h : (w.alloc o).grownBy w' (some w.heap.size)) : Below w.heap.size w w' :=
  (Go.Joins.below_alloc1 w o).grown h (by simp) (fun q hq => by injection hq with hq; omega)
set_option maxHeartbeats 1000000 in
theorem drawJoin_any (a : Option Addr) (cap : Nat) (cs : List Int) (w : World) (hm : cs.length ≤ maxLen) (hr : Reads w a (bytesV cs)) (hz : ∀ z ∈ cs, 0 ≤ z ∧ z ≤ 255):
    Calls Try.prog 6 #[.slice a cs.length cap] w fun e w' => ∃ x y : Int, e = .returned (.tuple #[.int .i64 x, .int .i64 y]) ∧ (-1 ≤ x ∧ x ≤ 8) ∧ (-1 ≤ y ∧ y ≤ 8) ∧ Below w.heap.size w w' := by
  have HC := Lib.hid (cur_new cap hm hr hz)
  have HP := Lib.hid (fun w n h hn => position3_any w.heap.size n w h hn)
  have HP2 := Lib.hid (fun g w n h hn => position3_any g n w h hn)
  clear hr hz HP
  go_enter Try.func6, Try.ntmps6
  go_wp2_with fail
  refine (HP2.out _ _ 0 HC.out (by omega)).mono ?_
  rintro e w1 ⟨x, rfl, hx, hc1, hg1⟩
  have HX := Lib.hid hx
  have HC1 := Lib.hid hc1
  have HG1 := Lib.hid hg1
  clear hx hc1 hg1
  go_wp2_with fail
  refine (HP2.out _ _ _ HC1.out (by omega)).mono ?_
  rintro e w2 ⟨y, rfl, hy, hc2, hg2⟩
  have HY := Lib.hid hy
  have HB := Lib.hid (below_cur (grownBy_trans HG1.out hg2))
  clear hy hc2 hg2
  go_wp2_with fail
  go_ret2
  exact ⟨_, _, rfl, HX.out, HY.out, HB.out⟩
set_option maxHeartbeats 1000000 in
theorem drawUndo_any (a : Option Addr) (cap : Nat) (cs : List Int) (w : World) (hm : cs.length ≤ maxLen) (hr : Reads w a (bytesV cs)) (hz : ∀ z ∈ cs, 0 ≤ z ∧ z ≤ 255):
    Calls Try.prog 9 #[.slice a cs.length cap] w fun e w' => ∃ x : Int, e = .returned (.int .i64 x) ∧ (-1 ≤ x ∧ x ≤ 8) ∧ Below w.heap.size w w' := by
  have HC := Lib.hid (cur_new cap hm hr hz)
  have HP2 := Lib.hid (fun g w n h hn => position3_any g n w h hn)
  clear hr hz
  go_enter Try.func9, Try.ntmps9
  go_wp2_with fail
  refine (HP2.out _ _ 0 HC.out (by omega)).mono ?_
  rintro e w1 ⟨x, rfl, hx, hc1, hg1⟩
  have HX := Lib.hid hx
  have HB := Lib.hid (below_cur hg1)
  clear hx hc1 hg1
  go_wp2_with fail
  go_ret
  exact ⟨_, rfl, HX.out, HB.out⟩
theorem rBig_any (a : Option Addr) (len cap : Nat) (w : World) (hm : len ≤ maxLen) : Calls Try.prog 5 #[.slice a len cap] w fun e w' => e = .returned (.bool (decide (65536 < len))) ∧ w = w' := by
  unfold maxLen at hm
  go_enter Try.func5, Try.ntmps5
  go_wp2_with fail
  go_ret
  exact ⟨ret_bool (by rw [decide_eq_decide]; omega), rfl⟩
theorem joinF_assoc {a b c : Int} (h3 : 0 ≤ b) (h4 : b ≤ 7) (h5 : 0 ≤ c) (h6 : c ≤ 7) : joinF (joinF a b) c = joinF a (joinF b c) := by
  unfold joinF
  split <;> split <;> split <;> (try split) <;> omega
theorem joinF_back {a : Int} (h1 : 0 ≤ a) (h2 : a ≤ 7) : joinF (joinF a 4) 4 = a := by
  unfold joinF; simp; omega
theorem joinF_undo {a : Int} (h1 : 0 ≤ a) (h2 : a ≤ 7) : joinF a (undoF a) = 0 ∧ joinF (undoF a) a = 0 := by
  refine ⟨(joinF_zero h1 h2 (undoF_bd h1 h2).1 (undoF_bd h1 h2).2).2 rfl, ?_⟩
  unfold joinF undoF
  split <;> split <;> omega
theorem posJoin_in {a b : Int} (h1 : 0 ≤ a ∧ a ≤ 7) (h2 : 0 ≤ b ∧ b ≤ 7) : posJoin a b = (joinF a b, true) := by simp [posJoin, inB_true.2 h1, inB_true.2 h2]
theorem posUndo_in {a : Int} (h1 : 0 ≤ a ∧ a ≤ 7) : posUndo a = (undoF a, true) := by simp [posUndo, inB_true.2 h1]
theorem posBack_in {a : Int} (h1 : 0 ≤ a ∧ a ≤ 7) : posBack a = (joinF a 4, true) := by simp [posBack, inB_true.2 h1]
theorem pos_out {a : Int} (h1 : ¬ (0 ≤ a ∧ a ≤ 7)) : posUndo a = (0, false) ∧ posBack a = (0, false) := by
  have : inB a 0 7 = false := by rw [Bool.eq_false_iff]; intro h; exact h1 (inB_true.1 h)
  simp [posUndo, posBack, this]
theorem posJoin_out {a b : Int} (h1 : ¬ ((0 ≤ a ∧ a ≤ 7) ∧ 0 ≤ b ∧ b ≤ 7)) : posJoin a b = (0, false) := by
  rw [posJoin, if_neg]
  rintro ⟨h2, h3⟩
  exact h1 ⟨inB_true.1 h2, inB_true.1 h3⟩
set_option maxRecDepth 100000 in
set_option maxHeartbeats 8000000 in
theorem FnTurned_walk {w : World} (x : Slc × List Int) (h : BytesIn w x.1 x.2) : Calls Try.prog 3 #[x.1.val] w fun e w' => e = .returned (.bool true) ∧ Below w.heap.size w w' := by
  obtain ⟨⟨ad, len, cap⟩, cs⟩ := x
  obtain ⟨hs, hm, hr, hz⟩ := h
  simp only at hs hm hr hz
  subst hs
  have HR := Lib.hid hr
  have HM := Lib.hid hm
  have HZ := Lib.hid hz
  have hR := fun w => rBig_any ad cs.length cap w hm
  clear hr hz
  by_cases hbig : 65536 < cs.length
  · rw [decide_eq_true hbig] at hR
    have HRB := Lib.hid hR
    clear hR hm hbig
    go_enter Try.func3, Try.ntmps3
    go_wp2_with fail
    refine (HRB.out _).mono ?_
    rintro e _ ⟨rfl, rfl⟩
    go_wp2_with fail
    go_ret
    exact ⟨rfl, Below.refl _ _⟩
  rw [decide_eq_false hbig] at hR
  have HRB := Lib.hid hR
  clear hR hm hbig
  go_enter Try.func3, Try.ntmps3
  go_wp2_with fail
  refine (HRB.out _).mono ?_
  rintro e _ ⟨rfl, rfl⟩
  go_wp2_with fail
  refine (drawJoin_any _ _ cs _ HM.out HR.out HZ.out).mono ?_
  rintro e w1 ⟨a, b, rfl, ha, hb', hb⟩
  have HB1 := Lib.hid hb
  clear hb
  by_cases hab : (0 ≤ a ∧ a ≤ 7) ∧ 0 ≤ b ∧ b ≤ 7
  · obtain ⟨hA, hB⟩ := hab
    have hpj := posJoin_in hA hB
    have h1 := fun w => specJoin_any a b w
    have h2 := fun w => implJoin_any a b w
    rw [hpj] at h1 h2
    have H1 := Lib.hid h1
    have H2 := Lib.hid h2
    have hAB := joinF_bd hA.1 hA.2 hB.1 hB.2
    obtain ⟨ab, hab⟩ : ∃ ab, ab = joinF a b := ⟨_, rfl⟩
    rw [← hab] at H1 H2 hAB
    have HAB := Lib.hid hab
    clear hab hpj h1 h2 ha hb'
    go_wp2_with fail
    refine (H2.out _).mono ?_
    rintro e _ ⟨rfl, rfl⟩
    go_wp2_with fail
    refine (H1.out _).mono ?_
    rintro e _ ⟨rfl, rfl⟩
    go_wp2_with fail
    go_loop [9] (fun i => ∃ c : Nat, c ≤ 8 ∧ i = .int .i64 c) (fun i => 8 - (intOf i).toNat)
    case atStart => exact ⟨0, by omega, rfl⟩
    case round =>
      obtain ⟨c, hc, rfl⟩ := hrel
      by_cases hlt : c < 8
      · have hC : 0 ≤ (c : Int) ∧ (c : Int) ≤ 7 := by omega
        have hBC := joinF_bd hB.1 hB.2 hC.1 hC.2
        have q1 := fun w => implJoin_any b (c : Int) w
        have q2 := fun w => implJoin_any ab (c : Int) w
        have q3 := fun w => implJoin_any a (joinF b (c : Int)) w
        rw [posJoin_in hB hC] at q1
        rw [posJoin_in hAB hC, HAB.out, joinF_assoc hB.1 hB.2 hC.1 hC.2, ← HAB.out] at q2
        rw [posJoin_in hA hBC] at q3
        generalize joinF b (c : Int) = bc at q1 q2 q3
        have Q1 := Lib.hid q1
        have Q2 := Lib.hid q2
        have Q3 := Lib.hid q3
        clear q1 q2 q3 hBC hC
        go_wp2_with fail
        refine (Q1.out _).mono ?_
        rintro e _ ⟨rfl, rfl⟩
        go_wp2_with fail
        refine (Q2.out _).mono ?_
        rintro e _ ⟨rfl, rfl⟩
        go_wp2_with fail
        refine (Q3.out _).mono ?_
        rintro e _ ⟨rfl, rfl⟩
        go_wp2_with fail
        go_round
        case rel => exact ⟨c + 1, by omega, by go_num⟩
        case measure => simp [intOf]; omega
      · clear H1 H2 hAB HAB hA hB
        go_wp2_with fail
        refine (drawUndo_any _ _ cs _ HM.out (HR.out.below HB1.out) HZ.out).mono ?_
        rintro e w2 ⟨x, rfl, hx, hb⟩
        have HB2 := Lib.hid (HB1.out.trans (hb.mono HB1.out.size))
        clear hb
        obtain ⟨s, bb, n1, n2⟩ := name_key x
        have N1 := Lib.hid n1
        have N2 := Lib.hid n2
        clear n1 n2
        by_cases hX : 0 ≤ x ∧ x ≤ 7
        · have u1 := fun w => specUndo_any x w
          have u2 := fun w => implUndo_any x w
          have b1 := fun w => specBack_any x w
          have b2 := fun w => implBack_any x w
          have hU := undoF_bd hX.1 hX.2
          have j1 := fun w => implJoin_any x (undoF x) w
          have j2 := fun w => implJoin_any (undoF x) x w
          have hK := joinF_bd hX.1 hX.2 (show (0 : Int) ≤ 4 by omega) (show (4 : Int) ≤ 7 by omega)
          have b3 := fun w => implBack_any (joinF x 4) w
          rw [posUndo_in hX] at u1 u2
          rw [posBack_in hX] at b1 b2
          rw [posJoin_in hX hU, (joinF_undo hX.1 hX.2).1] at j1
          rw [posJoin_in hU hX, (joinF_undo hX.1 hX.2).2] at j2
          rw [posBack_in hK, joinF_back hX.1 hX.2] at b3
          generalize undoF x = y at u1 u2 j1 j2
          generalize joinF x 4 = k at b1 b2 b3
          have U1 := Lib.hid u1
          have U2 := Lib.hid u2
          have K1 := Lib.hid b1
          have K2 := Lib.hid b2
          have K3 := Lib.hid b3
          have J1 := Lib.hid j1
          have J2 := Lib.hid j2
          clear u1 u2 b1 b2 b3 j1 j2 hU hK hX hx
          go_wp2_with fail
          refine (U2.out _).mono ?_
          rintro e _ ⟨rfl, rfl⟩
          go_wp2_with fail
          refine (U1.out _).mono ?_
          rintro e _ ⟨rfl, rfl⟩
          go_wp2_with fail
          refine (K2.out _).mono ?_
          rintro e _ ⟨rfl, rfl⟩
          go_wp2_with fail
          refine (K1.out _).mono ?_
          rintro e _ ⟨rfl, rfl⟩
          go_wp2_with fail
          refine (J1.out _).mono ?_
          rintro e _ ⟨rfl, rfl⟩
          go_wp2_with fail
          refine (J2.out _).mono ?_
          rintro e _ ⟨rfl, rfl⟩
          go_wp2_with fail
          refine (K3.out _).mono ?_
          rintro e _ ⟨rfl, rfl⟩
          go_wp2_with fail
          refine (N2.out _).mono ?_
          rintro e w3 ⟨rfl, hb⟩
          have HB3 := Lib.hid (HB2.out.trans (hb.mono HB2.out.size))
          clear hb
          go_wp2_with fail
          refine (N1.out _).mono ?_
          rintro e w4 ⟨rfl, hb⟩
          have HB4 := Lib.hid (HB3.out.trans (hb.mono HB3.out.size))
          clear hb
          go_wp2_with fail
          go_ret
          exact ⟨rfl, HB4.out⟩
        · have u1 := fun w => specUndo_any x w
          have u2 := fun w => implUndo_any x w
          have b1 := fun w => specBack_any x w
          have b2 := fun w => implBack_any x w
          rw [(pos_out hX).1] at u1 u2
          rw [(pos_out hX).2] at b1 b2
          have U1 := Lib.hid u1
          have U2 := Lib.hid u2
          have K1 := Lib.hid b1
          have K2 := Lib.hid b2
          clear u1 u2 b1 b2 hX hx
          go_wp2_with fail
          refine (U2.out _).mono ?_
          rintro e _ ⟨rfl, rfl⟩
          go_wp2_with fail
          refine (U1.out _).mono ?_
          rintro e _ ⟨rfl, rfl⟩
          go_wp2_with fail
          refine (K2.out _).mono ?_
          rintro e _ ⟨rfl, rfl⟩
          go_wp2_with fail
          refine (K1.out _).mono ?_
          rintro e _ ⟨rfl, rfl⟩
          go_wp2_with fail
          refine (N2.out _).mono ?_
          rintro e w3 ⟨rfl, hb⟩
          have HB3 := Lib.hid (HB2.out.trans (hb.mono HB2.out.size))
          clear hb
          go_wp2_with fail
          refine (N1.out _).mono ?_
          rintro e w4 ⟨rfl, hb⟩
          have HB4 := Lib.hid (HB3.out.trans (hb.mono HB3.out.size))
          clear hb
          go_wp2_with fail
          go_ret
          exact ⟨rfl, HB4.out⟩
  · have hpj := posJoin_out hab
    have h1 := fun w => specJoin_any a b w
    have h2 := fun w => implJoin_any a b w
    rw [hpj] at h1 h2
    have H1 := Lib.hid h1
    have H2 := Lib.hid h2
    clear hpj h1 h2 ha hb' hab
    go_wp2_with fail
    refine (H2.out _).mono ?_
    rintro e _ ⟨rfl, rfl⟩
    go_wp2_with fail
    refine (H1.out _).mono ?_
    rintro e _ ⟨rfl, rfl⟩
    clear H1 H2
    go_wp2_with fail
    refine (drawUndo_any _ _ cs _ HM.out (HR.out.below HB1.out) HZ.out).mono ?_
    rintro e w2 ⟨x, rfl, hx, hb⟩
    have HB2 := Lib.hid (HB1.out.trans (hb.mono HB1.out.size))
    clear hb
    obtain ⟨s, bb, n1, n2⟩ := name_key x
    have N1 := Lib.hid n1
    have N2 := Lib.hid n2
    clear n1 n2
    by_cases hX : 0 ≤ x ∧ x ≤ 7
    · have u1 := fun w => specUndo_any x w
      have u2 := fun w => implUndo_any x w
      have b1 := fun w => specBack_any x w
      have b2 := fun w => implBack_any x w
      have hU := undoF_bd hX.1 hX.2
      have j1 := fun w => implJoin_any x (undoF x) w
      have j2 := fun w => implJoin_any (undoF x) x w
      have hK := joinF_bd hX.1 hX.2 (show (0 : Int) ≤ 4 by omega) (show (4 : Int) ≤ 7 by omega)
      have b3 := fun w => implBack_any (joinF x 4) w
      rw [posUndo_in hX] at u1 u2
      rw [posBack_in hX] at b1 b2
      rw [posJoin_in hX hU, (joinF_undo hX.1 hX.2).1] at j1
      rw [posJoin_in hU hX, (joinF_undo hX.1 hX.2).2] at j2
      rw [posBack_in hK, joinF_back hX.1 hX.2] at b3
      generalize undoF x = y at u1 u2 j1 j2
      generalize joinF x 4 = k at b1 b2 b3
      have U1 := Lib.hid u1
      have U2 := Lib.hid u2
      have K1 := Lib.hid b1
      have K2 := Lib.hid b2
      have K3 := Lib.hid b3
      have J1 := Lib.hid j1
      have J2 := Lib.hid j2
      clear u1 u2 b1 b2 b3 j1 j2 hU hK hX hx
      go_wp2_with fail
      refine (U2.out _).mono ?_
      rintro e _ ⟨rfl, rfl⟩
      go_wp2_with fail
      refine (U1.out _).mono ?_
      rintro e _ ⟨rfl, rfl⟩
      go_wp2_with fail
      refine (K2.out _).mono ?_
      rintro e _ ⟨rfl, rfl⟩
      go_wp2_with fail
      refine (K1.out _).mono ?_
      rintro e _ ⟨rfl, rfl⟩
      go_wp2_with fail
      refine (J1.out _).mono ?_
      rintro e _ ⟨rfl, rfl⟩
      go_wp2_with fail
      refine (J2.out _).mono ?_
      rintro e _ ⟨rfl, rfl⟩
      go_wp2_with fail
      refine (K3.out _).mono ?_
      rintro e _ ⟨rfl, rfl⟩
      go_wp2_with fail
      refine (N2.out _).mono ?_
      rintro e w3 ⟨rfl, hb⟩
      have HB3 := Lib.hid (HB2.out.trans (hb.mono HB2.out.size))
      clear hb
      go_wp2_with fail
      refine (N1.out _).mono ?_
      rintro e w4 ⟨rfl, hb⟩
      have HB4 := Lib.hid (HB3.out.trans (hb.mono HB3.out.size))
      clear hb
      go_wp2_with fail
      go_ret
      exact ⟨rfl, HB4.out⟩
    · have u1 := fun w => specUndo_any x w
      have u2 := fun w => implUndo_any x w
      have b1 := fun w => specBack_any x w
      have b2 := fun w => implBack_any x w
      rw [(pos_out hX).1] at u1 u2
      rw [(pos_out hX).2] at b1 b2
      have U1 := Lib.hid u1
      have U2 := Lib.hid u2
      have K1 := Lib.hid b1
      have K2 := Lib.hid b2
      clear u1 u2 b1 b2 hX hx
      go_wp2_with fail
      refine (U2.out _).mono ?_
      rintro e _ ⟨rfl, rfl⟩
      go_wp2_with fail
      refine (U1.out _).mono ?_
      rintro e _ ⟨rfl, rfl⟩
      go_wp2_with fail
      refine (K2.out _).mono ?_
      rintro e _ ⟨rfl, rfl⟩
      go_wp2_with fail
      refine (K1.out _).mono ?_
      rintro e _ ⟨rfl, rfl⟩
      go_wp2_with fail
      refine (N2.out _).mono ?_
      rintro e w3 ⟨rfl, hb⟩
      have HB3 := Lib.hid (HB2.out.trans (hb.mono HB2.out.size))
      clear hb
      go_wp2_with fail
      refine (N1.out _).mono ?_
      rintro e w4 ⟨rfl, hb⟩
      have HB4 := Lib.hid (HB3.out.trans (hb.mono HB3.out.size))
      clear hb
      go_wp2_with fail
      go_ret
      exact ⟨rfl, HB4.out⟩
end Go.Proofs.Ytolajlkijeaacaa
