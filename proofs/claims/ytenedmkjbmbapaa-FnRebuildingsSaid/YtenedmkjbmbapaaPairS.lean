/- Rows of pairs: comparison and marks. -/
import Derived.Test.YtenedmkjbmbapaaPlaceS
import Derived.Test.YtenedmkjbmbapaaQuiet
import Derived.Test.YtenedmkjbmbapaaExt
namespace Go.Proofs.Ytenedmkjbmbapaa
open Go.RowKit

theorem two_rows (w : World) (p1 p2 : Int) : RowIs ((w.alloc (.cells #[.int .i64 p1, .int .i64 p2] 54)).alloc (.cells #[.int .i64 p1, .int .i64 p2] 54)) w.heap.size 54 [.int .i64 p1, .int .i64 p2] ∧
    RowIs ((w.alloc (.cells #[.int .i64 p1, .int .i64 p2] 54)).alloc (.cells #[.int .i64 p1, .int .i64 p2] 54)) (w.heap.size + 1) 54 [.int .i64 p1, .int .i64 p2] := by
  refine ⟨(RowIs.new w 54 [.int .i64 p1, .int .i64 p2]).alloc _, ?_⟩
  have := RowIs.new (w.alloc (.cells #[.int .i64 p1, .int .i64 p2] 54)) 54 [.int .i64 p1, .int .i64 p2]
  simpa using this
set_option maxHeartbeats 1000000 in
theorem eqIntA2_same (p : Int × Int) (w : World) :
    Calls Try.prog 63 #[.agg #[.int .i64 p.1, .int .i64 p.2], .agg #[.int .i64 p.1, .int .i64 p.2]] w fun e w' => e = .returned (.bool true) ∧ Below w.heap.size w w' := by
  obtain ⟨p1, p2⟩ := p
  have BX := Lib.hid (two_rows w p1 p2)
  have B0 := Lib.hid (Go.Joins.below_alloc2 w (.cells #[.int .i64 p1, .int .i64 p2] 54) (.cells #[.int .i64 p1, .int .i64 p2] 54))
  simp only
  go_enter Try.func63, Try.ntmps63
  go_wp2_with fail
  generalize (w.alloc (.cells #[.int .i64 p1, .int .i64 p2] 54)).alloc (.cells #[.int .i64 p1, .int .i64 p2] 54) = w0 at *
  go_loopw [5] (fun i wr => ∃ j : Nat, j ≤ 2 ∧ i = .int .i64 j ∧ Dr w0 wr) (fun i _ => 2 - (intOf i).toNat)
  case atStart => exact ⟨0, by omega, rfl, Dr.refl _⟩
  case round =>
    obtain ⟨j, hj, rfl, hd⟩ := hrel
    have HD := Lib.hid hd
    rcases (show j = 0 ∨ j = 1 ∨ j = 2 by omega) with rfl | rfl | rfl
    · have c1 := (BX.out.1.below (hd.below _)).cell (j := 0) rfl
      have c2 := (BX.out.2.below (hd.below _)).cell (j := 0) rfl
      clear hd
      go_wp2_with fail
      go_quiet (fail)
      go_wp2_with fail
      go_roundw
      case rel => exact ⟨1, by omega, by go_num, HD.out.trans (Dr.of _ _)⟩
      case measure => simp [intOf]
    · have c1 := (BX.out.1.below (hd.below _)).cell (j := 1) rfl
      have c2 := (BX.out.2.below (hd.below _)).cell (j := 1) rfl
      clear hd
      go_wp2_with fail
      go_quiet (fail)
      go_wp2_with fail
      go_roundw
      case rel => exact ⟨2, by omega, by go_num, HD.out.trans (Dr.of _ _)⟩
      case measure => simp [intOf]
    · clear hd
      go_wp2_with fail
      go_ret
      exact ⟨rfl, B0.out.trans ((HD.out.below _).mono B0.out.size)⟩
set_option maxHeartbeats 1000000 in
theorem eqIntA2S_same (a b : Option Addr) (ca cb : Nat) (ps : List (Int × Int)) (w : World) (hm : ps.length ≤ maxLen) (hx : Reads w a (pairs ps)) (hy : Reads w b (pairs ps)) :
    Calls Try.prog 15 #[.slice a ps.length ca, .slice b ps.length cb] w fun e w' => e = .returned (.bool true) ∧ Below w.heap.size w w' := by
  have HX := Lib.hid hx
  have HY := Lib.hid hy
  clear hx hy
  unfold maxLen at hm
  go_enter Try.func15, Try.ntmps15
  go_wp2_with fail
  go_loopw [5] (fun i wr => ∃ k : Nat, k ≤ ps.length ∧ i = .int .i64 k ∧ Below w.heap.size w wr) (fun i _ => ps.length - (intOf i).toNat)
  case atStart => exact ⟨0, Nat.zero_le _, rfl, Below.refl _ _⟩
  case round =>
    obtain ⟨k, hk, rfl, hbel⟩ := hrel
    have HB := Lib.hid hbel
    by_cases hlt : k < ps.length
    · rcases HX.out.below hbel with h0 | ⟨b1, o1, rfl, hb1, hc1⟩
      · have := pairs_length ps; rw [h0] at this; simp at this; omega
      rcases HY.out.below hbel with h0 | ⟨b2, o2, rfl, hb2, hc2⟩
      · have := pairs_length ps; rw [h0] at this; simp at this; omega
      obtain ⟨g0, g1⟩ := pairs_get hlt
      have c0 := hc1 _ _ g0
      have c1 := hc1 _ _ g1
      have d0 := hc2 _ _ g0
      have d1 := hc2 _ _ g1
      simp only [← Nat.add_assoc] at c1 d1
      have x0 : ∀ x : Ext wr, x.1.cell? ⟨b1, o1 + k * 2, none⟩ = some (.int .i64 ps[k].1) := fun x => (x.cell hb1).trans c0
      have x1 : ∀ x : Ext wr, x.1.cell? ⟨b1, o1 + k * 2 + 1, none⟩ = some (.int .i64 ps[k].2) := fun x => (x.cell hb1).trans c1
      have y0 : ∀ x : Ext wr, x.1.cell? ⟨b2, o2 + k * 2, none⟩ = some (.int .i64 ps[k].1) := fun x => (x.cell hb2).trans d0
      have y1 : ∀ x : Ext wr, x.1.cell? ⟨b2, o2 + k * 2 + 1, none⟩ = some (.int .i64 ps[k].2) := fun x => (x.cell hb2).trans d1
      have HC := Lib.hid (fun w => eqIntA2_same ps[k] w)
      clear hc1 hc2 c0 c1 d0 d1 g0 g1 hbel
      go_wp2_with fail
      refine wp_region_ext (by kernel_rfl) (by kernel_rfl) ?_
      repeat (go_big_quiet_step ((go_at_call 63; exact ext_call (HC.out _))))
      refine wpQuiet_nil ?_
      rintro _ ⟨x, rfl⟩
      go_wp2_with fail
      go_roundw
      case rel => exact ⟨k + 1, by omega, by go_num, HB.out.trans (x.2.mono HB.out.size)⟩
      case measure => simp [intOf]; omega
    · obtain rfl : k = ps.length := by omega
      clear hbel
      go_wp2_with fail
      go_ret
      exact ⟨rfl, HB.out⟩
set_option maxHeartbeats 1000000 in
theorem markIntA2S_any (a : Option Addr) (n cap base : Nat) (xs : List Value) (k : Int) (w : World) (hk : 0 ≤ k) (hk2 : k ≤ 549755813888) (hn : n ≤ 549755813888)
    (h : w.ownsRow base 54 2 (.slice a n cap) n xs) :
    Calls Try.prog 18 #[.slice a n cap, .int .i64 k] w fun e w' => e = .returned (.int .i64 (k + ((n * 2 : Nat) : Int))) ∧ w'.ownsRow base 54 2 (.slice a n cap) n (ints (cnt k (n * 2))) ∧ w.grownBy w' (Value.slice a n cap).ownBlock := by
  have hl : xs.length = n * 2 := h.1
  have H := Lib.hid h
  clear h
  go_enter Try.func18, Try.ntmps18
  go_wp2_with fail
  go_loopw [1, 5] (fun q i wr => ∃ j : Nat, j ≤ n ∧ i = .int .i64 j ∧ q = .int .i64 (k + ((j * 2 : Nat) : Int)) ∧ wr.ownsRow base 54 2 (.slice a n cap) n (ints (cnt k (j * 2)) ++ xs.drop (j * 2)) ∧ w.grownBy wr (Value.slice a n cap).ownBlock) (fun _ i _ => n - (intOf i).toNat)
  case atStart => exact ⟨0, Nat.zero_le _, rfl, by go_num, by simpa [cnt] using H.out, World.grownBy.refl _ _⟩
  case round =>
    obtain ⟨j, hj, rfl, rfl, hown, hgr⟩ := hrel
    have HO := Lib.hid hown
    have HG := Lib.hid hgr
    by_cases hlt : j < n
    · obtain ⟨g, rfl, hb, hg⟩ := own_form hown (by omega)
      clear hown hgr hb hg
      go_wp2_with fail
      go_loopw [1, 6] (fun q i wr => ∃ m : Nat, m ≤ 2 ∧ i = .int .i64 m ∧ q = .int .i64 (k + ((j * 2 + m : Nat) : Int)) ∧ wr.ownsRow base 54 2 (.slice (some ⟨g, 0, none⟩) n cap) n (ints (cnt k (j * 2 + m)) ++ xs.drop (j * 2 + m)) ∧ w.grownBy wr (Value.slice (some ⟨g, 0, none⟩) n cap).ownBlock) (fun _ i _ => 2 - (intOf i).toNat)
      case atStart => exact ⟨0, by omega, rfl, by go_num, HO.out, HG.out⟩
      case round =>
        obtain ⟨m, hm, rfl, rfl, hown, hgr⟩ := hrel
        by_cases hm2 : m < 2
        · have hc := hown.cellAt (j * 2 + m) (by omega)
          rw [List.getElem?_append_right (by simp [cnt_length]), List.getElem?_drop, show j * 2 + m + (j * 2 + m - (ints (cnt k (j * 2 + m))).length) = j * 2 + m from by simp [cnt_length], List.getElem?_eq_getElem (by omega)] at hc
          have hf := hown.frozenAt (j * 2 + m)
          have hst := hown.stored (j * 2 + m) (.int .i64 (k + ((j * 2 + m : Nat) : Int)))
          rw [markInts_step (by omega)] at hst
          have HO2 := Lib.hid hst.1
          have HG2 := Lib.hid (grownBy_trans hgr hst.2)
          clear hown hgr hst
          go_wp2_with fail
          go_roundw
          case rel => exact ⟨m + 1, by omega, by go_num, by go_num, HO2.out, HG2.out⟩
          case measure => simp [intOf]; omega
        · obtain rfl : m = 2 := by omega
          have HO2 := Lib.hid hown
          have HG2 := Lib.hid hgr
          clear hown hgr
          go_wp2_with fail
          go_roundw
          case rel => exact ⟨j + 1, by omega, by go_num, by go_num, by rw [show (j + 1) * 2 = j * 2 + 2 by omega]; exact HO2.out, HG2.out⟩
          case measure => simp [intOf]; omega
    · obtain rfl : j = n := by omega
      have HO2 : Hid (wr.ownsRow base 54 2 (.slice a j cap) j (ints (cnt k (j * 2)))) := Lib.hid (by
        rw [List.drop_eq_nil_of_le (by omega), List.append_nil] at hown; exact hown)
      clear hown hgr
      go_wp2_with fail
      go_ret
      exact ⟨rfl, HO2.out, HG.out⟩
set_option maxHeartbeats 1000000 in
theorem heldIntA2S_any (a : Option Addr) (n cap : Nat) (k : Int) (w : World) (hk : 0 ≤ k) (hk2 : k ≤ 549755813888) (hn : n ≤ 549755813888) (h : Reads w a (ints (cnt k (n * 2)))) :
    Calls Try.prog 20 #[.slice a n cap, .int .i64 k] w fun e w' => e = .returned (.int .i64 (k + ((n * 2 : Nat) : Int))) ∧ w = w' := by
  have H := Lib.hid h
  clear h
  go_enter Try.func20, Try.ntmps20
  go_wp2_with fail
  go_loop [1, 5] (fun q i => ∃ j : Nat, j ≤ n ∧ i = .int .i64 j ∧ q = .int .i64 (k + ((j * 2 : Nat) : Int))) (fun _ i => n - (intOf i).toNat)
  case atStart => exact ⟨0, Nat.zero_le _, rfl, by go_num⟩
  case round =>
    obtain ⟨j, hj, rfl, rfl⟩ := hrel
    by_cases hlt : j < n
    · rcases H.out with h0 | ⟨b, off, rfl, hb2, hc⟩
      · have : (ints (cnt k (n * 2))).length = 0 := by rw [h0]; rfl
        simp [cnt_length] at this; omega
      have HC := Lib.hid hc
      clear hc
      go_wp2_with fail
      go_loop [1, 6] (fun q i => ∃ m : Nat, m ≤ 2 ∧ i = .int .i64 m ∧ q = .int .i64 (k + ((j * 2 + m : Nat) : Int))) (fun _ i => 2 - (intOf i).toNat)
      case atStart => exact ⟨0, by omega, rfl, by go_num⟩
      case round =>
        obtain ⟨m, hm, rfl, rfl⟩ := hrel
        by_cases hm2 : m < 2
        · have hc1 := HC.out (j * 2 + m) _ (cnt_get (by omega))
          simp only [← Nat.add_assoc] at hc1
          go_wp2_with fail
          go_round
          case rel => exact ⟨m + 1, by omega, by go_num, by go_num⟩
          case measure => simp [intOf]; omega
        · obtain rfl : m = 2 := by omega
          go_wp2_with fail
          go_round
          case rel => exact ⟨j + 1, by omega, by go_num, by go_num⟩
          case measure => simp [intOf]; omega
    · obtain rfl : j = n := by omega
      go_wp2_with fail
      go_ret
      exact ⟨rfl, rfl⟩
end Go.Proofs.Ytenedmkjbmbapaa
