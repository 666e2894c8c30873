/- Rows of texts and rows of places, told equal by a law. -/
import Derived.Test.YtenedmkjbmbapaaPairS
import Derived.Test.YtenedmkjbmbapaaMarkT
import Derived.ChangeKeysEq
namespace Go.Proofs.Ytenedmkjbmbapaa
open Go.RowKit

theorem neq_pair (a b : Int) (W : World) : (binOp .neq 54 (.agg #[.int .i64 a, .int .i64 b]) (.agg #[.int .i64 a, .int .i64 b])).run Try.prog W = .ok (.bool false) W := by
  obtain ⟨i0, hi, _⟩ := info_parts info_int
  have hc : Try.prog.cellsOf 3 = 1 := by kernel_rfl
  have he : Try.prog.plainKey 3 = true := by kernel_rfl
  have p0 : ∀ W, (part 3 #[.int .i64 a, .int .i64 b] 0).run Try.prog W = .ok (.int .i64 a) W := fun W => run_part_plain W he rfl
  have p1 : ∀ W, (part 3 #[.int .i64 a, .int .i64 b] 1).run Try.prog W = .ok (.int .i64 b) W := fun W => run_part_plain W he rfl
  have hi2 : ∀ W z, (Op.equalIn 9999 3 (.int .i64 z) (.int .i64 z)).run Try.prog W = .ok true W := fun W z => by
    rw [run_equalIn_int W 9998 3 .i64 .i64 z z Try.underlying3]; simp
  rw [run_neq_struct, run_equalIn_array W 9999 _ _ Try.underlying54 hi, hc]
  simp [Op.eqItems, List.range, List.range.loop, p0, p1, hi2]
set_option maxRecDepth 100000 in
set_option maxHeartbeats 1000000 in
theorem vPairs_same (a b : Option Addr) (ca cb : Nat) (ps : List (Int × Int)) (w : World) (hm : ps.length ≤ maxLen) (hx : Reads w a (pairs ps)) (hy : Reads w b (pairs ps)) :
    Calls Try.prog 28 #[.slice a ps.length ca, .slice b ps.length cb] w fun e w' => e = .returned (.bool true) ∧ Dr w w' := by
  unfold maxLen at hm
  have HX := Lib.hid hx
  have HY := Lib.hid hy
  clear hx hy
  go_enter Try.func28, Try.ntmps28
  go_wp2_with fail
  go_loopw [5] (fun i wr => ∃ k : Nat, k ≤ ps.length ∧ i = .int .i64 k ∧ Dr w wr) (fun i _ => ps.length - (intOf i).toNat)
  case atStart => exact ⟨0, Nat.zero_le _, rfl, Dr.refl _⟩
  case round =>
    obtain ⟨k, hk, rfl, hdr⟩ := hrel
    by_cases hlt : k < ps.length
    · rcases HX.out.dr hdr with h0 | ⟨b1, o1, rfl, hb1, hc1⟩
      · have := pairs_length ps; rw [h0] at this; simp at this; omega
      rcases HY.out.dr hdr with h0 | ⟨b2, o2, rfl, hb2, hc2⟩
      · have := pairs_length ps; rw [h0] at this; simp at this; omega
      obtain ⟨g0, g1⟩ := pairs_get hlt
      have c0 := hc1 _ _ g0
      have c1 := hc1 _ _ g1
      have d0 := hc2 _ _ g0
      have d1 := hc2 _ _ g1
      simp only [← Nat.add_assoc] at c1 d1
      have hn := neq_pair ps[k].1 ps[k].2
      have HDR := Lib.hid hdr
      clear hc1 hc2 g0 g1 hdr
      go_wp2_with fail
      go_quiet (fail)
      go_wp2_with fail
      go_roundw
      case rel => exact ⟨k + 1, by omega, by go_num, HDR.out.trans (Dr.of _ _)⟩
      case measure => simp [intOf]; omega
    · obtain rfl : k = ps.length := by omega
      go_wp2_with fail
      go_ret
      exact ⟨rfl, hdr⟩
set_option maxRecDepth 100000 in
set_option maxHeartbeats 1000000 in
theorem vTexts_same (a b : Option Addr) (ca cb : Nat) (xs : List ByteArray) (w : World) (hm : xs.length ≤ maxLen) (hx : Reads w a (strs xs)) (hy : Reads w b (strs xs)) :
    Calls Try.prog 35 #[.slice a xs.length ca, .slice b xs.length cb] w fun e w' => e = .returned (.bool true) ∧ Dr w w' := by
  unfold maxLen at hm
  have HX := Lib.hid hx
  have HY := Lib.hid hy
  clear hx hy
  go_enter Try.func35, Try.ntmps35
  go_wp2_with fail
  go_loopw [5] (fun i wr => ∃ k : Nat, k ≤ xs.length ∧ i = .int .i64 k ∧ Dr w wr) (fun i _ => xs.length - (intOf i).toNat)
  case atStart => exact ⟨0, Nat.zero_le _, rfl, Dr.refl _⟩
  case round =>
    obtain ⟨k, hk, rfl, hdr⟩ := hrel
    by_cases hlt : k < xs.length
    · rcases HX.out.dr hdr with h0 | ⟨b1, o1, rfl, hb1, hc1⟩
      · simp [strs] at h0; subst h0; simp at hlt
      rcases HY.out.dr hdr with h0 | ⟨b2, o2, rfl, hb2, hc2⟩
      · simp [strs] at h0; subst h0; simp at hlt
      have c0 := hc1 _ _ (strs_get hlt)
      have d0 := hc2 _ _ (strs_get hlt)
      have HDR := Lib.hid hdr
      clear hc1 hc2 hdr
      go_wp2_with fail
      go_quiet (fail)
      go_wp2_with fail
      go_roundw
      case rel => exact ⟨k + 1, by omega, by go_num, HDR.out.trans (Dr.of _ _)⟩
      case measure => simp [intOf]; omega
    · obtain rfl : k = xs.length := by omega
      go_wp2_with fail
      go_ret
      exact ⟨rfl, hdr⟩
end Go.Proofs.Ytenedmkjbmbapaa
