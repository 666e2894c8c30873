/- Combs that are valid, with rising ids. -/
import Derived.Test.YtidiecffahaojaaCombS
import Derived.Test.YtidiecffahaojaaScalar
import Derived.Test.YtidiecffahaojaaExt
namespace Go.Proofs.Ytidiecffahaojaa
open Go.RowKit

def combOk (c : CombT) : Bool := inB c.id 1 99 && inB c.wide 500 2000 && inB c.high 500 2000
theorem l5One_any (c : CombT) (w : World) : Calls Try.prog 53 #[c.val] w fun e w' => e = .returned (.bool (combOk c)) ∧ Below w.heap.size w w' := by
  unfold combOk
  cases e1 : inB c.id 1 99 <;> cases e2 : inB c.wide 500 2000 <;> cases e3 : inB c.high 500 2000
  all_goals
    go_enter Try.func53, Try.ntmps53
    go_wp2_with (first | (go_at_call 51; refine (l1In_any _ _ _ _).mono ?_; rintro e w' ⟨rfl, rfl⟩) | (go_at_call 42; refine (l5Gauge_any _ _).mono ?_; rintro e w' ⟨rfl, rfl⟩))
    go_ret
    exact ⟨rfl, Go.Joins.below_alloc1 _ _⟩
theorem isComb_any (c : CombT) (w : World) : Calls Try.prog 54 #[c.val] w fun e w' => e = .returned (.bool (combOk c)) ∧ Below w.heap.size w w' := by
  unfold combOk
  cases e1 : inB c.id 1 99 <;> cases e2 : inB c.wide 500 2000 <;> cases e3 : inB c.high 500 2000
  all_goals
    go_enter Try.func54, Try.ntmps54
    go_wp2_with (first | (go_at_call 47; refine (inRange_any _ _ _ _).mono ?_; rintro e w' ⟨rfl, rfl⟩) | (go_at_call 40; refine (isGauge_any _ _).mono ?_; rintro e w' ⟨rfl, rfl⟩))
    go_ret
    exact ⟨rfl, Go.Joins.below_alloc1 _ _⟩
def combAt (zs : List CombT) (i : Nat) : Bool := combOk (zs.getD i comb0) && (decide (i = 0) || decide ((zs.getD (i - 1) comb0).id < (zs.getD i comb0).id))
def combsOk (zs : List CombT) : Bool := allB zs.length (combAt zs) && decide (zs.length ≤ 10)
theorem comb_getD {zs : List CombT} {k : Nat} (h : k < zs.length) : zs.getD k comb0 = zs[k] := by simp [List.getD, h]
set_option maxHeartbeats 2000000 in
theorem l5Good_any (a : Option Addr) (cap : Nat) (zs : List CombT) (w : World) (hm : zs.length ≤ maxLen) (hr : Reads w a (combs zs)) :
    Calls Try.prog 29 #[.slice a zs.length cap] w fun e w' => e = .returned (.bool (combsOk zs)) ∧ Below w.heap.size w w' := by
  unfold maxLen at hm
  have HR := Lib.hid hr
  clear hr
  go_enter Try.func29, Try.ntmps29
  go_wp2
  go_loopw [3] (fun i wr => ∃ k : Nat, k ≤ zs.length ∧ i = .int .i64 k ∧ Hid (allB k (combAt zs) = true) ∧ Below w.heap.size w wr) (fun i _ => zs.length - (intOf i).toNat)
  case atStart => exact ⟨0, Nat.zero_le _, rfl, allB_zero _, Below.refl _ _⟩
  case round =>
    obtain ⟨k, hk, rfl, ht, hbel⟩ := hrel
    by_cases hlt : k < zs.length
    · rcases HR.out.below hbel with h0 | ⟨b, off, rfl, hb2, hc⟩
      · have := combs_length zs; rw [h0] at this; simp at this; omega
      obtain ⟨g0, g1, g2, g3⟩ := combs_get hlt
      have hc0 := hc _ _ g0
      have hc1 := hc _ _ g1
      have hc2 := hc _ _ g2
      have hc3 := hc _ _ g3
      simp only [← Nat.add_assoc] at hc1 hc2 hc3
      have hx0 : ∀ x : Ext wr, x.1.cell? ⟨b, off + k * 4, none⟩ = some (.int .i64 zs[k].id) := fun x => (x.cell hb2).trans hc0
      have hx1 : ∀ x : Ext wr, x.1.cell? ⟨b, off + k * 4 + 1, none⟩ = some (.int .i64 zs[k].wide) := fun x => (x.cell hb2).trans hc1
      have hx2 : ∀ x : Ext wr, x.1.cell? ⟨b, off + k * 4 + 2, none⟩ = some (.int .i64 zs[k].high) := fun x => (x.cell hb2).trans hc2
      have hx3 : ∀ x : Ext wr, x.1.cell? ⟨b, off + k * 4 + 3, none⟩ = some (.bool zs[k].line) := fun x => (x.cell hb2).trans hc3
      have HB := Lib.hid hbel
      clear g0 g1 g2 g3 hbel
      have hC := fun w => l5One_any zs[k] w
      cases hin : combOk zs[k]
      · rw [hin] at hC
        have HC := Lib.hid hC
        have hP := Lib.hid (allB_no hlt (show combAt zs k = false by rw [combAt, comb_getD hlt, hin]; rfl))
        clear hC hc hin hc0 hc1 hc2 hc3
        go_wp2_with fail
        refine wp_region_ext (by kernel_rfl) (by kernel_rfl) ?_
        repeat (go_big_quiet_step ((go_at_call 53; exact ext_call (HC.out _))))
        refine wpQuiet_nil ?_
        rintro _ ⟨x, rfl⟩
        go_wp2
        go_ret
        exact ⟨ret_bool (by rw [combsOk, hP.out]; rfl), HB.out.trans (x.2.mono HB.out.size)⟩
      · rw [hin] at hC
        have HC := Lib.hid hC
        have HI := Lib.hid hin
        clear hC hin
        by_cases hk0 : k = 0
        · have hP := Lib.hid (allB_step ht.out (show combAt zs k = true by rw [combAt, comb_getD hlt, HI.out]; simp [hk0]))
          have hd : decide (0 < k) = false := by simp; omega
          have hle : k ≤ 0 := by omega
          clear hk0 hc hc0 hc1 hc2 hc3
          go_wp2_with fail
          refine wp_region_ext (by kernel_rfl) (by kernel_rfl) ?_
          repeat (go_big_quiet_step ((go_at_call 53; exact ext_call (HC.out _))))
          refine wpQuiet_nil ?_
          rintro _ ⟨x, rfl⟩
          go_wp2
          go_roundw
          case rel => exact ⟨k + 1, by omega, by go_num, hP, HB.out.trans (x.2.mono HB.out.size)⟩
          case measure => simp [intOf]; omega
        · have hk1 : k - 1 < zs.length := by omega
          have hc9 := hc ((k - 1) * 4) _ (combs_get hk1).1
          have hx9 : ∀ x : Ext wr, x.1.cell? ⟨b, off + (k - 1) * 4, none⟩ = some (.int .i64 zs[k - 1].id) := fun x => (x.cell hb2).trans hc9
          have hd : decide (0 < k) = true := by simp; omega
          have hpos : 0 < k := by omega
          clear hc hc9 hc0 hc1 hc2 hc3
          by_cases hgt : zs[k - 1].id < zs[k].id
          · have hP := Lib.hid (allB_step ht.out (show combAt zs k = true by rw [combAt, comb_getD hlt, comb_getD hk1, HI.out]; simp [hk0, hgt]))
            go_wp2_with fail
            refine wp_region_ext (by kernel_rfl) (by kernel_rfl) ?_
            repeat (go_big_quiet_step ((go_at_call 53; exact ext_call (HC.out _))))
            refine wpQuiet_nil ?_
            rintro _ ⟨x, rfl⟩
            go_wp2
            go_roundw
            case rel => exact ⟨k + 1, by omega, by go_num, hP, HB.out.trans (x.2.mono HB.out.size)⟩
            case measure => simp [intOf]; omega
          · have hle : zs[k].id ≤ zs[k - 1].id := by omega
            have hP := Lib.hid (allB_no hlt (show combAt zs k = false by rw [combAt, comb_getD hlt, comb_getD hk1, HI.out]; simp [hk0, hgt]))
            clear hgt
            go_wp2_with fail
            refine wp_region_ext (by kernel_rfl) (by kernel_rfl) ?_
            repeat (go_big_quiet_step ((go_at_call 53; exact ext_call (HC.out _))))
            refine wpQuiet_nil ?_
            rintro _ ⟨x, rfl⟩
            go_wp2
            go_ret
            exact ⟨ret_bool (by rw [combsOk, hP.out]; rfl), HB.out.trans (x.2.mono HB.out.size)⟩
    · have heq := Lib.hid (show allB zs.length (combAt zs) = true by rw [show zs.length = k from by omega]; exact ht.out)
      go_wp2
      go_ret
      exact ⟨ret_bool (by rw [combsOk, heq.out]; simp; omega), hbel⟩
set_option maxHeartbeats 2000000 in
theorem areCombs_any (a : Option Addr) (cap : Nat) (zs : List CombT) (w : World) (hm : zs.length ≤ maxLen) (hr : Reads w a (combs zs)) :
    Calls Try.prog 31 #[.slice a zs.length cap] w fun e w' => e = .returned (.bool (combsOk zs)) ∧ Below w.heap.size w w' := by
  unfold maxLen at hm
  have HR := Lib.hid hr
  clear hr
  go_enter Try.func31, Try.ntmps31
  go_wp2
  go_loopw [7] (fun i wr => ∃ k : Nat, k ≤ zs.length ∧ i = .int .i64 k ∧ Hid (allB k (combAt zs) = true) ∧ Below w.heap.size w wr) (fun i _ => zs.length - (intOf i).toNat)
  case atStart => exact ⟨0, Nat.zero_le _, rfl, allB_zero _, Below.refl _ _⟩
  case round =>
    obtain ⟨k, hk, rfl, ht, hbel⟩ := hrel
    by_cases hlt : k < zs.length
    · rcases HR.out.below hbel with h0 | ⟨b, off, rfl, hb2, hc⟩
      · have := combs_length zs; rw [h0] at this; simp at this; omega
      obtain ⟨g0, g1, g2, g3⟩ := combs_get hlt
      have hc0 := hc _ _ g0
      have hc1 := hc _ _ g1
      have hc2 := hc _ _ g2
      have hc3 := hc _ _ g3
      simp only [← Nat.add_assoc] at hc1 hc2 hc3
      have hy0 : ∀ x : Ext (wr.alloc (.cells #[.int .i64 zs[k].id, .int .i64 zs[k].wide, .int .i64 zs[k].high, .bool zs[k].line] 53)), x.1.cell? ⟨wr.heap.size, 0, none⟩ = some (.int .i64 zs[k].id) := fun x => (x.cell (by simp)).trans ((Go.Joins.cell_of_block (heap_alloc_new wr _) 0).trans rfl)
      have hy1 : ∀ x : Ext (wr.alloc (.cells #[.int .i64 zs[k].id, .int .i64 zs[k].wide, .int .i64 zs[k].high, .bool zs[k].line] 53)), x.1.cell? ⟨wr.heap.size, 1, none⟩ = some (.int .i64 zs[k].wide) := fun x => (x.cell (by simp)).trans ((Go.Joins.cell_of_block (heap_alloc_new wr _) 1).trans rfl)
      have hy2 : ∀ x : Ext (wr.alloc (.cells #[.int .i64 zs[k].id, .int .i64 zs[k].wide, .int .i64 zs[k].high, .bool zs[k].line] 53)), x.1.cell? ⟨wr.heap.size, 2, none⟩ = some (.int .i64 zs[k].high) := fun x => (x.cell (by simp)).trans ((Go.Joins.cell_of_block (heap_alloc_new wr _) 2).trans rfl)
      have hy3 : ∀ x : Ext (wr.alloc (.cells #[.int .i64 zs[k].id, .int .i64 zs[k].wide, .int .i64 zs[k].high, .bool zs[k].line] 53)), x.1.cell? ⟨wr.heap.size, 3, none⟩ = some (.bool zs[k].line) := fun x => (x.cell (by simp)).trans ((Go.Joins.cell_of_block (heap_alloc_new wr _) 3).trans rfl)
      have HB := Lib.hid (hbel.alloc hbel.size (.cells #[.int .i64 zs[k].id, .int .i64 zs[k].wide, .int .i64 zs[k].high, .bool zs[k].line] 53))
      clear g0 g1 g2 g3 hbel
      have hC := fun w => isComb_any zs[k] w
      cases hin : combOk zs[k]
      · rw [hin] at hC
        have HC := Lib.hid hC
        have hP := Lib.hid (allB_no hlt (show combAt zs k = false by rw [combAt, comb_getD hlt, hin]; rfl))
        clear hC hc hin
        go_wp2_with fail
        refine wp_region_ext (by kernel_rfl) (by kernel_rfl) ?_
        repeat (go_big_quiet_step ((go_at_call 54; exact ext_call (HC.out _))))
        refine wpQuiet_nil ?_
        rintro _ ⟨x, rfl⟩
        go_wp2
        go_ret
        exact ⟨ret_bool (by rw [combsOk, hP.out]; rfl), HB.out.trans (x.2.mono HB.out.size)⟩
      · rw [hin] at hC
        have HC := Lib.hid hC
        have HI := Lib.hid hin
        clear hC hin
        by_cases hk0 : k = 0
        · have hP := Lib.hid (allB_step ht.out (show combAt zs k = true by rw [combAt, comb_getD hlt, HI.out]; simp [hk0]))
          have hd : decide (0 < k) = false := by simp; omega
          have hle : k ≤ 0 := by omega
          clear hk0 hc
          go_wp2_with fail
          refine wp_region_ext (by kernel_rfl) (by kernel_rfl) ?_
          repeat (go_big_quiet_step ((go_at_call 54; exact ext_call (HC.out _))))
          refine wpQuiet_nil ?_
          rintro _ ⟨x, rfl⟩
          go_wp2
          go_roundw
          case rel => exact ⟨k + 1, by omega, by go_num, hP, HB.out.trans (x.2.mono HB.out.size)⟩
          case measure => simp [intOf]; omega
        · have hk1 : k - 1 < zs.length := by omega
          have hc9 := hc ((k - 1) * 4) _ (combs_get hk1).1
          have hx9 : ∀ x : Ext (wr.alloc (.cells #[.int .i64 zs[k].id, .int .i64 zs[k].wide, .int .i64 zs[k].high, .bool zs[k].line] 53)), x.1.cell? ⟨b, off + (k - 1) * 4, none⟩ = some (.int .i64 zs[k - 1].id) := fun x => (x.cell (by simp; omega)).trans ((World.cell?_of_block (w := wr) (a := ⟨b, _, none⟩) (Below.heap_alloc wr _ b hb2)).trans hc9)
          have hd : decide (0 < k) = true := by simp; omega
          have hpos : 0 < k := by omega
          clear hc hc9
          by_cases hgt : zs[k - 1].id < zs[k].id
          · have hP := Lib.hid (allB_step ht.out (show combAt zs k = true by rw [combAt, comb_getD hlt, comb_getD hk1, HI.out]; simp [hk0, hgt]))
            go_wp2_with fail
            refine wp_region_ext (by kernel_rfl) (by kernel_rfl) ?_
            repeat (go_big_quiet_step ((go_at_call 54; exact ext_call (HC.out _))))
            refine wpQuiet_nil ?_
            rintro _ ⟨x, rfl⟩
            go_wp2
            go_roundw
            case rel => exact ⟨k + 1, by omega, by go_num, hP, HB.out.trans (x.2.mono HB.out.size)⟩
            case measure => simp [intOf]; omega
          · have hle : zs[k].id ≤ zs[k - 1].id := by omega
            have hP := Lib.hid (allB_no hlt (show combAt zs k = false by rw [combAt, comb_getD hlt, comb_getD hk1, HI.out]; simp [hk0, hgt]))
            clear hgt
            go_wp2_with fail
            refine wp_region_ext (by kernel_rfl) (by kernel_rfl) ?_
            repeat (go_big_quiet_step ((go_at_call 54; exact ext_call (HC.out _))))
            refine wpQuiet_nil ?_
            rintro _ ⟨x, rfl⟩
            go_wp2
            go_ret
            exact ⟨ret_bool (by rw [combsOk, hP.out]; rfl), HB.out.trans (x.2.mono HB.out.size)⟩
    · have heq := Lib.hid (show allB zs.length (combAt zs) = true by rw [show zs.length = k from by omega]; exact ht.out)
      go_wp2
      go_ret
      exact ⟨ret_bool (by rw [combsOk, heq.out]; simp; omega), hbel⟩
end Go.Proofs.Ytidiecffahaojaa
