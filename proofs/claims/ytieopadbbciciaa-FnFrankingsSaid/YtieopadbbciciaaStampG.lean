/- Stamps that are valid, with rising ids. -/
import Derived.Test.YtieopadbbciciaaStampS
import Derived.Test.YtieopadbbciciaaScalar
import Derived.Test.YtieopadbbciciaaExt
namespace Go.Proofs.Ytieopadbbciciaa
open Go.RowKit

def stampOk (c : StampT) : Bool := inB c.id 1 999 && inB c.face 0 9999 && inB c.color 0 99 && inB c.year 1840 2100
theorem l2Year_any (n : Int) (w : World) : Calls Try.prog 44 #[.int .i64 n] w fun e w' => e = .returned (.bool (inB n 1840 2100)) ∧ w = w' := by
  go_enter Try.func44, Try.ntmps44
  go_wp2_with (go_at_call 30; refine (l1In_any _ _ _ _).mono ?_; rintro e w' ⟨rfl, rfl⟩)
  go_ret
  exact ⟨rfl, rfl⟩
set_option maxRecDepth 100000 in
set_option maxHeartbeats 2000000 in
theorem l2Stamp_any (c : StampT) (w : World) : Calls Try.prog 49 #[c.val] w fun e w' => e = .returned (.bool (stampOk c)) ∧ Below w.heap.size w w' := by
  unfold stampOk
  cases e1 : inB c.id 1 999 <;> cases e2 : inB c.face 0 9999 <;> cases e3 : inB c.color 0 99 <;> cases e4 : inB c.year 1840 2100
  all_goals
    go_enter Try.func49, Try.ntmps49
    go_wp2_with (first | (go_at_call 30; refine (l1In_any _ _ _ _).mono ?_; rintro e w' ⟨rfl, rfl⟩) | (go_at_call 44; refine (l2Year_any _ _).mono ?_; rintro e w' ⟨rfl, rfl⟩))
    go_ret
    exact ⟨rfl, Go.Joins.below_alloc1 _ _⟩
set_option maxRecDepth 100000 in
set_option maxHeartbeats 2000000 in
theorem isStamp_any (c : StampT) (w : World) : Calls Try.prog 52 #[c.val] w fun e w' => e = .returned (.bool (stampOk c)) ∧ Below w.heap.size w w' := by
  unfold stampOk
  cases e1 : inB c.id 1 999 <;> cases e2 : inB c.face 0 9999 <;> cases e3 : inB c.color 0 99 <;> cases e4 : inB c.year 1840 2100
  all_goals
    go_enter Try.func52, Try.ntmps52
    go_wp2_with (first | (go_at_call 34; refine (inRange_any _ _ _ _).mono ?_; rintro e w' ⟨rfl, rfl⟩))
    go_ret
    exact ⟨rfl, Go.Joins.below_alloc1 _ _⟩
def stampAt (zs : List StampT) (i : Nat) : Bool := stampOk (zs.getD i stamp0) && (decide (i = 0) || decide ((zs.getD (i - 1) stamp0).id < (zs.getD i stamp0).id))
def stampsOk (zs : List StampT) : Bool := allB zs.length (stampAt zs) && decide (zs.length ≤ 12)
theorem stamp_getD {zs : List StampT} {k : Nat} (h : k < zs.length) : zs.getD k stamp0 = zs[k] := by simp [List.getD, h]
set_option maxHeartbeats 2000000 in
theorem l2Stamps_any (a : Option Addr) (cap : Nat) (zs : List StampT) (w : World) (hm : zs.length ≤ maxLen) (hr : Reads w a (stamps zs)) :
    Calls Try.prog 29 #[.slice a zs.length cap] w fun e w' => e = .returned (.bool (stampsOk zs)) ∧ Below w.heap.size w w' := by
  unfold maxLen at hm
  have HR := Lib.hid hr
  clear hr
  go_enter Try.func29, Try.ntmps29
  go_wp2
  go_loopw [3] (fun i wr => ∃ k : Nat, k ≤ zs.length ∧ i = .int .i64 k ∧ Hid (allB k (stampAt zs) = true) ∧ Below w.heap.size w wr) (fun i _ => zs.length - (intOf i).toNat)
  case atStart => exact ⟨0, Nat.zero_le _, rfl, allB_zero _, Below.refl _ _⟩
  case round =>
    obtain ⟨k, hk, rfl, ht, hbel⟩ := hrel
    by_cases hlt : k < zs.length
    · rcases HR.out.below hbel with h0 | ⟨b, off, rfl, hb2, hc⟩
      · have := stamps_length zs; rw [h0] at this; simp at this; omega
      obtain ⟨g0, g1, g2, g3⟩ := stamps_get hlt
      have hc0 := hc _ _ g0
      have hc1 := hc _ _ g1
      have hc2 := hc _ _ g2
      have hc3 := hc _ _ g3
      simp only [← Nat.add_assoc] at hc1 hc2 hc3
      have hx0 : ∀ x : Ext wr, x.1.cell? ⟨b, off + k * 4, none⟩ = some (.int .i64 zs[k].id) := fun x => (x.cell hb2).trans hc0
      have hx1 : ∀ x : Ext wr, x.1.cell? ⟨b, off + k * 4 + 1, none⟩ = some (.int .i64 zs[k].face) := fun x => (x.cell hb2).trans hc1
      have hx2 : ∀ x : Ext wr, x.1.cell? ⟨b, off + k * 4 + 2, none⟩ = some (.int .i64 zs[k].color) := fun x => (x.cell hb2).trans hc2
      have hx3 : ∀ x : Ext wr, x.1.cell? ⟨b, off + k * 4 + 3, none⟩ = some (.int .i64 zs[k].year) := fun x => (x.cell hb2).trans hc3
      have HB := Lib.hid hbel
      clear g0 g1 g2 g3 hbel
      have hC := fun w => l2Stamp_any zs[k] w
      cases hin : stampOk zs[k]
      · rw [hin] at hC
        have HC := Lib.hid hC
        have hP := Lib.hid (allB_no hlt (show stampAt zs k = false by rw [stampAt, stamp_getD hlt, hin]; rfl))
        clear hC hc hin hc0 hc1 hc2 hc3
        go_wp2_with fail
        refine wp_region_ext (by kernel_rfl) (by kernel_rfl) ?_
        repeat (go_big_quiet_step ((go_at_call 49; exact ext_call (HC.out _))))
        refine wpQuiet_nil ?_
        rintro _ ⟨x, rfl⟩
        go_wp2
        go_ret
        exact ⟨ret_bool (by rw [stampsOk, hP.out]; rfl), HB.out.trans (x.2.mono HB.out.size)⟩
      · rw [hin] at hC
        have HC := Lib.hid hC
        have HI := Lib.hid hin
        clear hC hin
        by_cases hk0 : k = 0
        · have hP := Lib.hid (allB_step ht.out (show stampAt zs k = true by rw [stampAt, stamp_getD hlt, HI.out]; simp [hk0]))
          have hd : decide (0 < k) = false := by simp; omega
          have hle : k ≤ 0 := by omega
          clear hk0 hc hc0 hc1 hc2 hc3
          go_wp2_with fail
          refine wp_region_ext (by kernel_rfl) (by kernel_rfl) ?_
          repeat (go_big_quiet_step ((go_at_call 49; exact ext_call (HC.out _))))
          refine wpQuiet_nil ?_
          rintro _ ⟨x, rfl⟩
          go_wp2
          go_roundw
          case rel => exact ⟨k + 1, by omega, by go_num, hP, HB.out.trans (x.2.mono HB.out.size)⟩
          case measure => simp [intOf]; omega
        · have hk1 : k - 1 < zs.length := by omega
          have hc9 := hc ((k - 1) * 4) _ (stamps_get hk1).1
          have hx9 : ∀ x : Ext wr, x.1.cell? ⟨b, off + (k - 1) * 4, none⟩ = some (.int .i64 zs[k - 1].id) := fun x => (x.cell hb2).trans hc9
          have hd : decide (0 < k) = true := by simp; omega
          have hpos : 0 < k := by omega
          clear hc hc9 hc0 hc1 hc2 hc3
          by_cases hgt : zs[k - 1].id < zs[k].id
          · have hP := Lib.hid (allB_step ht.out (show stampAt zs k = true by rw [stampAt, stamp_getD hlt, stamp_getD hk1, HI.out]; simp [hk0, hgt]))
            go_wp2_with fail
            refine wp_region_ext (by kernel_rfl) (by kernel_rfl) ?_
            repeat (go_big_quiet_step ((go_at_call 49; exact ext_call (HC.out _))))
            refine wpQuiet_nil ?_
            rintro _ ⟨x, rfl⟩
            go_wp2
            go_roundw
            case rel => exact ⟨k + 1, by omega, by go_num, hP, HB.out.trans (x.2.mono HB.out.size)⟩
            case measure => simp [intOf]; omega
          · have hle : zs[k].id ≤ zs[k - 1].id := by omega
            have hP := Lib.hid (allB_no hlt (show stampAt zs k = false by rw [stampAt, stamp_getD hlt, stamp_getD hk1, HI.out]; simp [hk0, hgt]))
            clear hgt
            go_wp2_with fail
            refine wp_region_ext (by kernel_rfl) (by kernel_rfl) ?_
            repeat (go_big_quiet_step ((go_at_call 49; exact ext_call (HC.out _))))
            refine wpQuiet_nil ?_
            rintro _ ⟨x, rfl⟩
            go_wp2
            go_ret
            exact ⟨ret_bool (by rw [stampsOk, hP.out]; rfl), HB.out.trans (x.2.mono HB.out.size)⟩
    · have heq := Lib.hid (show allB zs.length (stampAt zs) = true by rw [show zs.length = k from by omega]; exact ht.out)
      go_wp2
      go_ret
      exact ⟨ret_bool (by rw [stampsOk, heq.out]; simp; omega), hbel⟩
set_option maxHeartbeats 2000000 in
theorem areStamps_any (a : Option Addr) (cap : Nat) (zs : List StampT) (w : World) (hm : zs.length ≤ maxLen) (hr : Reads w a (stamps zs)) :
    Calls Try.prog 33 #[.slice a zs.length cap] w fun e w' => e = .returned (.bool (stampsOk zs)) ∧ Below w.heap.size w w' := by
  unfold maxLen at hm
  have HR := Lib.hid hr
  clear hr
  go_enter Try.func33, Try.ntmps33
  go_wp2
  go_loopw [7] (fun i wr => ∃ k : Nat, k ≤ zs.length ∧ i = .int .i64 k ∧ Hid (allB k (stampAt zs) = true) ∧ Below w.heap.size w wr) (fun i _ => zs.length - (intOf i).toNat)
  case atStart => exact ⟨0, Nat.zero_le _, rfl, allB_zero _, Below.refl _ _⟩
  case round =>
    obtain ⟨k, hk, rfl, ht, hbel⟩ := hrel
    by_cases hlt : k < zs.length
    · rcases HR.out.below hbel with h0 | ⟨b, off, rfl, hb2, hc⟩
      · have := stamps_length zs; rw [h0] at this; simp at this; omega
      obtain ⟨g0, g1, g2, g3⟩ := stamps_get hlt
      have hc0 := hc _ _ g0
      have hc1 := hc _ _ g1
      have hc2 := hc _ _ g2
      have hc3 := hc _ _ g3
      simp only [← Nat.add_assoc] at hc1 hc2 hc3
      have hy0 : ∀ x : Ext (wr.alloc (.cells #[.int .i64 zs[k].id, .int .i64 zs[k].face, .int .i64 zs[k].color, .int .i64 zs[k].year] 53)), x.1.cell? ⟨wr.heap.size, 0, none⟩ = some (.int .i64 zs[k].id) := fun x => (x.cell (by simp)).trans ((Go.Joins.cell_of_block (heap_alloc_new wr _) 0).trans rfl)
      have hy1 : ∀ x : Ext (wr.alloc (.cells #[.int .i64 zs[k].id, .int .i64 zs[k].face, .int .i64 zs[k].color, .int .i64 zs[k].year] 53)), x.1.cell? ⟨wr.heap.size, 1, none⟩ = some (.int .i64 zs[k].face) := fun x => (x.cell (by simp)).trans ((Go.Joins.cell_of_block (heap_alloc_new wr _) 1).trans rfl)
      have hy2 : ∀ x : Ext (wr.alloc (.cells #[.int .i64 zs[k].id, .int .i64 zs[k].face, .int .i64 zs[k].color, .int .i64 zs[k].year] 53)), x.1.cell? ⟨wr.heap.size, 2, none⟩ = some (.int .i64 zs[k].color) := fun x => (x.cell (by simp)).trans ((Go.Joins.cell_of_block (heap_alloc_new wr _) 2).trans rfl)
      have hy3 : ∀ x : Ext (wr.alloc (.cells #[.int .i64 zs[k].id, .int .i64 zs[k].face, .int .i64 zs[k].color, .int .i64 zs[k].year] 53)), x.1.cell? ⟨wr.heap.size, 3, none⟩ = some (.int .i64 zs[k].year) := fun x => (x.cell (by simp)).trans ((Go.Joins.cell_of_block (heap_alloc_new wr _) 3).trans rfl)
      have HB := Lib.hid (hbel.alloc hbel.size (.cells #[.int .i64 zs[k].id, .int .i64 zs[k].face, .int .i64 zs[k].color, .int .i64 zs[k].year] 53))
      clear g0 g1 g2 g3 hbel
      have hC := fun w => isStamp_any zs[k] w
      cases hin : stampOk zs[k]
      · rw [hin] at hC
        have HC := Lib.hid hC
        have hP := Lib.hid (allB_no hlt (show stampAt zs k = false by rw [stampAt, stamp_getD hlt, hin]; rfl))
        clear hC hc hin
        go_wp2_with fail
        refine wp_region_ext (by kernel_rfl) (by kernel_rfl) ?_
        repeat (go_big_quiet_step ((go_at_call 52; exact ext_call (HC.out _))))
        refine wpQuiet_nil ?_
        rintro _ ⟨x, rfl⟩
        go_wp2
        go_ret
        exact ⟨ret_bool (by rw [stampsOk, hP.out]; rfl), HB.out.trans (x.2.mono HB.out.size)⟩
      · rw [hin] at hC
        have HC := Lib.hid hC
        have HI := Lib.hid hin
        clear hC hin
        by_cases hk0 : k = 0
        · have hP := Lib.hid (allB_step ht.out (show stampAt zs k = true by rw [stampAt, stamp_getD hlt, HI.out]; simp [hk0]))
          have hd : decide (0 < k) = false := by simp; omega
          have hle : k ≤ 0 := by omega
          clear hk0 hc
          go_wp2_with fail
          refine wp_region_ext (by kernel_rfl) (by kernel_rfl) ?_
          repeat (go_big_quiet_step ((go_at_call 52; exact ext_call (HC.out _))))
          refine wpQuiet_nil ?_
          rintro _ ⟨x, rfl⟩
          go_wp2
          go_roundw
          case rel => exact ⟨k + 1, by omega, by go_num, hP, HB.out.trans (x.2.mono HB.out.size)⟩
          case measure => simp [intOf]; omega
        · have hk1 : k - 1 < zs.length := by omega
          have hc9 := hc ((k - 1) * 4) _ (stamps_get hk1).1
          have hx9 : ∀ x : Ext (wr.alloc (.cells #[.int .i64 zs[k].id, .int .i64 zs[k].face, .int .i64 zs[k].color, .int .i64 zs[k].year] 53)), x.1.cell? ⟨b, off + (k - 1) * 4, none⟩ = some (.int .i64 zs[k - 1].id) := fun x => (x.cell (by simp; omega)).trans ((World.cell?_of_block (w := wr) (a := ⟨b, _, none⟩) (Below.heap_alloc wr _ b hb2)).trans hc9)
          have hd : decide (0 < k) = true := by simp; omega
          have hpos : 0 < k := by omega
          clear hc hc9
          by_cases hgt : zs[k - 1].id < zs[k].id
          · have hP := Lib.hid (allB_step ht.out (show stampAt zs k = true by rw [stampAt, stamp_getD hlt, stamp_getD hk1, HI.out]; simp [hk0, hgt]))
            go_wp2_with fail
            refine wp_region_ext (by kernel_rfl) (by kernel_rfl) ?_
            repeat (go_big_quiet_step ((go_at_call 52; exact ext_call (HC.out _))))
            refine wpQuiet_nil ?_
            rintro _ ⟨x, rfl⟩
            go_wp2
            go_roundw
            case rel => exact ⟨k + 1, by omega, by go_num, hP, HB.out.trans (x.2.mono HB.out.size)⟩
            case measure => simp [intOf]; omega
          · have hle : zs[k].id ≤ zs[k - 1].id := by omega
            have hP := Lib.hid (allB_no hlt (show stampAt zs k = false by rw [stampAt, stamp_getD hlt, stamp_getD hk1, HI.out]; simp [hk0, hgt]))
            clear hgt
            go_wp2_with fail
            refine wp_region_ext (by kernel_rfl) (by kernel_rfl) ?_
            repeat (go_big_quiet_step ((go_at_call 52; exact ext_call (HC.out _))))
            refine wpQuiet_nil ?_
            rintro _ ⟨x, rfl⟩
            go_wp2
            go_ret
            exact ⟨ret_bool (by rw [stampsOk, hP.out]; rfl), HB.out.trans (x.2.mono HB.out.size)⟩
    · have heq := Lib.hid (show allB zs.length (stampAt zs) = true by rw [show zs.length = k from by omega]; exact ht.out)
      go_wp2
      go_ret
      exact ⟨ret_bool (by rw [stampsOk, heq.out]; simp; omega), hbel⟩
end Go.Proofs.Ytieopadbbciciaa
