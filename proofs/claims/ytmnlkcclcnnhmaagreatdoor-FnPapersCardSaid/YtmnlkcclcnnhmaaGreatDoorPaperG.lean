/- Papers that are valid, with rising ids. -/
import Derived.Test.YtmnlkcclcnnhmaaGreatDoorPaperS
import Derived.Test.YtmnlkcclcnnhmaaGreatDoorWord
import Derived.Test.YtmnlkcclcnnhmaaGreatDoorExt
namespace Go.Proofs.YtmnlkcclcnnhmaaGreatDoor
open Go.RowKit

def emptyB (s : ByteArray) : Bool := s.toList.isEmpty
def paperOk (c : PaperT) : Bool := inB c.id 1 99 && inB c.thick 1 300 && inB c.tint 0 9 && (emptyB c.mark || wordB c.mark)
set_option maxRecDepth 100000 in
set_option maxHeartbeats 2000000 in
theorem l3One_any (c : PaperT) (w : World) (hm : c.mark.size ≤ maxLen) : Calls Tryz.prog 31 #[c.val] w fun e w' => e = .returned (.bool (paperOk c)) ∧ Below w.heap.size w w' := by
  unfold paperOk
  cases e1 : inB c.id 1 99
  · go_enter Tryz.func31, Tryz.ntmps31
    go_wp2_with (first | (go_at_call 44; refine (l1In_any _ _ _ _).mono ?_; rintro e w' ⟨rfl, rfl⟩))
    go_ret
    exact ⟨rfl, Go.Joins.below_alloc1 _ _⟩
  cases e2 : inB c.thick 1 300
  · go_enter Tryz.func31, Tryz.ntmps31
    go_wp2_with (first | (go_at_call 44; refine (l1In_any _ _ _ _).mono ?_; rintro e w' ⟨rfl, rfl⟩))
    go_ret
    exact ⟨rfl, Go.Joins.below_alloc1 _ _⟩
  cases e3 : inB c.tint 0 9
  · go_enter Tryz.func31, Tryz.ntmps31
    go_wp2_with (first | (go_at_call 44; refine (l1In_any _ _ _ _).mono ?_; rintro e w' ⟨rfl, rfl⟩))
    go_ret
    exact ⟨rfl, Go.Joins.below_alloc1 _ _⟩
  have hW := Lib.hid (fun w => l2Word_any c.mark w hm)
  unfold emptyB
  cases e4 : c.mark.toList.isEmpty
  · go_enter Tryz.func31, Tryz.ntmps31
    go_wp2_with (first | (go_at_call 44; refine (l1In_any _ _ _ _).mono ?_; rintro e w' ⟨rfl, rfl⟩) | (go_at_call 57; refine (hW.out _).mono ?_; rintro e w' ⟨rfl, rfl⟩))
    go_ret
    exact ⟨ret_bool (by simp), Go.Joins.below_alloc1 _ _⟩
  · go_enter Tryz.func31, Tryz.ntmps31
    go_wp2_with (first | (go_at_call 44; refine (l1In_any _ _ _ _).mono ?_; rintro e w' ⟨rfl, rfl⟩) | (go_at_call 57; refine (hW.out _).mono ?_; rintro e w' ⟨rfl, rfl⟩))
    go_ret
    exact ⟨ret_bool (by simp), Go.Joins.below_alloc1 _ _⟩
set_option maxRecDepth 100000 in
set_option maxHeartbeats 2000000 in
theorem isPaper_any (c : PaperT) (w : World) (hm : c.mark.size ≤ maxLen) : Calls Tryz.prog 29 #[c.val] w fun e w' => e = .returned (.bool (paperOk c)) ∧ Below w.heap.size w w' := by
  unfold paperOk
  cases e1 : inB c.id 1 99
  · go_enter Tryz.func29, Tryz.ntmps29
    go_wp2_with (first | (go_at_call 50; refine (inRange_any _ _ _ _).mono ?_; rintro e w' ⟨rfl, rfl⟩))
    go_ret
    exact ⟨rfl, Go.Joins.below_alloc1 _ _⟩
  cases e2 : inB c.thick 1 300
  · go_enter Tryz.func29, Tryz.ntmps29
    go_wp2_with (first | (go_at_call 50; refine (inRange_any _ _ _ _).mono ?_; rintro e w' ⟨rfl, rfl⟩))
    go_ret
    exact ⟨rfl, Go.Joins.below_alloc1 _ _⟩
  cases e3 : inB c.tint 0 9
  · go_enter Tryz.func29, Tryz.ntmps29
    go_wp2_with (first | (go_at_call 50; refine (inRange_any _ _ _ _).mono ?_; rintro e w' ⟨rfl, rfl⟩))
    go_ret
    exact ⟨rfl, Go.Joins.below_alloc1 _ _⟩
  have hW := Lib.hid (fun w => isWord_any c.mark w hm)
  unfold emptyB
  cases e4 : c.mark.toList.isEmpty
  · go_enter Tryz.func29, Tryz.ntmps29
    go_wp2_with (first | (go_at_call 50; refine (inRange_any _ _ _ _).mono ?_; rintro e w' ⟨rfl, rfl⟩) | (go_at_call 55; refine (hW.out _).mono ?_; rintro e w' ⟨rfl, rfl⟩))
    go_ret
    exact ⟨ret_bool (by simp), Go.Joins.below_alloc1 _ _⟩
  · go_enter Tryz.func29, Tryz.ntmps29
    go_wp2_with (first | (go_at_call 50; refine (inRange_any _ _ _ _).mono ?_; rintro e w' ⟨rfl, rfl⟩) | (go_at_call 55; refine (hW.out _).mono ?_; rintro e w' ⟨rfl, rfl⟩))
    go_ret
    exact ⟨ret_bool (by simp), Go.Joins.below_alloc1 _ _⟩
def paperAt (zs : List PaperT) (i : Nat) : Bool := paperOk (zs.getD i paper0) && (decide (i = 0) || decide ((zs.getD (i - 1) paper0).id < (zs.getD i paper0).id))
def papersOk (zs : List PaperT) : Bool := allB zs.length (paperAt zs) && decide (zs.length ≤ 10)
theorem paper_getD {zs : List PaperT} {k : Nat} (h : k < zs.length) : zs.getD k paper0 = zs[k] := by simp [List.getD, h]
set_option maxHeartbeats 2000000 in
theorem l3Good_any (a : Option Addr) (cap : Nat) (zs : List PaperT) (w : World) (hm : zs.length ≤ maxLen) (hr : Reads w a (papers zs)) (hfit : ∀ z ∈ zs, z.mark.size ≤ maxLen) :
    Calls Tryz.prog 51 #[.slice a zs.length cap] w fun e w' => e = .returned (.bool (papersOk zs)) ∧ Below w.heap.size w w' := by
  unfold maxLen at hm
  have HR := Lib.hid hr
  clear hr
  have HF := Lib.hid hfit
  clear hfit
  go_enter Tryz.func51, Tryz.ntmps51
  go_wp2
  go_loopw [3] (fun i wr => ∃ k : Nat, k ≤ zs.length ∧ i = .int .i64 k ∧ Hid (allB k (paperAt zs) = true) ∧ Below w.heap.size w wr) (fun i _ => zs.length - (intOf i).toNat)
  case atStart => exact ⟨0, Nat.zero_le _, rfl, allB_zero _, Below.refl _ _⟩
  case round =>
    obtain ⟨k, hk, rfl, ht, hbel⟩ := hrel
    by_cases hlt : k < zs.length
    · rcases HR.out.below hbel with h0 | ⟨b, off, rfl, hb2, hc⟩
      · have := papers_length zs; rw [h0] at this; simp at this; omega
      obtain ⟨g0, g1, g2, g3, g4⟩ := papers_get hlt
      have hc0 := hc _ _ g0
      have hc1 := hc _ _ g1
      have hc2 := hc _ _ g2
      have hc3 := hc _ _ g3
      have hc4 := hc _ _ g4
      simp only [← Nat.add_assoc] at hc1 hc2 hc3 hc4
      have hx0 : ∀ x : Ext wr, x.1.cell? ⟨b, off + k * 5, none⟩ = some (.int .i64 zs[k].id) := fun x => (x.cell hb2).trans hc0
      have hx1 : ∀ x : Ext wr, x.1.cell? ⟨b, off + k * 5 + 1, none⟩ = some (.int .i64 zs[k].thick) := fun x => (x.cell hb2).trans hc1
      have hx2 : ∀ x : Ext wr, x.1.cell? ⟨b, off + k * 5 + 2, none⟩ = some (.int .i64 zs[k].tint) := fun x => (x.cell hb2).trans hc2
      have hx3 : ∀ x : Ext wr, x.1.cell? ⟨b, off + k * 5 + 3, none⟩ = some (.string zs[k].mark) := fun x => (x.cell hb2).trans hc3
      have hx4 : ∀ x : Ext wr, x.1.cell? ⟨b, off + k * 5 + 4, none⟩ = some (.bool zs[k].laid) := fun x => (x.cell hb2).trans hc4
      have HB := Lib.hid hbel
      clear g0 g1 g2 g3 g4 hbel
      have hC := fun w => l3One_any zs[k] w (HF.out _ (List.getElem_mem hlt))
      cases hin : paperOk zs[k]
      · rw [hin] at hC
        have HC := Lib.hid hC
        have hP := Lib.hid (allB_no hlt (show paperAt zs k = false by rw [paperAt, paper_getD hlt, hin]; rfl))
        clear hC hc hin hc0 hc1 hc2 hc3 hc4
        go_wp2_with fail
        refine wp_region_ext (by kernel_rfl) (by kernel_rfl) ?_
        repeat (go_big_quiet_step ((go_at_call 31; exact ext_call (HC.out _))))
        refine wpQuiet_nil ?_
        rintro _ ⟨x, rfl⟩
        go_wp2
        go_ret
        exact ⟨ret_bool (by rw [papersOk, hP.out]; rfl), HB.out.trans (x.2.mono HB.out.size)⟩
      · rw [hin] at hC
        have HC := Lib.hid hC
        have HI := Lib.hid hin
        clear hC hin
        by_cases hk0 : k = 0
        · have hP := Lib.hid (allB_step ht.out (show paperAt zs k = true by rw [paperAt, paper_getD hlt, HI.out]; simp [hk0]))
          have hd : decide (0 < k) = false := by simp; omega
          have hle : k ≤ 0 := by omega
          clear hk0 hc hc0 hc1 hc2 hc3 hc4
          go_wp2_with fail
          refine wp_region_ext (by kernel_rfl) (by kernel_rfl) ?_
          repeat (go_big_quiet_step ((go_at_call 31; exact ext_call (HC.out _))))
          refine wpQuiet_nil ?_
          rintro _ ⟨x, rfl⟩
          go_wp2
          go_roundw
          case rel => exact ⟨k + 1, by omega, by go_num, hP, HB.out.trans (x.2.mono HB.out.size)⟩
          case measure => simp [intOf]; omega
        · have hk1 : k - 1 < zs.length := by omega
          have hc9 := hc ((k - 1) * 5) _ (papers_get hk1).1
          have hx9 : ∀ x : Ext wr, x.1.cell? ⟨b, off + (k - 1) * 5, none⟩ = some (.int .i64 zs[k - 1].id) := fun x => (x.cell hb2).trans hc9
          have hd : decide (0 < k) = true := by simp; omega
          have hpos : 0 < k := by omega
          clear hc hc9 hc0 hc1 hc2 hc3 hc4
          by_cases hgt : zs[k - 1].id < zs[k].id
          · have hP := Lib.hid (allB_step ht.out (show paperAt zs k = true by rw [paperAt, paper_getD hlt, paper_getD hk1, HI.out]; simp [hk0, hgt]))
            go_wp2_with fail
            refine wp_region_ext (by kernel_rfl) (by kernel_rfl) ?_
            repeat (go_big_quiet_step ((go_at_call 31; exact ext_call (HC.out _))))
            refine wpQuiet_nil ?_
            rintro _ ⟨x, rfl⟩
            go_wp2
            go_roundw
            case rel => exact ⟨k + 1, by omega, by go_num, hP, HB.out.trans (x.2.mono HB.out.size)⟩
            case measure => simp [intOf]; omega
          · have hle : zs[k].id ≤ zs[k - 1].id := by omega
            have hP := Lib.hid (allB_no hlt (show paperAt zs k = false by rw [paperAt, paper_getD hlt, paper_getD hk1, HI.out]; simp [hk0, hgt]))
            clear hgt
            go_wp2_with fail
            refine wp_region_ext (by kernel_rfl) (by kernel_rfl) ?_
            repeat (go_big_quiet_step ((go_at_call 31; exact ext_call (HC.out _))))
            refine wpQuiet_nil ?_
            rintro _ ⟨x, rfl⟩
            go_wp2
            go_ret
            exact ⟨ret_bool (by rw [papersOk, hP.out]; rfl), HB.out.trans (x.2.mono HB.out.size)⟩
    · have heq := Lib.hid (show allB zs.length (paperAt zs) = true by rw [show zs.length = k from by omega]; exact ht.out)
      go_wp2
      go_ret
      exact ⟨ret_bool (by rw [papersOk, heq.out]; simp; omega), hbel⟩
set_option maxHeartbeats 2000000 in
theorem arePapers_any (a : Option Addr) (cap : Nat) (zs : List PaperT) (w : World) (hm : zs.length ≤ maxLen) (hr : Reads w a (papers zs)) (hfit : ∀ z ∈ zs, z.mark.size ≤ maxLen) :
    Calls Tryz.prog 49 #[.slice a zs.length cap] w fun e w' => e = .returned (.bool (papersOk zs)) ∧ Below w.heap.size w w' := by
  unfold maxLen at hm
  have HR := Lib.hid hr
  clear hr
  have HF := Lib.hid hfit
  clear hfit
  go_enter Tryz.func49, Tryz.ntmps49
  go_wp2
  go_loopw [7] (fun i wr => ∃ k : Nat, k ≤ zs.length ∧ i = .int .i64 k ∧ Hid (allB k (paperAt zs) = true) ∧ Below w.heap.size w wr) (fun i _ => zs.length - (intOf i).toNat)
  case atStart => exact ⟨0, Nat.zero_le _, rfl, allB_zero _, Below.refl _ _⟩
  case round =>
    obtain ⟨k, hk, rfl, ht, hbel⟩ := hrel
    by_cases hlt : k < zs.length
    · rcases HR.out.below hbel with h0 | ⟨b, off, rfl, hb2, hc⟩
      · have := papers_length zs; rw [h0] at this; simp at this; omega
      obtain ⟨g0, g1, g2, g3, g4⟩ := papers_get hlt
      have hc0 := hc _ _ g0
      have hc1 := hc _ _ g1
      have hc2 := hc _ _ g2
      have hc3 := hc _ _ g3
      have hc4 := hc _ _ g4
      simp only [← Nat.add_assoc] at hc1 hc2 hc3 hc4
      have hy0 : ∀ x : Ext (wr.alloc (.cells #[.int .i64 zs[k].id, .int .i64 zs[k].thick, .int .i64 zs[k].tint, .string zs[k].mark, .bool zs[k].laid] 25)), x.1.cell? ⟨wr.heap.size, 0, none⟩ = some (.int .i64 zs[k].id) := fun x => (x.cell (by simp)).trans ((Go.Joins.cell_of_block (heap_alloc_new wr _) 0).trans rfl)
      have hy1 : ∀ x : Ext (wr.alloc (.cells #[.int .i64 zs[k].id, .int .i64 zs[k].thick, .int .i64 zs[k].tint, .string zs[k].mark, .bool zs[k].laid] 25)), x.1.cell? ⟨wr.heap.size, 1, none⟩ = some (.int .i64 zs[k].thick) := fun x => (x.cell (by simp)).trans ((Go.Joins.cell_of_block (heap_alloc_new wr _) 1).trans rfl)
      have hy2 : ∀ x : Ext (wr.alloc (.cells #[.int .i64 zs[k].id, .int .i64 zs[k].thick, .int .i64 zs[k].tint, .string zs[k].mark, .bool zs[k].laid] 25)), x.1.cell? ⟨wr.heap.size, 2, none⟩ = some (.int .i64 zs[k].tint) := fun x => (x.cell (by simp)).trans ((Go.Joins.cell_of_block (heap_alloc_new wr _) 2).trans rfl)
      have hy3 : ∀ x : Ext (wr.alloc (.cells #[.int .i64 zs[k].id, .int .i64 zs[k].thick, .int .i64 zs[k].tint, .string zs[k].mark, .bool zs[k].laid] 25)), x.1.cell? ⟨wr.heap.size, 3, none⟩ = some (.string zs[k].mark) := fun x => (x.cell (by simp)).trans ((Go.Joins.cell_of_block (heap_alloc_new wr _) 3).trans rfl)
      have hy4 : ∀ x : Ext (wr.alloc (.cells #[.int .i64 zs[k].id, .int .i64 zs[k].thick, .int .i64 zs[k].tint, .string zs[k].mark, .bool zs[k].laid] 25)), x.1.cell? ⟨wr.heap.size, 4, none⟩ = some (.bool zs[k].laid) := fun x => (x.cell (by simp)).trans ((Go.Joins.cell_of_block (heap_alloc_new wr _) 4).trans rfl)
      have HB := Lib.hid (hbel.alloc hbel.size (.cells #[.int .i64 zs[k].id, .int .i64 zs[k].thick, .int .i64 zs[k].tint, .string zs[k].mark, .bool zs[k].laid] 25))
      clear g0 g1 g2 g3 g4 hbel
      have hC := fun w => isPaper_any zs[k] w (HF.out _ (List.getElem_mem hlt))
      cases hin : paperOk zs[k]
      · rw [hin] at hC
        have HC := Lib.hid hC
        have hP := Lib.hid (allB_no hlt (show paperAt zs k = false by rw [paperAt, paper_getD hlt, hin]; rfl))
        clear hC hc hin
        go_wp2_with fail
        refine wp_region_ext (by kernel_rfl) (by kernel_rfl) ?_
        repeat (go_big_quiet_step ((go_at_call 29; exact ext_call (HC.out _))))
        refine wpQuiet_nil ?_
        rintro _ ⟨x, rfl⟩
        go_wp2
        go_ret
        exact ⟨ret_bool (by rw [papersOk, hP.out]; rfl), HB.out.trans (x.2.mono HB.out.size)⟩
      · rw [hin] at hC
        have HC := Lib.hid hC
        have HI := Lib.hid hin
        clear hC hin
        by_cases hk0 : k = 0
        · have hP := Lib.hid (allB_step ht.out (show paperAt zs k = true by rw [paperAt, paper_getD hlt, HI.out]; simp [hk0]))
          have hd : decide (0 < k) = false := by simp; omega
          have hle : k ≤ 0 := by omega
          clear hk0 hc
          go_wp2_with fail
          refine wp_region_ext (by kernel_rfl) (by kernel_rfl) ?_
          repeat (go_big_quiet_step ((go_at_call 29; exact ext_call (HC.out _))))
          refine wpQuiet_nil ?_
          rintro _ ⟨x, rfl⟩
          go_wp2
          go_roundw
          case rel => exact ⟨k + 1, by omega, by go_num, hP, HB.out.trans (x.2.mono HB.out.size)⟩
          case measure => simp [intOf]; omega
        · have hk1 : k - 1 < zs.length := by omega
          have hc9 := hc ((k - 1) * 5) _ (papers_get hk1).1
          have hx9 : ∀ x : Ext (wr.alloc (.cells #[.int .i64 zs[k].id, .int .i64 zs[k].thick, .int .i64 zs[k].tint, .string zs[k].mark, .bool zs[k].laid] 25)), x.1.cell? ⟨b, off + (k - 1) * 5, none⟩ = some (.int .i64 zs[k - 1].id) := fun x => (x.cell (by simp; omega)).trans ((World.cell?_of_block (w := wr) (a := ⟨b, _, none⟩) (Below.heap_alloc wr _ b hb2)).trans hc9)
          have hd : decide (0 < k) = true := by simp; omega
          have hpos : 0 < k := by omega
          clear hc hc9
          by_cases hgt : zs[k - 1].id < zs[k].id
          · have hP := Lib.hid (allB_step ht.out (show paperAt zs k = true by rw [paperAt, paper_getD hlt, paper_getD hk1, HI.out]; simp [hk0, hgt]))
            go_wp2_with fail
            refine wp_region_ext (by kernel_rfl) (by kernel_rfl) ?_
            repeat (go_big_quiet_step ((go_at_call 29; exact ext_call (HC.out _))))
            refine wpQuiet_nil ?_
            rintro _ ⟨x, rfl⟩
            go_wp2
            go_roundw
            case rel => exact ⟨k + 1, by omega, by go_num, hP, HB.out.trans (x.2.mono HB.out.size)⟩
            case measure => simp [intOf]; omega
          · have hle : zs[k].id ≤ zs[k - 1].id := by omega
            have hP := Lib.hid (allB_no hlt (show paperAt zs k = false by rw [paperAt, paper_getD hlt, paper_getD hk1, HI.out]; simp [hk0, hgt]))
            clear hgt
            go_wp2_with fail
            refine wp_region_ext (by kernel_rfl) (by kernel_rfl) ?_
            repeat (go_big_quiet_step ((go_at_call 29; exact ext_call (HC.out _))))
            refine wpQuiet_nil ?_
            rintro _ ⟨x, rfl⟩
            go_wp2
            go_ret
            exact ⟨ret_bool (by rw [papersOk, hP.out]; rfl), HB.out.trans (x.2.mono HB.out.size)⟩
    · have heq := Lib.hid (show allB zs.length (paperAt zs) = true by rw [show zs.length = k from by omega]; exact ht.out)
      go_wp2
      go_ret
      exact ⟨ret_bool (by rw [papersOk, heq.out]; simp; omega), hbel⟩
end Go.Proofs.YtmnlkcclcnnhmaaGreatDoor
