/- A blank sheet: the reference's side. -/
import Derived.Test.YtenedmkjbmbapaaRebP
import Derived.Test.YtenedmkjbmbapaaFitS
import Derived.Deep.AppendLies
namespace Go.Proofs.Ytenedmkjbmbapaa
open Go.RowKit

/-- points, so many -/
def dots (k : Nat) : ByteArray := ⟨(List.replicate k (46 : UInt8)).toArray⟩
theorem dots_size (k : Nat) : (dots k).size = k := by simp [dots, ByteArray.size]
theorem dots_succ (k : Nat) : dots (k + 1) = dots k ++ ⟨#[46]⟩ := by
  apply ByteArray.ext
  rw [ByteArray.data_append]
  apply Array.ext'
  simp [dots, List.replicate_succ']
def blankS (r c : Nat) : List ByteArray := List.replicate r (dots c)
theorem blankS_length (r c : Nat) : (blankS r c).length = r := by simp [blankS]
theorem blankS_succ (r c : Nat) : strs (blankS (r + 1) c) = strs (blankS r c) ++ [.string (dots c)] := by simp [blankS, strs, List.replicate_succ']
theorem blankS_at {r c i : Nat} (h : i < r) : rowAt (blankS r c) i = dots c := by
  rw [rowAt_of (by rw [blankS_length]; exact h)]; simp [blankS]
theorem blankS_grid {r c : Nat} (h1 : 1 ≤ r) (h2 : r ≤ 5) (h3 : 1 ≤ c) (h4 : c ≤ 5) : gridB (blankS r c) 5 = true := by
  simp only [gridB, Bool.and_eq_true, allB_true, rowOk, blankS_length]
  refine ⟨inB_true.2 (by omega), fun i hi => ?_⟩
  rw [blankS_at hi, blankS_at (by omega), dots_size]
  refine ⟨⟨by simp, inB_true.2 (by omega)⟩, fun k hk => ?_⟩
  rw [chAt_of (by rw [dots_size]; exact hk)]
  have : (dots c)[k]'(by rw [dots_size]; exact hk) = 46 := by
    show (dots c).data[k]'_ = 46
    simp [dots]
  rw [this]; decide
theorem info_str1 : (Try.prog.info? 9).map (fun i => (i.zero, i.size, i.bytes)) = some (some (.string ⟨#[]⟩), 1, 16) := by kernel_rfl
set_option maxRecDepth 100000 in
set_option maxHeartbeats 4000000 in
theorem l4Blank_any (r c : Nat) (w : World) (h2 : r ≤ 5) (h4 : c ≤ 5) :
    Calls Try.prog 51 #[.int .i64 (r : Int), .int .i64 (c : Int)] w fun e w' => ∃ ad cp, e = .returned (.slice ad (blankS r c).length cp) ∧
      w'.ownsRow w.heap.size 9 1 (.slice ad (blankS r c).length cp) (blankS r c).length (strs (blankS r c)) ∧ Below w.heap.size w w' := by
  obtain ⟨i0, hi, hz0, hz1, hz2⟩ := info_parts info_str1
  go_enter Try.func51, Try.ntmps51
  go_wp2_with fail
  go_loopw [5, 6] (fun s i wr => ∃ k : Nat, k ≤ c ∧ i = .int .i64 k ∧ s = .string (dots k) ∧ wr = w) (fun _ i _ => c - (intOf i).toNat)
  case atStart => exact ⟨0, Nat.zero_le _, rfl, rfl, rfl⟩
  case round =>
    obtain ⟨k, hk, rfl, rfl, rfl⟩ := hrel
    by_cases hlt : k < c
    · have hs := dots_size k
      have hsz : (dots k).size ≤ 5 := by omega
      have hsu := Lib.hid (dots_succ k)
      clear hs
      generalize dots k = d at hsu hsz ⊢
      go_wp2_with fail
      go_roundw
      case rel => exact ⟨k + 1, by omega, by go_num, by rw [hsu.out], trivial⟩
      case measure => simp [intOf]; omega
    · obtain rfl : k = c := by omega
      have hown0 := Lib.hid (fun w => RowIs.owns (RowIs.new w 9 ([] : List Value)) (n := 0) (sz := 1) rfl (by unfold maxLen; omega) (Nat.le_refl _))
      go_wp2_with fail
      obtain ⟨wo, rfl⟩ : ∃ wo : World, wo = wr := ⟨_, rfl⟩
      go_loopw [7, 8] (fun o i wx => ∃ j : Nat, j ≤ r ∧ i = .int .i64 j ∧ (∃ ad cp, o = .slice ad (blankS j k).length cp) ∧ wx.ownsRow wo.heap.size 9 1 o (blankS j k).length (strs (blankS j k)) ∧ Below wo.heap.size wo wx) (fun _ i _ => r - (intOf i).toNat)
      case atStart => exact ⟨0, Nat.zero_le _, rfl, (by simp [blankS]), hown0.out wo, Go.Joins.below_alloc1 _ _⟩
      case round =>
        obtain ⟨j, hj, rfl, ⟨ad, cp, rfl⟩, hown, hbel⟩ := hrel
        have HO := Lib.hid hown
        have HB := Lib.hid hbel
        have hlen := blankS_length j k
        have HL1 := Lib.hid (show j + 1 = (blankS (j + 1) k).length by rw [blankS_length])
        have HS1 := Lib.hid (blankS_succ j k)
        clear hown hbel
        by_cases hjr : j < r
        · go_wp2_with (at_builtin; go_must (refine wpList_append_own _ rfl _ _ 31 rfl wo.heap.size 9 i0 (.string ⟨#[]⟩) 1 16 Try.underlying31 hi hz0 hz1 hz2 rfl (by decide) _ _ _ rfl (HO.out.alloc _) ⟨wr.heap.size, 0, none⟩ 1 1 [.string (dots k)] rfl rfl (World.news_of_block (cs := #[.string (dots k)]) (t := 9) (fr := (0, 0)) (heap_alloc_new _ _)) (by simp [Value.oneCell']) (by show (blankS j k).length + 1 ≤ maxLen; unfold maxLen; omega) (show ((blankS j k).length + 1) * 16 ≤ 140737488355328 by omega) (Nat.le_trans HB.out.size (by simp)) ?_))
          intro v' w9 hown9 hgrow9 _
          rw [HL1.out, ← HS1.out] at hown9
          have hb9 := (HB.out.alloc HB.out.size _).grown hgrow9 (by simpa using Nat.le_succ_of_le HB.out.size) (fun q hq => (HO.out.lt q (by rw [hlen]; exact hq)).1)
          obtain ⟨g9, c9, rfl⟩ := Go.Joins.ownsRow_form hown9 (by have := blankS_length (j + 1) k; omega)
          have HO9 := Lib.hid hown9
          have HB9 := Lib.hid hb9
          clear hown9 hgrow9 hb9
          go_wp2_with fail
          go_roundw
          case rel => exact ⟨j + 1, by omega, by go_num, ⟨_, _, rfl⟩, HO9.out, HB9.out⟩
          case measure => simp [intOf]; omega
        · obtain rfl : j = r := by omega
          go_wp2_with fail
          go_ret
          exact ⟨_, _, rfl, HO.out, HB.out⟩
end Go.Proofs.Ytenedmkjbmbapaa
