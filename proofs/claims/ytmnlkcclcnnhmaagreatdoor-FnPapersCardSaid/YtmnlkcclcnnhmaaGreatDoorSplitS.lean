/- The reference's cutting loop and strings.Split: one list of parts. -/
import Derived.Test.YtmnlkcclcnnhmaaGreatDoorSplitM
import Derived.Test.YtmnlkcclcnnhmaaGreatDoorOwn
import Derived.Test.YtmnlkcclcnnhmaaGreatDoorRowX
import Derived.Deep.AppendLies
namespace Go.Proofs.YtmnlkcclcnnhmaaGreatDoor
open Go.RowKit

theorem new_secondT (w : World) (o1 o2 : Obj) : ((w.alloc o1).alloc o2).heap[w.heap.size + 1]? = some o2 := by
  have h := heap_alloc_new (w.alloc o1) o2
  have hs : (w.alloc o1).heap.size = w.heap.size + 1 := by simp
  rw [hs] at h; exact h
theorem strs_snoc (zs : List ByteArray) (z : ByteArray) : strs (zs ++ [z]) = strs zs ++ [.string z] := by simp [strs]
theorem len_snoc (zs : List ByteArray) (z : ByteArray) : (zs ++ [z]).length = zs.length + 1 := by simp
set_option maxHeartbeats 2000000 in
set_option maxRecDepth 100000 in
theorem l1Split_any (s : ByteArray) (c : UInt8) (w : World) (hm : s.size ≤ 1048576) : Calls Tryz.prog 43 #[.string s, .int .u8 (c.toNat : Int)] w fun e w' => ∃ ad cp, e = .returned (.slice ad (splitF s c).length cp) ∧
    w'.ownsRow w.heap.size 9 1 (.slice ad (splitF s c).length cp) (splitF s c).length (strs (splitF s c)) ∧ Below w.heap.size w w' := by
  obtain ⟨i0, hi, hz0, hz1, hz2⟩ := info_parts info_string
  have hown0 := Lib.hid (RowIs.owns (RowIs.new w 9 ([] : List Value)) (n := 0) (sz := 1) rfl (by unfold maxLen; omega) (Nat.le_refl _))
  have hb0 := Lib.hid (Go.Joins.below_alloc1 w (.cells ([] : List Value).toArray 9))
  have C0 := Lib.hid (CutAt.zero s c)
  have CN := Lib.hid (fun k f zs => CutAt.no (s := s) (c := c) (k := k) (f := f) (zs := zs))
  have CY := Lib.hid (fun k f zs => CutAt.yes (s := s) (c := c) (k := k) (f := f) (zs := zs))
  have CF := Lib.hid (fun f zs => CutAt.fin (s := s) (c := c) (f := f) (zs := zs))
  have hC : ∀ k f zs, CutAt s c k f zs → f ≤ k ∧ zs.length ≤ k := fun _ _ _ h => ⟨h.1, h.2.1⟩
  have HC := Lib.hid hC
  clear hC
  go_enter Tryz.func43, Tryz.ntmps43
  go_wp2_with fail
  go_loopw [5, 6, 7] (fun v fr i wr => ∃ k f : Nat, ∃ zs : List ByteArray, k ≤ s.size ∧ i = .int .i64 k ∧ fr = .int .i64 f ∧ (∃ ad cp, v = .slice ad zs.length cp) ∧ wr.ownsRow w.heap.size 9 1 v zs.length (strs zs) ∧ CutAt s c k f zs ∧ Below w.heap.size w wr) (fun _ _ i _ => s.size - (intOf i).toNat)
  case atStart => exact ⟨0, 0, [], Nat.zero_le _, rfl, rfl, ⟨_, _, rfl⟩, by simpa [strs] using hown0.out, C0.out, hb0.out⟩
  case round =>
    obtain ⟨k, f, zs, hk, rfl, rfl, ⟨ad, cp, rfl⟩, hown, hcut, hbel⟩ := hrel
    obtain ⟨hfk, hlen⟩ := HC.out _ _ _ hcut
    have HB := Lib.hid hbel
    have HO := Lib.hid hown
    clear hbel hown
    by_cases hlt : k < s.size
    · by_cases hc : s[k] = c
      · have HCU := Lib.hid (CY.out _ _ _ hcut hlt hc)
        have he : ((s[k].toNat : Int) == (c.toNat : Int)) = true := by rw [hc]; simp
        have he2 : s[k].toNat = c.toNat := by rw [hc]
        clear hcut hc
        go_wp2_with (at_builtin; go_must (refine wpList_append_own _ rfl _ _ 45 rfl w.heap.size 9 i0 (.string .empty) 1 16 Tryz.underlying45 hi hz0 hz1 hz2 rfl (by decide) _ _ _ rfl (HO.out.alloc _) ⟨wr.heap.size, 0, none⟩ 1 1 [.string (s.extract f k)] rfl rfl (World.news_of_block (cs := #[.string (s.extract f k)]) (t := 9) (fr := (0, 0)) (heap_alloc_new _ _)) (by simp [Value.oneCell']) (by unfold maxLen; omega) (by omega) (Nat.le_trans HB.out.size (by simp)) ?_))
        intro v' w3 hown3 hgrow3 _
        obtain ⟨g3, c3, hv⟩ := Go.Joins.ownsRow_form hown3 (by omega)
        have hown4 : w3.ownsRow w.heap.size 9 1 (.slice (some ⟨g3, 0, none⟩) (zs ++ [s.extract f k]).length c3) (zs ++ [s.extract f k]).length (strs (zs ++ [s.extract f k])) := by
          rw [strs_snoc, len_snoc]; rw [hv] at hown3; exact hown3
        have HO4 := Lib.hid hown4
        have hbel4 : Below w.heap.size w w3 := by
          refine (HB.out.alloc HB.out.size _).grown hgrow3 ?_ ?_
          · exact Nat.le_trans HB.out.size (by simp)
          · intro q hq; exact (HO.out.lt q hq).1
        have HB4 := Lib.hid hbel4
        have HLN := Lib.hid (len_snoc zs (s.extract f k))
        rw [hv]
        clear hown3 hgrow3 hown4 hbel4 hv
        go_wp2_with fail
        go_roundw
        case rel => exact ⟨k + 1, k + 1, zs ++ [s.extract f k], by omega, by go_num, by go_num, ⟨_, _, by rw [HLN.out]⟩, by have := HO4.out; rw [HLN.out] at this; rw [HLN.out]; exact this, HCU.out, HB4.out⟩
        case measure => simp [intOf]; omega
      · have HCU := Lib.hid (CN.out _ _ _ hcut hlt hc)
        have hne : s[k].toNat ≠ c.toNat := fun e => hc (UInt8.toNat_inj.1 e)
        have he : ((s[k].toNat : Int) == (c.toNat : Int)) = false := by rw [beq_eq_false_iff_ne]; omega
        clear hcut hc
        go_wp2_with fail
        go_roundw
        case rel => exact ⟨k + 1, f, zs, by omega, by go_num, rfl, ⟨_, _, rfl⟩, HO.out, HCU.out, HB.out⟩
        case measure => simp [intOf]; omega
    · obtain rfl : k = s.size := by omega
      have HCU := Lib.hid (CF.out _ _ hcut)
      clear hcut
      go_wp2_with (at_builtin; go_must (refine wpList_append_own _ rfl _ _ 45 rfl w.heap.size 9 i0 (.string .empty) 1 16 Tryz.underlying45 hi hz0 hz1 hz2 rfl (by decide) _ _ _ rfl (HO.out.alloc _) ⟨wr.heap.size, 0, none⟩ 1 1 [.string (s.extract f s.size)] rfl rfl (World.news_of_block (cs := #[.string (s.extract f s.size)]) (t := 9) (fr := (0, 0)) (heap_alloc_new _ _)) (by simp [Value.oneCell']) (by unfold maxLen; omega) (by omega) (Nat.le_trans HB.out.size (by simp)) ?_))
      intro v' w3 hown3 hgrow3 _
      obtain ⟨g3, c3, hv⟩ := Go.Joins.ownsRow_form hown3 (by omega)
      have hown4 : w3.ownsRow w.heap.size 9 1 (.slice (some ⟨g3, 0, none⟩) (zs ++ [s.extract f s.size]).length c3) (zs ++ [s.extract f s.size]).length (strs (zs ++ [s.extract f s.size])) := by
        rw [strs_snoc, len_snoc]; rw [hv] at hown3; exact hown3
      rw [HCU.out] at hown4
      have HL : (splitF s c).length = zs.length + 1 := by rw [← HCU.out, len_snoc]
      have HO4 := Lib.hid hown4
      have hbel4 : Below w.heap.size w w3 := by
        refine (HB.out.alloc HB.out.size _).grown hgrow3 ?_ ?_
        · exact Nat.le_trans HB.out.size (by simp)
        · intro q hq; exact (HO.out.lt q hq).1
      have HB4 := Lib.hid hbel4
      have HLN := Lib.hid HL
      rw [hv]
      clear hown3 hgrow3 hown4 hbel4 hv HL
      go_wp2_with fail
      go_ret
      exact ⟨_, _, by rw [HLN.out]; rfl, HO4.out, HB4.out⟩
end Go.Proofs.YtmnlkcclcnnhmaaGreatDoor
