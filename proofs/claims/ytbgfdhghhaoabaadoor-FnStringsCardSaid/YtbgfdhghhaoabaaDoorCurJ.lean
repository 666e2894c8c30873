/- The drawn list and sign of JoinStrings. -/
import Derived.Test.YtbgfdhghhaoabaaDoorZeroT
import Derived.Test.YtbgfdhghhaoabaaDoorSplitS
namespace Go.Proofs.YtbgfdhghhaoabaaDoor
open Go.RowKit

abbrev markL : List ByteArray := [⟨#[44]⟩, ⟨#[59]⟩, ⟨#[59]⟩, ⟨#[]⟩, ⟨#[97, 98]⟩]
theorem markL_size : ∀ z ∈ markL, z.size ≤ 2 := by decide +kernel
theorem vBig_any (a : Option Addr) (len cap : Nat) (w : World) : Calls Tryd.prog 23 #[.slice a len cap] w fun e w' => e = .returned (.bool (decide ((65536 : Int) < (len : Int)))) ∧ w = w' := by
  go_enter Tryd.func23, Tryd.ntmps23
  go_wp2_with fail
  go_ret
  exact ⟨rfl, rfl⟩
set_option maxHeartbeats 2000000 in
set_option maxRecDepth 100000 in
theorem drawJoin_any (a : Option Addr) (cap : Nat) (cs : List Int) (w : World) (hm : cs.length ≤ maxLen) (hr : Reads w a (bytesV cs)) (hz : ∀ z ∈ cs, 0 ≤ z ∧ z ≤ 255) :
    Calls Tryd.prog 25 #[.slice a cs.length cap] w fun e w' => ∃ (ad : Option Addr) (cp : Nat) (zs : List ByteArray) (y : ByteArray), e = .returned (.tuple #[.slice ad zs.length cp, .string y]) ∧ zs.length ≤ 4 ∧ (∀ z ∈ zs, z.size ≤ 5000) ∧ y.size ≤ 2 ∧
      w'.ownsRow (w.heap.size + 1) 9 1 (.slice ad zs.length cp) zs.length (strs zs) ∧ Below w.heap.size w w' := by
  obtain ⟨i0, hi, hz0, hz1, hz2⟩ := info_parts info_string
  have hcur := cur_newT cap hm hr hz
  have HA := Lib.hid (fun w g n h hn => any1_any g n w h hn)
  have HP := Lib.hid (fun w g n m h hn h1 h2 => pick_any g n m w h hn h1 h2)
  have HB1 := Lib.hid (fun w g n m h hn h1 h2 => one_any g n m w h hn h1 h2)
  have HO := Lib.hid (fun w g n h hn => of_lit g n markL w h hn (by decide) (by decide) #[.string ⟨#[44]⟩, .string ⟨#[59]⟩, .string ⟨#[59]⟩, .string ⟨#[]⟩, .string ⟨#[97, 98]⟩] rfl 5 rfl)
  have HS := Lib.hid markL_size
  have B0 := Lib.hid (Go.Joins.below_alloc1 w (.cells #[.slice a cs.length cap, .int .i64 0, .int .u64 0] 59))
  have HC0 := Lib.hid hcur
  have hg := hcur.lt
  have hsz0 : (w.alloc (.cells #[.slice a cs.length cap, .int .i64 0, .int .u64 0] 59)).heap.size = w.heap.size + 1 := by simp
  clear hr hz hcur
  go_enter Tryd.func25, Tryd.ntmps25
  go_wp2_with fail
  generalize w.alloc (.cells #[.slice a cs.length cap, .int .i64 0, .int .u64 0] 59) = w0 at *
  have hb1 := Go.Joins.below_alloc1 w0 (.cells ([] : List Value).toArray 9)
  have hown0 : (w0.alloc (.cells ([] : List Value).toArray 9)).ownsRow w0.heap.size 9 1 (.slice (some ⟨w0.heap.size, 0, none⟩) 0 0) 0 (strs []) := RowIs.owns (RowIs.new w0 9 ([] : List Value)) (n := 0) (sz := 1) rfl (by unfold maxLen; omega) (Nat.le_refl _)
  refine (HP.out _ _ 0 4 (HC0.out.below hb1) (by omega) (by omega) (by omega)).mono ?_
  rintro e w1 ⟨x, rfl, ⟨x1, x2⟩, hc1, hg1⟩
  obtain ⟨m, rfl⟩ : ∃ m : Nat, x = (m : Int) := ⟨x.toNat, by omega⟩
  have HB1' := Lib.hid ((B0.out.trans (hb1.mono B0.out.size)).grown hg1 (Nat.le_trans B0.out.size hb1.size) (fun q hq => by injection hq with hq; omega))
  have HO1 := Lib.hid (own_kept hown0 hg1 (fun q hq e => by simp [Value.ownBlock] at hq; injection e with e; omega))
  have HC1 := Lib.hid hc1
  clear hb1 hown0 hg1 hc1
  go_wp2_with fail
  go_loopw [5, 7] (fun v i wr => ∃ (k : Nat) (zs : List ByteArray), k ≤ m ∧ i = .int .i64 k ∧ (∃ ad cp, v = .slice ad zs.length cp) ∧ wr.ownsRow w0.heap.size 9 1 v zs.length (strs zs) ∧ zs.length = k ∧ (∀ z ∈ zs, z.size ≤ 10) ∧ Cur wr w.heap.size (2 + 2 * k) ∧ Below w.heap.size w wr) (fun _ i _ => m - (intOf i).toNat)
  case atStart => exact ⟨0, [], Nat.zero_le _, rfl, ⟨_, _, rfl⟩, by have := HO1.out; rw [hsz0] at this ⊢; simpa [strs] using this, rfl, by simp, HC1.out, HB1'.out⟩
  case round =>
    obtain ⟨k, zs, hk, rfl, ⟨ad, cp, rfl⟩, hown, rfl, hsz, hcur, hbel⟩ := hrel
    have hz4 : zs.length ≤ 3 := by omega
    have HB := Lib.hid hbel
    have HW := Lib.hid hown
    have HCU := Lib.hid hcur
    have HZ := Lib.hid hsz
    clear hbel hown hcur hsz
    by_cases hlt : zs.length < m
    · go_wp2_with fail
      refine (HA.out _ _ _ HCU.out (show 2 + 2 * zs.length ≤ 1048570 by omega)).mono ?_
      rintro e w2 ⟨t, rfl, ht, hc2, hg2⟩
      have HW2 := Lib.hid (own_kept HW.out hg2 (fun q hq e => by have := (HW.out.lt q hq).1; injection e with e; omega))
      have HB2 := Lib.hid (HB.out.grown hg2 HB.out.size (fun q hq => by injection hq with hq; omega))
      have HC2 := Lib.hid hc2
      have HT := Lib.hid ht
      have hw0 : w0.heap.size ≤ w2.heap.size := by have h1 := HB2.out.size; have h2 := HC2.out.lt; omega
      clear hc2 hg2 ht
      go_wp2_with (at_builtin; go_must (refine wpList_append_own _ rfl _ _ 25 rfl w0.heap.size 9 i0 (.string .empty) 1 16 Tryd.underlying25 hi hz0 hz1 hz2 rfl (by decide) _ _ _ rfl (HW2.out.alloc _) ⟨w2.heap.size, 0, none⟩ 1 1 [.string t] rfl rfl (World.news_of_block (cs := #[.string t]) (t := 9) (fr := (0, 0)) (heap_alloc_new _ _)) (by simp [Value.oneCell']) (show zs.length + 1 ≤ maxLen by unfold maxLen; omega) (show (zs.length + 1) * 16 ≤ 140737488355328 by omega) (Nat.le_trans hw0 (by simp)) ?_))
      intro v' w3 hown3 hgrow3 _
      obtain ⟨g3, c3, hv⟩ := Go.Joins.ownsRow_form hown3 (by omega)
      have hown4 : w3.ownsRow w0.heap.size 9 1 (.slice (some ⟨g3, 0, none⟩) (zs ++ [t]).length c3) (zs ++ [t]).length (strs (zs ++ [t])) := by
        rw [strs_snoc, len_snoc, hsz0]; rw [hv] at hown3; exact hown3
      have HO4 := Lib.hid hown4
      have HB4 : Hid (Below w.heap.size w w3) := Lib.hid (by
        refine (HB2.out.alloc HB2.out.size _).grown hgrow3 ?_ ?_
        · exact Nat.le_trans HB2.out.size (by simp)
        · intro q hq; have := (HW2.out.lt q hq).1; omega)
      have HC4 : Hid (Cur w3 w.heap.size (2 + 2 * (zs ++ [t]).length)) := Lib.hid (by
        rw [len_snoc]
        exact ((HC2.out.below (Below.refl _ _ |>.alloc (Nat.le_refl _) _)).kept hgrow3 (fun q hq => by have := (HW2.out.lt q hq).1; omega)).mono (by omega))
      have HZ4 : Hid (∀ z ∈ zs ++ [t], z.size ≤ 10) := Lib.hid (fun z hz => by
        rcases List.mem_append.1 hz with h | h
        · exact HZ.out z h
        · rw [List.mem_singleton] at h; rw [h]; exact HT.out)
      have HLN := Lib.hid (len_snoc zs t)
      rw [hv]
      clear hown3 hgrow3 hown4 hv
      go_wp2_with fail
      go_roundw
      case rel => exact ⟨zs.length + 1, zs ++ [t], by omega, by go_num, ⟨_, _, by rw [HLN.out]⟩, by have := HO4.out; rw [HLN.out] at this; rw [HLN.out]; exact this, HLN.out, HZ4.out, by have := HC4.out; rw [HLN.out] at this; exact this, HB4.out⟩
      case measure => simp [intOf]; omega
    · obtain rfl : m = zs.length := by omega
      have hz4 : zs.length ≤ 3 := by omega
      go_wp2_with fail
      refine (HB1.out _ _ _ 20 HCU.out (show 2 + 2 * zs.length ≤ 1048570 by omega) (by omega) (by omega)).mono ?_
      rintro e w2 ⟨b, rfl, hc2, hg2⟩
      have HW2 := Lib.hid (own_kept HW.out hg2 (fun q hq e => by have := (HW.out.lt q hq).1; injection e with e; omega))
      have HB2 := Lib.hid (HB.out.grown hg2 HB.out.size (fun q hq => by injection hq with hq; omega))
      have HC2 := Lib.hid hc2
      clear hc2 hg2
      cases b
      · go_wp2_with fail
        refine (HO.out _ _ _ HC2.out (show 2 + 2 * zs.length + 2 ≤ 1048570 by omega)).mono ?_
        rintro e w3 ⟨y, rfl, hy, hc3, hg3⟩
        have HW3 := Lib.hid (own_kept HW2.out hg3 (fun q hq e => by have := (HW2.out.lt q hq).1; injection e with e; omega))
        have HB3 := Lib.hid (HB2.out.grown hg3 HB2.out.size (fun q hq => by injection hq with hq; omega))
        have HY := Lib.hid (HS.out y hy)
        clear hc3 hg3 hy
        go_wp2_with fail
        go_ret2
        exact ⟨ad, cp, zs, y, rfl, by omega, fun z hz => by have := HZ.out z hz; omega, HY.out, by have := HW3.out; rw [hsz0] at this; exact this, HB3.out⟩
      · go_wp2_with fail
        refine (HP.out _ _ _ 20 HC2.out (show 2 + 2 * zs.length + 2 ≤ 1048570 by omega) (by omega) (by omega)).mono ?_
        rintro e w3 ⟨x, rfl, ⟨x1, x2⟩, hc3, hg3⟩
        obtain ⟨q, rfl⟩ : ∃ q : Nat, x = (q : Int) := ⟨x.toNat, by omega⟩
        have HW3 := Lib.hid (own_kept HW2.out hg3 (fun q hq e => by have := (HW2.out.lt q hq).1; injection e with e; omega))
        have HB3 := Lib.hid (HB2.out.grown hg3 HB2.out.size (fun q hq => by injection hq with hq; omega))
        have HC3 := Lib.hid hc3
        have hw0 : w0.heap.size ≤ w3.heap.size := by have h1 := HB3.out.size; have h2 := HC3.out.lt; omega
        have hmk := make_zero2 3990 3990 q rfl (by omega) w3
        have hcv := conv_zero2 (3990 + q) w3
        have HZS := Lib.hid (zeroT_size (3990 + q))
        clear hc3 hg3
        go_wp2_with (at_builtin; go_must (refine wpList_append_own _ rfl _ _ 25 rfl w0.heap.size 9 i0 (.string .empty) 1 16 Tryd.underlying25 hi hz0 hz1 hz2 rfl (by decide) _ _ _ rfl ((HW3.out.alloc _).alloc _) ⟨w3.heap.size + 1, 0, none⟩ 1 1 [.string (zeroT (3990 + q))] rfl rfl (World.news_of_block (cs := #[.string (zeroT (3990 + q))]) (t := 9) (fr := (0, 0)) (new_secondT _ _ _)) (by simp [Value.oneCell']) (show zs.length + 1 ≤ maxLen by unfold maxLen; omega) (show (zs.length + 1) * 16 ≤ 140737488355328 by omega) (Nat.le_trans hw0 (by simp; omega)) ?_))
        intro v' w4 hown3 hgrow3 _
        obtain ⟨g3, c3, hv⟩ := Go.Joins.ownsRow_form hown3 (by omega)
        have hown4 : w4.ownsRow w0.heap.size 9 1 (.slice (some ⟨g3, 0, none⟩) (zs ++ [zeroT (3990 + q)]).length c3) (zs ++ [zeroT (3990 + q)]).length (strs (zs ++ [zeroT (3990 + q)])) := by
          rw [strs_snoc, len_snoc, hsz0]; rw [hv] at hown3; exact hown3
        have HO4 := Lib.hid hown4
        have HB4 : Hid (Below w.heap.size w w4) := Lib.hid (by
          refine ((HB3.out.alloc HB3.out.size _).alloc (by have := HB3.out.size; simp; omega) _).grown hgrow3 ?_ ?_
          · exact Nat.le_trans HB3.out.size (by simp; omega)
          · intro q hq; have := (HW3.out.lt q hq).1; omega)
        have HC4 : Hid (Cur w4 w.heap.size (2 + 2 * zs.length + 2 + 2)) := Lib.hid (by
          exact ((HC3.out.below ((Below.refl _ _ |>.alloc (Nat.le_refl _) _).alloc (by simp) _)).kept hgrow3 (fun q hq => by have := (HW3.out.lt q hq).1; omega)).mono (by omega))
        have HZ4 : Hid (∀ z ∈ zs ++ [zeroT (3990 + q)], z.size ≤ 5000) := Lib.hid (fun z hz => by
          rcases List.mem_append.1 hz with h | h
          · have := HZ.out z h; omega
          · rw [List.mem_singleton] at h; rw [h, HZS.out]; omega)
        have HLN := Lib.hid (len_snoc zs (zeroT (3990 + q)))
        rw [hv]
        clear hown3 hgrow3 hown4 hv hmk hcv
        go_wp2_with fail
        refine (HO.out _ _ _ HC4.out (show 2 + 2 * zs.length + 2 + 2 ≤ 1048570 by omega)).mono ?_
        rintro e w5 ⟨y, rfl, hy, hc5, hg5⟩
        have HO5 := Lib.hid (own_kept HO4.out hg5 (fun q hq e => by have := (HO4.out.lt q hq).1; injection e with e; omega))
        have HB5 := Lib.hid (HB4.out.grown hg5 HB4.out.size (fun q hq => by injection hq with hq; omega))
        have HY := Lib.hid (HS.out y hy)
        clear hc5 hg5 hy
        go_wp2_with fail
        go_ret2
        exact ⟨_, c3, zs ++ [zeroT (3990 + q)], y, by rw [HLN.out]; rfl, by rw [HLN.out]; omega, HZ4.out, HY.out, by have := HO5.out; rw [hsz0] at this; exact this, HB5.out⟩
end Go.Proofs.YtbgfdhghhaoabaaDoor
