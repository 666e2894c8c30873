/- Are the blocks, rows and columns within bounds: both sides. -/
import Derived.Test.YtenedmkjbmbapaaRebP
import Derived.Test.YtenedmkjbmbapaaBlockS
import Derived.Test.YtenedmkjbmbapaaCntS
namespace Go.Proofs.Ytenedmkjbmbapaa
open Go.RowKit

/-- blocks that are no longer than a slice may be -/
def Fits (bs : List BlkT) : Prop := ∀ b ∈ bs, b.zs.length ≤ maxLen ∧ ∀ z ∈ b.zs, z.size ≤ maxLen
def goodB (zss : List (List ByteArray)) : Bool := zss.all fun zs => gridB zs 3
def askedM (most : Int) (r c : Int) (zss : List (List ByteArray)) : Bool := goodB zss && (inB r 1 5 && (inB c 1 5 && decide ((zss.length : Int) ≤ most)))
def askedB (r c : Int) (zss : List (List ByteArray)) : Bool := goodB zss && (inB r 1 5 && (inB c 1 5 && decide ((zss.length : Int) ≤ 4)))
theorem goodB_yes {bs : List BlkT} (h : ∀ k (hk : k < bs.length), gridB bs[k].zs 3 = true) : goodB (zssB bs) = true := by
  simp only [goodB, zssB, List.all_map, List.all_eq_true, Function.comp]
  intro b hb
  obtain ⟨k, hk, rfl⟩ := List.getElem_of_mem hb
  exact h k hk
theorem goodB_no {bs : List BlkT} {k : Nat} (hk : k < bs.length) (h : gridB bs[k].zs 3 = false) : goodB (zssB bs) = false := by
  simp only [goodB, zssB, List.all_map, List.all_eq_false, Function.comp]
  exact ⟨bs[k], List.getElem_mem hk, by rw [h]; simp⟩
theorem goodB_all {bs : List BlkT} (h : goodB (zssB bs) = true) : ∀ b ∈ bs, gridB b.zs 3 = true := by
  simpa [goodB, zssB, List.all_eq_true] using h
theorem zssB_length (bs : List BlkT) : (zssB bs).length = bs.length := by simp [zssB]
set_option maxRecDepth 100000 in
set_option maxHeartbeats 4000000 in
theorem l4Asked_any (r c : Int) (a : Option Addr) (cap : Nat) (bs : List BlkT) (w : World) (hm : bs.length ≤ maxLen) (hf : Fits bs) (hb : BlksAt w a bs) :
    Calls Try.prog 48 #[.int .i64 r, .int .i64 c, .slice a bs.length cap] w fun e w' => e = .returned (.bool (askedB r c (zssB bs))) ∧ Below w.heap.size w w' := by
  have HB0 := Lib.hid hb
  have HF := Lib.hid hf
  have HM := Lib.hid hm
  clear hb hf
  unfold maxLen at hm
  have hR := fun w => l1In_any r 1 5 w
  have hC := fun w => l1In_any c 1 5 w
  have HA : Hid (askedB r c (zssB bs) = (goodB (zssB bs) && (inB r 1 5 && (inB c 1 5 && decide ((bs.length : Int) ≤ 4))))) := Lib.hid (by rw [askedB, zssB_length])
  rw [HA.out]
  generalize inB r 1 5 = br at hR ⊢
  generalize inB c 1 5 = bc at hC ⊢
  have HR := Lib.hid hR
  have HC := Lib.hid hC
  clear hR hC HA
  go_enter Try.func48, Try.ntmps48
  go_wp2_with fail
  go_loopw [7] (fun i wr => ∃ k : Nat, k ≤ bs.length ∧ i = .int .i64 k ∧ Hid (∀ j (_ : j < k) (hj2 : j < bs.length), gridB bs[j].zs 3 = true) ∧ Below w.heap.size w wr) (fun i _ => bs.length - (intOf i).toNat)
  case atStart => exact ⟨0, Nat.zero_le _, rfl, Lib.hid (fun j hj => by omega), Below.refl _ _⟩
  case round =>
    obtain ⟨k, hk, rfl, hyes, hbel⟩ := hrel
    have HB := Lib.hid hbel
    by_cases hlt : k < bs.length
    · have hbb := HB0.out.below hbel
      rcases hbb.outer with h0 | ⟨b, off, rfl, hb2, hc⟩
      · have := blks_length bs; rw [h0] at this; simp at this; omega
      have c0 := hc _ _ (blks_get hlt)
      have hin := hbb.inner _ (List.getElem_mem hlt)
      have hfk := HF.out _ (List.getElem_mem hlt)
      have hcon := specIsBlock_any bs[k].ad bs[k].cap bs[k].zs wr hfk.1 hfk.2 hin
      clear hbb hin hfk hc hbel
      cases hs : gridB bs[k].zs 3
      all_goals
        rw [hs] at hcon
        have HCN := Lib.hid hcon
        have HS := Lib.hid hs
        clear hcon hs
      · have HNO := Lib.hid (goodB_no hlt HS.out)
        go_wp2_with fail
        refine HCN.out.mono ?_
        rintro e w1 ⟨rfl, hb⟩
        have HB1 := Lib.hid (HB.out.trans (hb.mono HB.out.size))
        clear hb c0
        go_wp2_with fail
        go_ret
        exact ⟨by rw [HNO.out]; rfl, HB1.out⟩
      · go_wp2_with fail
        refine HCN.out.mono ?_
        rintro e w1 ⟨rfl, hb⟩
        have HB1 := Lib.hid (HB.out.trans (hb.mono HB.out.size))
        clear hb c0
        go_wp2_with fail
        go_roundw
        case rel => exact ⟨k + 1, by omega, by go_num, Lib.hid (fun j hj hj2 => by
          by_cases e : j = k
          · subst e; exact HS.out
          · exact hyes.out j (by omega) hj2), HB1.out⟩
        case measure => simp [intOf]; omega
    · obtain rfl : k = bs.length := by omega
      have HY := Lib.hid (goodB_yes (fun j hj => hyes.out j hj hj))
      clear hyes hbel
      cases br <;> cases bc
      all_goals
        go_wp2_with (go_at_call 49; (first | (with_reducible refine (HR.out _).mono ?_) | (with_reducible refine (HC.out _).mono ?_)); rintro e w' ⟨rfl, rfl⟩)
        go_ret
        exact ⟨by rw [HY.out]; simp, HB.out⟩
theorem askClo_any (b : BlkT) (w : World) (hm : b.zs.length ≤ maxLen) (hz : ∀ z ∈ b.zs, z.size ≤ maxLen) (hr : Reads w b.ad (strs b.zs)) :
    Calls Try.prog 91 #[b.val] w fun e w' => e = .returned (.bool (!gridB b.zs 3)) ∧ Below w.heap.size w w' := by
  obtain ⟨ad, cp, zs⟩ := b
  have B0 := Lib.hid (Go.Joins.below_alloc1 w (.cells #[.slice ad zs.length cp] 45))
  have BX := Lib.hid (RowIs.new w 45 [.slice ad zs.length cp])
  have HR := Lib.hid (hr.below B0.out)
  have HC := Lib.hid (fun w hr => isBlock_any ad cp zs w hm hz hr)
  simp only
  clear hr hm hz
  go_enter Try.func91, Try.ntmps91
  go_wp2_with fail
  have c0 := BX.out.cell (j := 0) rfl
  generalize w.alloc (.cells #[.slice ad zs.length cp] 45) = w0 at *
  go_wp2_with fail
  refine (HC.out _ HR.out).mono ?_
  rintro e w1 ⟨rfl, hb⟩
  have HB := Lib.hid (B0.out.trans (hb.mono B0.out.size))
  clear hb c0
  go_wp2_with fail
  go_ret
  exact ⟨rfl, HB.out⟩
set_option maxHeartbeats 1000000 in
theorem indexAsk_any (a : Option Addr) (cap : Nat) (bs : List BlkT) (w : World) (hm : bs.length ≤ maxLen) (hf : Fits bs) (hb : BlksAt w a bs) :
    Calls Try.prog 102 #[.slice a bs.length cap, .func (.func 91) #[] #[]] w fun e w' => ∃ z : Int, e = .returned (.int .i64 z) ∧ decide (0 ≤ z) = (!goodB (zssB bs)) ∧ Below w.heap.size w w' := by
  have HB0 := Lib.hid hb
  have HF := Lib.hid hf
  clear hb hf
  unfold maxLen at hm
  go_enter Try.func102, Try.ntmps102
  go_wp2_with fail
  go_loopw [8] (fun i wr => ∃ k : Nat, k ≤ bs.length ∧ i = .int .i64 k ∧ Hid (∀ j (_ : j < k) (hj2 : j < bs.length), gridB bs[j].zs 3 = true) ∧ Below w.heap.size w wr) (fun i _ => bs.length - (intOf i).toNat)
  case atStart => exact ⟨0, Nat.zero_le _, rfl, Lib.hid (fun j hj => by omega), Below.refl _ _⟩
  case round =>
    obtain ⟨k, hk, rfl, hyes, hbel⟩ := hrel
    have HB := Lib.hid hbel
    by_cases hlt : k < bs.length
    · have hbb := HB0.out.below hbel
      rcases hbb.outer with h0 | ⟨b, off, rfl, hb2, hc⟩
      · have := blks_length bs; rw [h0] at this; simp at this; omega
      have c0 := hc _ _ (blks_get hlt)
      have hin := hbb.inner _ (List.getElem_mem hlt)
      have hfk := HF.out _ (List.getElem_mem hlt)
      have hcon := askClo_any bs[k] wr hfk.1 hfk.2 hin
      clear hbb hin hfk hc hbel
      cases hs : gridB bs[k].zs 3
      all_goals
        rw [hs] at hcon
        have HCN := Lib.hid hcon
        have HS := Lib.hid hs
        clear hcon hs
      · have HNO := Lib.hid (goodB_no hlt HS.out)
        go_wp2_with fail
        refine HCN.out.mono ?_
        rintro e w1 ⟨rfl, hb⟩
        have HB1 := Lib.hid (HB.out.trans (hb.mono HB.out.size))
        clear hb c0
        go_wp2_with fail
        go_ret
        exact ⟨_, rfl, by rw [HNO.out]; simp, HB1.out⟩
      · go_wp2_with fail
        refine HCN.out.mono ?_
        rintro e w1 ⟨rfl, hb⟩
        have HB1 := Lib.hid (HB.out.trans (hb.mono HB.out.size))
        clear hb c0
        go_wp2_with fail
        go_roundw
        case rel => exact ⟨k + 1, by omega, by go_num, Lib.hid (fun j hj hj2 => by
          by_cases e : j = k
          · subst e; exact HS.out
          · exact hyes.out j (by omega) hj2), HB1.out⟩
        case measure => simp [intOf]; omega
    · obtain rfl : k = bs.length := by omega
      have HY := Lib.hid (goodB_yes (fun j hj => hyes.out j hj hj))
      clear hyes hbel
      go_wp2_with fail
      go_ret
      exact ⟨_, rfl, by rw [HY.out]; rfl, HB.out⟩
theorem hasAsk_any (a : Option Addr) (cap : Nat) (bs : List BlkT) (w : World) (hm : bs.length ≤ maxLen) (hf : Fits bs) (hb : BlksAt w a bs) :
    Calls Try.prog 90 #[.slice a bs.length cap, .func (.func 91) #[] #[]] w fun e w' => e = .returned (.bool (!goodB (zssB bs))) ∧ Below w.heap.size w w' := by
  have H := Lib.hid (indexAsk_any a cap bs w hm hf hb)
  clear hb hf hm
  go_enter Try.func90, Try.ntmps90
  go_wp2_with fail
  refine H.out.mono ?_
  rintro e w1 ⟨z, rfl, hz, hb⟩
  have HZ := Lib.hid hz
  have HB := Lib.hid hb
  clear hz hb
  go_wp2_with fail
  go_ret
  exact ⟨by rw [← HZ.out]; rfl, HB.out⟩
set_option maxHeartbeats 1000000 in
theorem rebuildingFitsM_any (most : Int) (r c : Int) (a : Option Addr) (cap : Nat) (bs : List BlkT) (w : World) (hm : bs.length ≤ maxLen) (hf : Fits bs) (hb : BlksAt w a bs) :
    Calls Try.prog 53 #[.int .i64 r, .int .i64 c, .slice a bs.length cap, .int .i64 most] w fun e w' => e = .returned (.bool (askedM most r c (zssB bs))) ∧ Below w.heap.size w w' := by
  have H := Lib.hid (hasAsk_any a cap bs w hm hf hb)
  have hR := fun w => inRange_any r 1 5 w
  have hC := fun w => inRange_any c 1 5 w
  have HA : Hid (askedM most r c (zssB bs) = (goodB (zssB bs) && (inB r 1 5 && (inB c 1 5 && decide ((bs.length : Int) ≤ most))))) := Lib.hid (by rw [askedM, zssB_length])
  rw [HA.out]
  generalize inB r 1 5 = br at hR ⊢
  generalize inB c 1 5 = bc at hC ⊢
  generalize goodB (zssB bs) = gd at H ⊢
  have HR := Lib.hid hR
  have HC := Lib.hid hC
  clear hR hC HA hb hf hm
  cases e4 : decide ((bs.length : Int) ≤ most) <;> cases br <;> cases bc
  all_goals
    go_enter Try.func53, Try.ntmps53
    go_wp2_with (first | (go_at_call 54; (first | (with_reducible refine (HR.out _).mono ?_) | (with_reducible refine (HC.out _).mono ?_)); rintro e w' ⟨rfl, rfl⟩) | (go_at_call 90; refine H.out.mono ?_; rintro e w1 ⟨rfl, hb⟩))
    go_ret
    first | exact ⟨by simp, Below.refl _ _⟩ | exact ⟨by simp, hb⟩
theorem rebuildingFits_any (r c : Int) (a : Option Addr) (cap : Nat) (bs : List BlkT) (w : World) (hm : bs.length ≤ maxLen) (hf : Fits bs) (hb : BlksAt w a bs) :
    Calls Try.prog 53 #[.int .i64 r, .int .i64 c, .slice a bs.length cap, .int .i64 4] w fun e w' => e = .returned (.bool (askedB r c (zssB bs))) ∧ Below w.heap.size w w' := rebuildingFitsM_any 4 r c a cap bs w hm hf hb
end Go.Proofs.Ytenedmkjbmbapaa
