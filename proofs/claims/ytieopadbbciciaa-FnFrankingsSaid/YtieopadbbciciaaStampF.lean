/- CanFrank: both sides find the same rates. -/
import Derived.Test.YtieopadbbciciaaStampC
import Derived.Test.YtieopadbbciciaaRowX
namespace Go.Proofs.Ytieopadbbciciaa
open Go.RowKit

abbrev boolsV (bs : List Bool) : List Value := bs.map Value.bool
def canOne (row : List Bool) (v : Nat) (c : StampT) : Bool := decide (0 < c.face) && decide (c.face ≤ (v : Int)) && row.getD (v - c.face.toNat) false
/-- which values from 0 to v have a franking -/
def canL (zs : List StampT) : Nat → List Bool
  | 0 => [true]
  | v + 1 => canL zs v ++ [zs.any (canOne (canL zs v) (v + 1))]
theorem canL_length (zs : List StampT) (v : Nat) : (canL zs v).length = v + 1 := by
  induction v with
  | zero => rfl
  | succ v ih => rw [canL, List.length_append, ih]; rfl
def canB (zs : List StampT) (v : Nat) : Bool := zs.any (canOne (canL zs v) (v + 1))
def canIds (zs : List StampT) : Nat → List Int
  | 0 => []
  | v + 1 => if canB zs v = true then canIds zs v ++ [(v : Int) + 1] else canIds zs v
theorem canIds_le (zs : List StampT) (v : Nat) : (canIds zs v).length ≤ v := by
  induction v with
  | zero => exact Nat.le_refl _
  | succ v ih => rw [canIds]; split <;> (try simp) <;> omega
def canRow (zs : List StampT) (m v : Nat) : List Value := boolsV (canL zs v ++ List.replicate (m - v) false)
def canAny (zs : List StampT) (v j : Nat) : Bool := (zs.take j).any (canOne (canL zs v) (v + 1))
def canRowTo (zs : List StampT) (m v j : Nat) : List Value := boolsV (canL zs v ++ canAny zs v j :: List.replicate (m - v - 1) false)
theorem canRow_start {zs : List StampT} {m v : Nat} (h : v < m) : canRow zs m v = canRowTo zs m v 0 := by
  simp only [canRow, canRowTo, canAny]
  rw [show m - v = (m - v - 1) + 1 from by omega, List.replicate_succ]
  simp
theorem canRow_done {zs : List StampT} {m v : Nat} : canRowTo zs m v zs.length = canRow zs m (v + 1) := by
  simp only [canRow, canRowTo, canAny, canL, List.take_length, List.append_assoc, List.singleton_append]
  rw [show m - v - 1 = m - (v + 1) from by omega]
theorem canAny_succ {zs : List StampT} {v j : Nat} (h : j < zs.length) : canAny zs v (j + 1) = (canAny zs v j || canOne (canL zs v) (v + 1) zs[j]) := by
  unfold canAny
  rw [List.take_succ_eq_append_getElem h, List.any_append]
  simp
theorem canRow_no {zs : List StampT} {m v j : Nat} (h : j < zs.length) (hc : canOne (canL zs v) (v + 1) zs[j] = false) : canRowTo zs m v (j + 1) = canRowTo zs m v j := by
  simp only [canRowTo, canAny_succ h, hc, Bool.or_false]
theorem canRow_yes {zs : List StampT} {m v j : Nat} (h : j < zs.length) (hc : canOne (canL zs v) (v + 1) zs[j] = true) : (canRowTo zs m v j).set (v + 1) (.bool true) = canRowTo zs m v (j + 1) := by
  simp only [canRowTo, canAny_succ h, hc, Bool.or_true, boolsV, List.map_append, List.map_cons]
  rw [List.set_append_right _ _ (by simp [canL_length])]
  simp [canL_length]
theorem canRow_get {zs : List StampT} {m v j q : Nat} (h : q ≤ v) : (canRowTo zs m v j)[q]? = some (.bool ((canL zs v).getD q false)) := by
  have hl := canL_length zs v
  simp only [canRowTo, boolsV, List.map_append, List.map_cons]
  rw [List.getElem?_append_left (by simp; omega)]
  simp [List.getD, show q < (canL zs v).length by omega]
theorem canRow_at {zs : List StampT} {m v j : Nat} : (canRowTo zs m v j)[v + 1]? = some (.bool (canAny zs v j)) := by
  have hl := canL_length zs v
  simp only [canRowTo, boolsV, List.map_append, List.map_cons]
  rw [List.getElem?_append_right (by simp; omega)]
  simp [hl]
theorem canAny_all (zs : List StampT) (v : Nat) : canAny zs v zs.length = canB zs v := by simp [canAny, canB]
theorem info_boolS : (Try.prog.info? 4).map (fun i => (i.zero, i.size, i.bytes)) = some (some (.bool false), 1, 1) := by kernel_rfl
theorem make_bools (m : Nat) (hn : m ≤ 2097150) (u : World) : (Instr.makeSlice 71 (.int .i64 ((m : Int) + 1)) (.int .i64 ((m : Int) + 1))).run Try.prog u =
    .ok (.slice (some ⟨u.heap.size, 0, none⟩) (m + 1) (m + 1)) (u.alloc (.cells (List.replicate (m + 1) (Value.bool false)).toArray 4)) := by
  obtain ⟨i0, hi, hz0, hz1, hz2⟩ := info_parts info_boolS
  have h := run_make (P := Try.prog) u 71 4 i0 (.bool false) Try.underlying71 hi hz0 .i64 .i64 ((m + 1 : Nat) : Int) ((m + 1 : Nat) : Int) (by omega) (Int.le_refl _) (by rw [hz2]; omega) (by omega)
  have e1 : madeCells #[Value.bool false] (m + 1) = (List.replicate (m + 1) (Value.bool false)).toArray := by
    apply Array.ext'
    rw [toList_madeCells_one]
  rw [← e1, show ((m : Int) + 1) = ((m + 1 : Nat) : Int) from by omega]
  simpa [hz1, Value.cells] using h
theorem canRow_first (zs : List StampT) (m : Nat) : canRow zs m 0 = (List.replicate (m + 1) (Value.bool false)).set 0 (.bool true) := by
  simp [canRow, canL, List.replicate_succ]
theorem rowFirst (u : World) (zs : List StampT) (m : Nat) : RowIs (u.alloc (.cells ((List.replicate (m + 1) (Value.bool false)).toArray.setIfInBounds 0 (.bool true)) 4)) u.heap.size 4 (canRow zs m 0) := by
  unfold RowIs
  rw [heap_alloc_new, canRow_first, List.setIfInBounds_toArray]
def cAsk (zs : List StampT) (q : Int) : Bool := stampsOk zs && inB q 1 500
set_option maxRecDepth 100000 in
set_option maxHeartbeats 4000000 in
theorem specCan_any (a : Option Addr) (cap : Nat) (zs : List StampT) (q : Int) (w : World) (hm : zs.length ≤ maxLen) (hr : Reads w a (stamps zs)) :
    Calls Try.prog 26 #[.slice a zs.length cap, .int .i64 q] w fun e w' => ∃ ad cp, e = .returned (.tuple #[.slice ad (if cAsk zs q = true then canIds zs q.toNat else []).length cp, .bool (cAsk zs q)]) ∧
      w'.ownsRow w.heap.size 3 1 (.slice ad (if cAsk zs q = true then canIds zs q.toNat else []).length cp) (if cAsk zs q = true then canIds zs q.toNat else []).length (ints (if cAsk zs q = true then canIds zs q.toNat else [])) ∧ Below w.heap.size w w' := by
  obtain ⟨i0, hi, hz0, hz1, hz2⟩ := info_parts info_int
  have hA := fun w hr => l2Stamps_any a cap zs w hm hr
  have hown0 := Lib.hid (RowIs.owns (RowIs.made' w 3 ([] : List Value)) (n := 0) (sz := 1) rfl (by unfold maxLen; omega) (Nat.le_refl _))
  have hb0 := Lib.hid (Go.Joins.below_alloc1 w (.cells ([] : List Value).toArray 3))
  have HR := Lib.hid hr
  clear hr
  cases hask : cAsk zs q
  · simp only [Bool.false_eq_true, if_false]
    cases e1 : stampsOk zs
    · rw [e1] at hA
      have HA := Lib.hid hA
      clear hA hask
      unfold maxLen at hm
      go_enter Try.func26, Try.ntmps26
      go_wp2_with fail
      refine (HA.out _ (HR.out.below (Go.Joins.below_alloc1 w _))).mono ?_
      rintro e w1 ⟨rfl, hb⟩
      have HB := Lib.hid hb
      clear hb
      go_wp2_with fail
      go_ret2
      exact ⟨_, _, rfl, own_below hown0.out HB.out, hb0.out.trans (HB.out.mono hb0.out.size)⟩
    · rw [e1] at hA
      have HA := Lib.hid hA
      clear hA
      cases e2 : inB q 1 500
      · clear hask
        unfold maxLen at hm
        go_enter Try.func26, Try.ntmps26
        go_wp2_with fail
        refine (HA.out _ (HR.out.below (Go.Joins.below_alloc1 w _))).mono ?_
        rintro e w1 ⟨rfl, hb⟩
        have HB := Lib.hid hb
        clear hb
        go_wp2_with (go_at_call 30; refine (l1In_any _ _ _ _).mono ?_; rintro e w' ⟨rfl, rfl⟩)
        go_ret2
        exact ⟨_, _, rfl, own_below hown0.out HB.out, hb0.out.trans (HB.out.mono hb0.out.size)⟩
      · exfalso; simp [cAsk, e1, e2] at hask
  · simp only [if_true]
    have hask2 := hask
    simp only [cAsk, Bool.and_eq_true] at hask2
    obtain ⟨e1, e2⟩ := hask2
    obtain ⟨q1, q2⟩ := inB_true.1 e2
    obtain ⟨m, rfl⟩ : ∃ m : Nat, q = (m : Int) := ⟨q.toNat, by omega⟩
    rw [e1] at hA
    have HA := Lib.hid hA
    have h12 := stampsOk_len e1
    have HZ := Lib.hid e1
    have HMK := Lib.hid (fun u => make_bools m (by omega) u)
    have q3 : m ≤ 500 := by omega
    have q4 : 1 ≤ m := by omega
    rw [Int.toNat_natCast]
    clear hA hask e1 q1 q2
    unfold maxLen at hm
    go_enter Try.func26, Try.ntmps26
    go_wp2_with fail
    refine (HA.out _ (HR.out.below (Go.Joins.below_alloc1 w _))).mono ?_
    rintro e w1 ⟨rfl, hb⟩
    have HB := Lib.hid hb
    have hmk := HMK.out
    clear hb
    go_wp2_with (go_at_call 30; refine (l1In_any _ _ _ _).mono ?_; rintro e w' ⟨rfl, rfl⟩)
    go_loopw [6, 8] (fun o i wr => ∃ v : Nat, v ≤ m ∧ i = .int .i64 ((v : Int) + 1) ∧ (∃ ad cp, o = .slice ad (canIds zs v).length cp) ∧ wr.ownsRow w.heap.size 3 1 o (canIds zs v).length (ints (canIds zs v)) ∧
      RowIs wr w1.heap.size 4 (canRow zs m v) ∧ Below w.heap.size w wr) (fun _ i _ => m + 1 - (intOf i).toNat)
    case atStart => exact ⟨0, Nat.zero_le _, rfl, ⟨_, _, rfl⟩, own_below hown0.out (HB.out.alloc HB.out.size _), rowFirst w1 zs m, (hb0.out.trans (HB.out.mono hb0.out.size)).alloc (hb0.out.trans (HB.out.mono hb0.out.size)).size _⟩
    case round =>
      obtain ⟨v, hv, rfl, ⟨ad, cp, rfl⟩, hown, hrow, hbel⟩ := hrel
      have hlen := canIds_le zs v
      by_cases hlt : v < m
      · rw [canRow_start hlt] at hrow
        have HO := Lib.hid hown
        have HROW := Lib.hid hrow
        have HB1 := Lib.hid hbel
        have hne := Lib.hid (own_row_ne hown hrow (by decide))
        have hge : w.heap.size ≤ w1.heap.size := (hb0.out.trans (HB.out.mono hb0.out.size)).size
        have hdec : decide ((v : Int) + 1 ≤ (m : Int)) = true := by simp; omega
        clear hown hrow hbel hmk hv
        go_wp2_with fail
        obtain ⟨wo, rfl⟩ : ∃ wo : World, wo = wr := ⟨_, rfl⟩
        go_loopw [9] (fun i wi => ∃ j : Nat, j ≤ zs.length ∧ i = .int .i64 j ∧ wi.ownsRow w.heap.size 3 1 (.slice ad (canIds zs v).length cp) (canIds zs v).length (ints (canIds zs v)) ∧
          RowIs wi w1.heap.size 4 (canRowTo zs m v j) ∧ Below w.heap.size w wi) (fun i _ => zs.length - (intOf i).toNat)
        case atStart => exact ⟨0, Nat.zero_le _, rfl, HO.out, HROW.out, HB1.out⟩
        case round =>
          obtain ⟨j, hj, rfl, hown, hrow, hbel⟩ := hrel
          by_cases hjl : j < zs.length
          · rcases HR.out.below hbel with h0 | ⟨b, bo, rfl, hb2, hc⟩
            · have := stamps_length zs; rw [h0] at this; simp at this; omega
            obtain ⟨g0, g1, g2, g3⟩ := stamps_get hjl
            have hc0 := hc _ _ g0
            have hc1 := hc _ _ g1
            have hc2 := hc _ _ g2
            have hc3 := hc _ _ g3
            simp only [← Nat.add_assoc] at hc1 hc2 hc3
            obtain ⟨f1, f2⟩ := (stampOk_bd (stampsOk_at HZ.out hjl)).2.1
            obtain ⟨F, hF⟩ : ∃ F : Nat, zs[j].face = (F : Int) := ⟨zs[j].face.toNat, by omega⟩
            have HOI := Lib.hid hown
            have HRI := Lib.hid hrow
            have HBI := Lib.hid hbel
            have hdef := Lib.hid (show canOne (canL zs v) (v + 1) zs[j] = (decide (0 < F) && decide (F ≤ v + 1) && (canL zs v).getD (v + 1 - F) false) by
              simp only [canOne, hF, Int.toNat_natCast]
              congr 2
              · simp
              · simp; omega)
            rw [hF] at hc1 f1 f2
            clear hc g0 g1 g2 g3 hown hbel
            by_cases hF0 : 0 < F
            · by_cases hFv : F ≤ v + 1
              · have hq : v + 1 - F ≤ v := by omega
                have hcell := hrow.cell (canRow_get (j := j) hq)
                have hi64 : ((v : Int) + 1 - (F : Int)).toNat = v + 1 - F := by omega
                cases hb : (canL zs v).getD (v + 1 - F) false
                · have hno := Lib.hid (canRow_no (m := m) hjl (by rw [hdef.out, hb]; simp))
                  rw [hb] at hcell
                  clear hb hF hrow
                  go_wp2_with fail
                  go_roundw
                  case rel => exact ⟨j + 1, by omega, by go_num, HOI.out, by rw [hno.out]; exact HRI.out, HBI.out⟩
                  case measure => simp [intOf]; omega
                · have hyes := Lib.hid (canRow_yes (m := m) hjl (by rw [hdef.out, hb]; simp [hF0, hFv]))
                  rw [hb] at hcell
                  have hcell2 := hrow.cell (canRow_at (j := j))
                  have hfr := hrow.free (v + 1)
                  clear hb hF hrow
                  go_wp2_with fail
                  go_roundw
                  case rel => exact ⟨j + 1, by omega, by go_num, own_far HOI.out (p := ⟨w1.heap.size, v + 1, none⟩) hne.out _, by rw [← hyes.out]; exact HRI.out.set _ _, HBI.out.setCell (p := ⟨w1.heap.size, v + 1, none⟩) hge _⟩
                  case measure => simp [intOf]; omega
              · have hFv2 : v + 1 < F := by omega
                have hno := Lib.hid (canRow_no (m := m) hjl (by rw [hdef.out]; simp [hFv]))
                clear hF hrow hFv
                go_wp2_with fail
                go_roundw
                case rel => exact ⟨j + 1, by omega, by go_num, HOI.out, by rw [hno.out]; exact HRI.out, HBI.out⟩
                case measure => simp [intOf]; omega
            · have hF2 : F ≤ 0 := by omega
              have hno := Lib.hid (canRow_no (m := m) hjl (by rw [hdef.out]; simp [hF0]))
              clear hF hrow hF0
              go_wp2_with fail
              go_roundw
              case rel => exact ⟨j + 1, by omega, by go_num, HOI.out, by rw [hno.out]; exact HRI.out, HBI.out⟩
              case measure => simp [intOf]; omega
          · obtain rfl : j = zs.length := by omega
            rw [canRow_done] at hrow
            have hcell := hrow.cell (j := v + 1) (u := .bool (canB zs v)) (by
              have h9 := canRow_at (zs := zs) (m := m) (v := v) (j := zs.length)
              rw [canRow_done, canAny_all] at h9; exact h9)
            have HO2 := Lib.hid hown
            have HR2 := Lib.hid hrow
            have HB2 := Lib.hid hbel
            clear hown hrow hbel
            cases hcb : canB zs v
            · have hst := Lib.hid (show canIds zs (v + 1) = canIds zs v by rw [canIds, hcb]; simp)
              rw [hcb] at hcell
              clear hcb
              go_wp2_with fail
              go_roundw
              case rel => exact ⟨v + 1, by omega, by go_num, ⟨_, _, by rw [hst.out]⟩, by rw [hst.out]; exact HO2.out, HR2.out, HB2.out⟩
              case measure => simp [intOf]; omega
            · have hst := Lib.hid (show canIds zs (v + 1) = canIds zs v ++ [(v : Int) + 1] by rw [canIds, hcb]; simp)
              rw [hcb] at hcell
              clear hcb
              go_wp2_with (at_builtin; go_must (refine wpList_append_own _ rfl _ _ 24 rfl w.heap.size 3 i0 (.int .i64 0) 1 8 Try.underlying24 hi hz0 hz1 hz2 rfl (by decide) _ _ _ rfl (HO2.out.alloc _) ⟨wr.heap.size, 0, none⟩ 1 1 [.int .i64 ((v : Int) + 1)] rfl rfl (World.news_of_block (cs := #[.int .i64 ((v : Int) + 1)]) (t := 3) (fr := (0, 0)) (heap_alloc_new _ _)) (by simp [Value.oneCell']) (by unfold maxLen; omega) (by omega) (Nat.le_trans HB2.out.size (by simp)) ?_))
              intro v' w3 hown3 hgrow3 _
              obtain ⟨g3, c3, hvv⟩ := Go.Joins.ownsRow_form hown3 (by omega)
              have hidl : (canIds zs (v + 1)).length = (canIds zs v).length + 1 := by rw [hst.out]; simp
              have hown4 : w3.ownsRow w.heap.size 3 1 (.slice (some ⟨g3, 0, none⟩) ((canIds zs v).length + 1) c3) (canIds zs (v + 1)).length (ints (canIds zs (v + 1))) := by
                rw [hidl, hst.out]; rw [hvv] at hown3; simpa [ints] using hown3
              have hne2 := own_row_ne HO2.out HR2.out (by decide)
              have HR3 := Lib.hid ((HR2.out.alloc _).grown hgrow3 (fun e => hne2 e.symm))
              have HO4 := Lib.hid hown4
              have HL4 := Lib.hid hidl
              have HB4 := Lib.hid ((HB2.out.alloc HB2.out.size _).grown hgrow3 (Nat.le_trans HB2.out.size (by simp)) (fun q hq => (HO2.out.lt q hq).1))
              rw [hvv]
              clear hown3 hgrow3 hown4 hidl hvv hne2
              go_wp2_with fail
              go_roundw
              case rel => exact ⟨v + 1, by omega, by go_num, ⟨_, _, by rw [HL4.out]⟩, HO4.out, HR3.out, HB4.out⟩
              case measure => simp [intOf]; omega
      · obtain rfl : v = m := by omega
        clear hrow
        go_wp2_with fail
        go_ret2
        exact ⟨_, _, rfl, hown, hbel⟩
set_option maxRecDepth 100000 in
set_option maxHeartbeats 4000000 in
theorem implCan_any (a : Option Addr) (cap : Nat) (zs : List StampT) (q : Int) (w : World) (hm : zs.length ≤ maxLen) (hr : Reads w a (stamps zs)) :
    Calls Try.prog 22 #[.slice a zs.length cap, .int .i64 q] w fun e w' => ∃ ad cp, e = .returned (.tuple #[.slice ad (if cAsk zs q = true then canIds zs q.toNat else []).length cp, .bool (cAsk zs q)]) ∧
      w'.ownsRow w.heap.size 3 1 (.slice ad (if cAsk zs q = true then canIds zs q.toNat else []).length cp) (if cAsk zs q = true then canIds zs q.toNat else []).length (ints (if cAsk zs q = true then canIds zs q.toNat else [])) ∧ Below w.heap.size w w' := by
  obtain ⟨i0, hi, hz0, hz1, hz2⟩ := info_parts info_int
  have hA := fun w hr => areStamps_any a cap zs w hm hr
  have HR := Lib.hid hr
  clear hr
  cases hask : cAsk zs q
  · simp only [Bool.false_eq_true, if_false]
    cases e1 : stampsOk zs
    · rw [e1] at hA
      have HA := Lib.hid hA
      clear hA hask
      unfold maxLen at hm
      go_enter Try.func22, Try.ntmps22
      go_wp2_with fail
      refine (HA.out _ HR.out).mono ?_
      rintro e w1 ⟨rfl, hb⟩
      have HB := Lib.hid hb
      clear hb
      go_wp2_with fail
      go_ret2
      exact ⟨none, 0, rfl, World.ownsRow_nil _ _ _ _, HB.out⟩
    · rw [e1] at hA
      have HA := Lib.hid hA
      clear hA
      cases e2 : inB q 1 500
      · clear hask
        unfold maxLen at hm
        go_enter Try.func22, Try.ntmps22
        go_wp2_with fail
        refine (HA.out _ HR.out).mono ?_
        rintro e w1 ⟨rfl, hb⟩
        have HB := Lib.hid hb
        clear hb
        go_wp2_with (go_at_call 34; refine (inRange_any _ _ _ _).mono ?_; rintro e w' ⟨rfl, rfl⟩)
        go_ret2
        exact ⟨none, 0, rfl, World.ownsRow_nil _ _ _ _, HB.out⟩
      · exfalso; simp [cAsk, e1, e2] at hask
  · simp only [if_true]
    have hask2 := hask
    simp only [cAsk, Bool.and_eq_true] at hask2
    obtain ⟨e1, e2⟩ := hask2
    obtain ⟨q1, q2⟩ := inB_true.1 e2
    obtain ⟨m, rfl⟩ : ∃ m : Nat, q = (m : Int) := ⟨q.toNat, by omega⟩
    rw [e1] at hA
    have HA := Lib.hid hA
    have h12 := stampsOk_len e1
    have HZ := Lib.hid e1
    have HMK := Lib.hid (fun u => make_bools m (by omega) u)
    have q3 : m ≤ 500 := by omega
    have q4 : 1 ≤ m := by omega
    rw [Int.toNat_natCast]
    clear hA hask e1 q1 q2
    unfold maxLen at hm
    go_enter Try.func22, Try.ntmps22
    go_wp2_with fail
    refine (HA.out _ HR.out).mono ?_
    rintro e w1 ⟨rfl, hb⟩
    have HB := Lib.hid hb
    have hmk := HMK.out
    clear hb
    go_wp2_with (go_at_call 34; refine (inRange_any _ _ _ _).mono ?_; rintro e w' ⟨rfl, rfl⟩)
    go_loopw [7, 8] (fun o i wr => ∃ v : Nat, v ≤ m ∧ i = .int .i64 ((v : Int) + 1) ∧ (∃ ad cp, o = .slice ad (canIds zs v).length cp) ∧ wr.ownsRow w.heap.size 3 1 o (canIds zs v).length (ints (canIds zs v)) ∧
      RowIs wr w1.heap.size 4 (canRow zs m v) ∧ Below w.heap.size w wr) (fun _ i _ => m + 1 - (intOf i).toNat)
    case atStart => exact ⟨0, Nat.zero_le _, rfl, ⟨none, 0, rfl⟩, World.ownsRow_nil _ _ _ _, rowFirst w1 zs m, (HB.out).alloc (HB.out).size _⟩
    case round =>
      obtain ⟨v, hv, rfl, ⟨ad, cp, rfl⟩, hown, hrow, hbel⟩ := hrel
      have hlen := canIds_le zs v
      by_cases hlt : v < m
      · rw [canRow_start hlt] at hrow
        have HO := Lib.hid hown
        have HROW := Lib.hid hrow
        have HB1 := Lib.hid hbel
        have hne := Lib.hid (own_row_ne hown hrow (by decide))
        have hge : w.heap.size ≤ w1.heap.size := (HB.out).size
        have hdec : decide ((v : Int) + 1 ≤ (m : Int)) = true := by simp; omega
        clear hown hrow hbel hmk hv
        go_wp2_with fail
        obtain ⟨wo, rfl⟩ : ∃ wo : World, wo = wr := ⟨_, rfl⟩
        go_loopw [31] (fun i wi => ∃ j : Nat, j ≤ zs.length ∧ i = .int .i64 j ∧ wi.ownsRow w.heap.size 3 1 (.slice ad (canIds zs v).length cp) (canIds zs v).length (ints (canIds zs v)) ∧
          RowIs wi w1.heap.size 4 (canRowTo zs m v j) ∧ Below w.heap.size w wi) (fun i _ => zs.length - (intOf i).toNat)
        case atStart => exact ⟨0, Nat.zero_le _, rfl, HO.out, HROW.out, HB1.out⟩
        case round =>
          obtain ⟨j, hj, rfl, hown, hrow, hbel⟩ := hrel
          by_cases hjl : j < zs.length
          · rcases HR.out.below hbel with h0 | ⟨b, bo, rfl, hb2, hc⟩
            · have := stamps_length zs; rw [h0] at this; simp at this; omega
            obtain ⟨g0, g1, g2, g3⟩ := stamps_get hjl
            have hc0 := hc _ _ g0
            have hc1 := hc _ _ g1
            have hc2 := hc _ _ g2
            have hc3 := hc _ _ g3
            simp only [← Nat.add_assoc] at hc1 hc2 hc3
            obtain ⟨f1, f2⟩ := (stampOk_bd (stampsOk_at HZ.out hjl)).2.1
            obtain ⟨F, hF⟩ : ∃ F : Nat, zs[j].face = (F : Int) := ⟨zs[j].face.toNat, by omega⟩
            have HOI := Lib.hid hown
            have HRI := Lib.hid hrow
            have HBI := Lib.hid hbel
            have hdef := Lib.hid (show canOne (canL zs v) (v + 1) zs[j] = (decide (0 < F) && decide (F ≤ v + 1) && (canL zs v).getD (v + 1 - F) false) by
              simp only [canOne, hF, Int.toNat_natCast]
              congr 2
              · simp
              · simp; omega)
            rw [hF] at hc1 f1 f2
            clear hc g0 g1 g2 g3 hown hbel
            by_cases hF0 : 0 < F
            · by_cases hFv : F ≤ v + 1
              · have hq : v + 1 - F ≤ v := by omega
                have hcell := fun o => (hrow.alloc o).cell (canRow_get (j := j) hq)
                have hi64 : ((v : Int) + 1 - (F : Int)).toNat = v + 1 - F := by omega
                cases hb : (canL zs v).getD (v + 1 - F) false
                · have hno := Lib.hid (canRow_no (m := m) hjl (by rw [hdef.out, hb]; simp))
                  rw [hb] at hcell
                  clear hb hF hrow
                  go_wp2_with fail
                  go_roundw
                  case rel => exact ⟨j + 1, by omega, by go_num, (HOI.out.alloc _), by rw [hno.out]; exact (HRI.out.alloc _), (HBI.out.alloc HBI.out.size _)⟩
                  case measure => simp [intOf]; omega
                · have hyes := Lib.hid (canRow_yes (m := m) hjl (by rw [hdef.out, hb]; simp [hF0, hFv]))
                  rw [hb] at hcell
                  have hcell2 := fun o => (hrow.alloc o).cell (canRow_at (j := j))
                  have hfr := fun o => (hrow.alloc o).free (v + 1)
                  clear hb hF hrow
                  go_wp2_with fail
                  go_roundw
                  case rel => exact ⟨j + 1, by omega, by go_num, own_far (HOI.out.alloc _) (p := ⟨w1.heap.size, v + 1, none⟩) hne.out _, by rw [← hyes.out]; exact (HRI.out.alloc _).set _ _, (HBI.out.alloc HBI.out.size _).setCell (p := ⟨w1.heap.size, v + 1, none⟩) hge _⟩
                  case measure => simp [intOf]; omega
              · have hFv2 : v + 1 < F := by omega
                have hno := Lib.hid (canRow_no (m := m) hjl (by rw [hdef.out]; simp [hFv]))
                clear hF hrow hFv
                go_wp2_with fail
                go_roundw
                case rel => exact ⟨j + 1, by omega, by go_num, (HOI.out.alloc _), by rw [hno.out]; exact (HRI.out.alloc _), (HBI.out.alloc HBI.out.size _)⟩
                case measure => simp [intOf]; omega
            · have hF2 : F ≤ 0 := by omega
              have hno := Lib.hid (canRow_no (m := m) hjl (by rw [hdef.out]; simp [hF0]))
              clear hF hrow hF0
              go_wp2_with fail
              go_roundw
              case rel => exact ⟨j + 1, by omega, by go_num, (HOI.out.alloc _), by rw [hno.out]; exact (HRI.out.alloc _), (HBI.out.alloc HBI.out.size _)⟩
              case measure => simp [intOf]; omega
          · obtain rfl : j = zs.length := by omega
            rw [canRow_done] at hrow
            have hcell := hrow.cell (j := v + 1) (u := .bool (canB zs v)) (by
              have h9 := canRow_at (zs := zs) (m := m) (v := v) (j := zs.length)
              rw [canRow_done, canAny_all] at h9; exact h9)
            have HO2 := Lib.hid hown
            have HR2 := Lib.hid hrow
            have HB2 := Lib.hid hbel
            clear hown hrow hbel
            cases hcb : canB zs v
            · have hst := Lib.hid (show canIds zs (v + 1) = canIds zs v by rw [canIds, hcb]; simp)
              rw [hcb] at hcell
              clear hcb
              go_wp2_with fail
              go_roundw
              case rel => exact ⟨v + 1, by omega, by go_num, ⟨_, _, by rw [hst.out]⟩, by rw [hst.out]; exact HO2.out, HR2.out, HB2.out⟩
              case measure => simp [intOf]; omega
            · have hst := Lib.hid (show canIds zs (v + 1) = canIds zs v ++ [(v : Int) + 1] by rw [canIds, hcb]; simp)
              rw [hcb] at hcell
              clear hcb
              go_wp2_with (at_builtin; go_must (refine wpList_append_own _ rfl _ _ 24 rfl w.heap.size 3 i0 (.int .i64 0) 1 8 Try.underlying24 hi hz0 hz1 hz2 rfl (by decide) _ _ _ rfl (HO2.out.alloc _) ⟨wr.heap.size, 0, none⟩ 1 1 [.int .i64 ((v : Int) + 1)] rfl rfl (World.news_of_block (cs := #[.int .i64 ((v : Int) + 1)]) (t := 3) (fr := (0, 0)) (heap_alloc_new _ _)) (by simp [Value.oneCell']) (by unfold maxLen; omega) (by omega) (Nat.le_trans HB2.out.size (by simp)) ?_))
              intro v' w3 hown3 hgrow3 _
              obtain ⟨g3, c3, hvv⟩ := Go.Joins.ownsRow_form hown3 (by omega)
              have hidl : (canIds zs (v + 1)).length = (canIds zs v).length + 1 := by rw [hst.out]; simp
              have hown4 : w3.ownsRow w.heap.size 3 1 (.slice (some ⟨g3, 0, none⟩) ((canIds zs v).length + 1) c3) (canIds zs (v + 1)).length (ints (canIds zs (v + 1))) := by
                rw [hidl, hst.out]; rw [hvv] at hown3; simpa [ints] using hown3
              have hne2 := own_row_ne HO2.out HR2.out (by decide)
              have HR3 := Lib.hid ((HR2.out.alloc _).grown hgrow3 (fun e => hne2 e.symm))
              have HO4 := Lib.hid hown4
              have HL4 := Lib.hid hidl
              have HB4 := Lib.hid ((HB2.out.alloc HB2.out.size _).grown hgrow3 (Nat.le_trans HB2.out.size (by simp)) (fun q hq => (HO2.out.lt q hq).1))
              rw [hvv]
              clear hown3 hgrow3 hown4 hidl hvv hne2
              go_wp2_with fail
              go_roundw
              case rel => exact ⟨v + 1, by omega, by go_num, ⟨_, _, by rw [HL4.out]⟩, HO4.out, HR3.out, HB4.out⟩
              case measure => simp [intOf]; omega
      · obtain rfl : v = m := by omega
        clear hrow
        go_wp2_with fail
        go_ret2
        exact ⟨_, _, rfl, hown, hbel⟩
end Go.Proofs.Ytieopadbbciciaa
