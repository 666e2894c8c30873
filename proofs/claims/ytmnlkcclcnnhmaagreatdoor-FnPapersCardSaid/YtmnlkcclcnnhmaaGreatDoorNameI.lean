/- impl.MarkNames: the names are gathered, sorted and compacted by the library. -/
import Derived.Test.YtmnlkcclcnnhmaaGreatDoorNameS
import Derived.Test.YtmnlkcclcnnhmaaGreatDoorPaperC
import Derived.Test.YtmnlkcclcnnhmaaGreatDoorShelf
import Derived.Sort.OwnSorted
import Derived.Sort.Grow
import Derived.Lib.OwnBridge
namespace Go.Proofs.YtmnlkcclcnnhmaaGreatDoor
open Go.RowKit Go.Sort

def nonTo (zs : List PaperT) (k : Nat) : List ByteArray := nonE ((marksOf zs).take k)
theorem nonTo_le (zs : List PaperT) (k : Nat) : (nonTo zs k).length ≤ k := by
  have h := nonE_len ((marksOf zs).take k)
  have h2 : ((marksOf zs).take k).length ≤ k := by simp; omega
  unfold nonTo; omega
theorem nonTo_yes {zs : List PaperT} {k : Nat} (h : k < zs.length) (hp : zs[k].mark.toList.isEmpty = false) : nonTo zs (k + 1) = nonTo zs k ++ [zs[k].mark] := by
  unfold nonTo nonE
  rw [List.take_succ_eq_append_getElem (by simpa [marksOf] using h), List.filter_append]
  simp [marksOf, hp]
theorem nonTo_no {zs : List PaperT} {k : Nat} (h : k < zs.length) (hp : zs[k].mark.toList.isEmpty = true) : nonTo zs (k + 1) = nonTo zs k := by
  unfold nonTo nonE
  rw [List.take_succ_eq_append_getElem (by simpa [marksOf] using h), List.filter_append]
  simp only [marksOf, List.getElem_map, List.filter_cons, hp, Bool.not_true, Bool.false_eq_true, if_false, List.filter_nil, List.append_nil]
theorem nonTo_all (zs : List PaperT) : nonTo zs zs.length = nonE (marksOf zs) := by
  unfold nonTo; rw [show zs.length = (marksOf zs).length by simp [marksOf], List.take_length]
/-- what the sort and the compaction leave of a row of the call's own -/
theorem names_left {w0 w1 : World} {B g cap n nn q : Nat} {T : TypeId} {os : Array Obj} {ss : List (List UInt8)} (hown : w1.ownsRow B T 1 (.slice (some ⟨g, 0, none⟩) n cap) n (ss.map encStr)) (hbel : Below B w0 w1) (hlen : ss.length = n) (hB : B ≤ w1.heap.size) :
    (putRow encStr (Sort.ahead (grow (putRow encStr (Sort.ahead w1 nn) g 0 (ss.mergeSort fun x y => decide (x ≤ y)).toArray) os) q) g 0 (Lib.compact (ss.mergeSort fun x y => decide (x ≤ y)) ++ List.replicate (n - (Lib.compact (ss.mergeSort fun x y => decide (x ≤ y))).length) []).toArray).ownsRow B T 1 (.slice (some ⟨g, 0, none⟩) (Lib.compact (ss.mergeSort fun x y => decide (x ≤ y))).length cap) (Lib.compact (ss.mergeSort fun x y => decide (x ≤ y))).length ((Lib.compact (ss.mergeSort fun x y => decide (x ≤ y))).map encStr) ∧
    Below B w0 (putRow encStr (Sort.ahead (grow (putRow encStr (Sort.ahead w1 nn) g 0 (ss.mergeSort fun x y => decide (x ≤ y)).toArray) os) q) g 0 (Lib.compact (ss.mergeSort fun x y => decide (x ≤ y)) ++ List.replicate (n - (Lib.compact (ss.mergeSort fun x y => decide (x ≤ y))).length) []).toArray) := by
  have hl2 : (ss.mergeSort fun x y => decide (x ≤ y)).length = ss.length := List.length_mergeSort ss
  have hle := Lib.compact_length_le (ss.mergeSort fun x y => decide (x ≤ y))
  subst hlen
  rcases hown.2 with ⟨h0, _⟩ | ⟨g', cap', cur, hv, hbase, hb, h1, h2, h3, h4⟩
  · cases h0
  cases hv
  have hs := ownsRow_sorted (n := nn) (os := os) (ts := ss.mergeSort fun x y => decide (x ≤ y)) hl2 hbase hb h1 h2 h3
  have hc := Lib.ownsRow_putRow (q := q) (k := (Lib.compact (ss.mergeSort fun x y => decide (x ≤ y))).length) (ys := Lib.compact (ss.mergeSort fun x y => decide (x ≤ y)) ++ List.replicate (ss.length - (Lib.compact (ss.mergeSort fun x y => decide (x ≤ y))).length) []) hs (by simp; omega) (by omega)
  rw [List.take_left] at hc
  exact ⟨hc, Lib.below_putRow (hbel.grown (grownBy_sorted _) hB (fun j hj => by cases hj; exact hbase)) hbase⟩
theorem implL_nil {ms : List ByteArray} (h : nonE ms = []) : implL ms = [] := by simp [implL, h, Lib.compact, Lib.compactUpTo]
set_option maxRecDepth 100000 in
set_option maxHeartbeats 4000000 in
theorem implNames_any (a : Option Addr) (cap : Nat) (zs : List PaperT) (w : World) (hm : zs.length ≤ maxLen) (hr : Reads w a (papers zs)) (hfit : ∀ z ∈ zs, z.mark.size ≤ maxLen) :
    Calls Tryz.prog 20 #[.slice a zs.length cap] w fun e w' => ∃ ad cp, e = .returned (.tuple #[.slice ad (namR zs).length cp, .bool (papersOk zs)]) ∧
      w'.ownsRow w.heap.size 9 1 (.slice ad (namR zs).length cp) (namR zs).length (strs (namR zs)) ∧ Below w.heap.size w w' := by
  obtain ⟨i0, hi, hz0, hz1, hz2⟩ := info_parts info_string
  have hA := fun w hr => arePapers_any a cap zs w hm hr hfit
  have HR := Lib.hid hr
  unfold namR
  cases hok : papersOk zs
  · simp only [Bool.false_eq_true, if_false]
    rw [hok] at hA
    have HA := Lib.hid hA
    clear hA hok hr
    unfold maxLen at hm
    go_enter Tryz.func20, Tryz.ntmps20
    go_wp2_with fail
    refine (HA.out _ HR.out).mono ?_
    rintro e w1 ⟨rfl, hb⟩
    have HB := Lib.hid hb
    clear hb
    go_wp2_with fail
    go_ret2
    exact ⟨none, 0, rfl, World.ownsRow_nil _ _ _ _, HB.out⟩
  · simp only [if_true]
    rw [hok] at hA
    have HA := Lib.hid hA
    have hlz := papersOk_len hok
    clear hA hok hr hm hfit
    go_enter Tryz.func20, Tryz.ntmps20
    go_wp2_with fail
    refine (HA.out _ HR.out).mono ?_
    rintro e w1 ⟨rfl, hb⟩
    have HB1 := Lib.hid hb
    clear hb
    go_wp2_with fail
    go_loopw [4, 12] (fun v i wr => ∃ k : Nat, k ≤ zs.length ∧ i = .int .i64 k ∧ (∃ ad cp, v = .slice ad (nonTo zs k).length cp) ∧ wr.ownsRow w.heap.size 9 1 v (nonTo zs k).length (strs (nonTo zs k)) ∧ Below w.heap.size w wr) (fun _ i _ => zs.length - (intOf i).toNat)
    case atStart => exact ⟨0, Nat.zero_le _, rfl, ⟨none, 0, rfl⟩, World.ownsRow_nil _ _ _ _, HB1.out⟩
    case round =>
      obtain ⟨k, hk, rfl, ⟨ad, cp, rfl⟩, hown, hbel⟩ := hrel
      have hlen := nonTo_le zs k
      by_cases hlt : k < zs.length
      · rcases HR.out with h0 | ⟨b, bo, rfl, hb2, hc⟩
        · have := papers_length zs; rw [h0] at this; simp at this; omega
        obtain ⟨g0, g1, g2, g3, g4⟩ := papers_get hlt
        have hc0 := (hbel.cell (p := ⟨b, _, none⟩) hb2).trans (hc _ _ g0)
        have hc1 := (hbel.cell (p := ⟨b, _, none⟩) hb2).trans (hc _ _ g1)
        have hc2 := (hbel.cell (p := ⟨b, _, none⟩) hb2).trans (hc _ _ g2)
        have hc3 := (hbel.cell (p := ⟨b, _, none⟩) hb2).trans (hc _ _ g3)
        have hc4 := (hbel.cell (p := ⟨b, _, none⟩) hb2).trans (hc _ _ g4)
        simp only [← Nat.add_assoc] at hc1 hc2 hc3 hc4
        have HB := Lib.hid hbel
        have HO := Lib.hid hown
        clear hc g0 g1 g2 g3 g4 hbel hown
        have HX := Lib.hid (Go.Joins.below_alloc1 wr (.cells #[.int .i64 zs[k].id, .int .i64 zs[k].thick, .int .i64 zs[k].tint, .string zs[k].mark, .bool zs[k].laid] 25))
        cases hp : zs[k].mark.toList.isEmpty
        · have hst := Lib.hid (nonTo_yes hlt hp)
          go_wp2_with (at_builtin; go_must (refine wpList_append_own _ rfl _ _ 45 rfl w.heap.size 9 i0 (.string .empty) 1 16 Tryz.underlying45 hi hz0 hz1 hz2 rfl (by decide) _ _ _ rfl ((own_below HO.out HX.out).alloc _) ⟨wr.heap.size + 1, 0, none⟩ 1 1 [.string zs[k].mark] rfl rfl (World.news_of_block (cs := #[.string zs[k].mark]) (t := 9) (fr := (0, 0)) (new_second wr _ _)) (by simp [Value.oneCell']) (by unfold maxLen; omega) (by omega) (Nat.le_trans (Nat.le_trans HB.out.size HX.out.size) (by simp)) ?_))
          intro v' w3 hown3 hgrow3 _
          obtain ⟨g3, c3, hv⟩ := Go.Joins.ownsRow_form hown3 (by omega)
          have hidl : (nonTo zs (k + 1)).length = (nonTo zs k).length + 1 := by rw [hst.out]; simp
          have hown4 : w3.ownsRow w.heap.size 9 1 (.slice (some ⟨g3, 0, none⟩) ((nonTo zs k).length + 1) c3) (nonTo zs (k + 1)).length (strs (nonTo zs (k + 1))) := by
            rw [hidl, hst.out]; rw [hv] at hown3; simpa [strs] using hown3
          have HO4 := Lib.hid hown4
          have HL4 := Lib.hid hidl
          have hbel4 : Below w.heap.size w w3 := by
            refine ((HB.out.trans (HX.out.mono HB.out.size)).alloc (Nat.le_trans HB.out.size HX.out.size) _).grown hgrow3 ?_ ?_
            · exact Nat.le_trans (Nat.le_trans HB.out.size HX.out.size) (by simp)
            · intro q hq; exact (HO.out.lt q hq).1
          have HB4 := Lib.hid hbel4
          rw [hv]
          clear hown3 hgrow3 hown4 hidl hbel4 hv
          go_wp2_with fail
          go_roundw
          case rel => exact ⟨k + 1, by omega, by go_num, ⟨_, _, by rw [HL4.out]⟩, HO4.out, HB4.out⟩
          case measure => simp [intOf]; omega
        · have hst := Lib.hid (nonTo_no hlt hp)
          go_wp2_with fail
          go_roundw
          case rel => exact ⟨k + 1, by omega, by go_num, ⟨_, _, by rw [hst.out]⟩, by rw [hst.out]; exact own_below HO.out HX.out, HB.out.trans (HX.out.mono HB.out.size)⟩
          case measure => simp [intOf]; omega
      · have hk2 : k = zs.length := by omega
        have he := Lib.hid (nonTo_all zs)
        rw [hk2] at hown hlen ⊢
        rw [he.out] at hown hlen
        clear hk2
        have hbase := hbel.size
        have HB := Lib.hid hbel
        have hll := implL_len (marksOf zs)
        have hsl : (specN (marksOf zs)).length = (implL (marksOf zs)).length := by rw [← names_eq, implN, List.length_map]
        have hsi := strs_impl (marksOf zs)
        clear hbel
        by_cases hz : (nonE (marksOf zs)).length = 0
        · have hnil : nonE (marksOf zs) = [] := List.eq_nil_of_length_eq_zero hz
          have hi0 := implL_nil hnil
          rw [hi0] at hsl hsi
          simp only [List.length_nil] at hsl
          have hsn : specN (marksOf zs) = [] := List.eq_nil_of_length_eq_zero hsl
          rw [hnil] at hown
          have hln : (nonTo zs zs.length).length = 0 := by rw [he.out, hnil]; rfl
          rw [hln]
          have HSN := Lib.hid hsn
          clear hln
          have HO := Lib.hid hown
          clear hnil hi0 hsl hsi hsn hz hown hll hlen
          go_wp2_with (first
            | (go_at_call 53; refine (Tryz.slices_Sort_string_none _ _ _).mono ?_; rintro e w' ⟨rfl, rfl⟩)
            | (go_at_call 54; refine (Tryz.slices_Compact_string_empty _ _ _).mono ?_; rintro e w' ⟨rfl, rfl⟩))
          go_ret2
          rw [HSN.out]
          exact ⟨_, _, rfl, HO.out, HB.out⟩
        · obtain ⟨g, rfl, hbg, hgl⟩ := own_form hown (by omega)
          obtain ⟨n, hn⟩ : ∃ n, n = (nonE (marksOf zs)).length := ⟨_, rfl⟩
          obtain ⟨ss, hss⟩ : ∃ ss, ss = (nonE (marksOf zs)).map bsOf := ⟨_, rfl⟩
          have hsn : ss.length = n := by rw [hss, hn, List.length_map]
          have hstr : strs (nonE (marksOf zs)) = ss.map encStr := by rw [hss, strs]; exact (Lib.map_encStr _).symm
          have himp : implL (marksOf zs) = Lib.compact (ss.mergeSort fun x y => decide (x ≤ y)) := by rw [hss]; rfl
          rw [← hn, hstr] at hown
          have hln : (nonTo zs zs.length).length = n := by rw [he.out, hn]
          rw [hln]
          clear hln
          rw [← hn] at hz hlen
          rw [himp] at hsl hsi hll
          have hcap := own_cap hown
          obtain ⟨g', cap', hv', _, _, hncap, hcm, _, hH⟩ := Lib.holds_of_ownsRow hown (by simp)
          simp only [Value.slice.injEq, Option.some.injEq, Addr.mk.injEq, and_true, true_and] at hv'
          obtain ⟨rfl, rfl⟩ := hv'
          have hsort := Tryz.slices_Sort_string g 0 cp ss wr hH hgl (by omega)
          rw [hsn] at hsort
          have HO := Lib.hid hown
          have HH := Lib.hid hH
          have HSI := Lib.hid hsi
          have HSL := Lib.hid hsl
          have HSN := Lib.hid hsn
          have HSO := Lib.hid hsort
          clear hown hH hsi hsl hsn hsort hstr himp hss hn hll he
          go_wp2_with fail
          refine HSO.out.mono ?_
          rintro e w2 ⟨rfl, nn, oo, rfl⟩
          have hl2 : (ss.mergeSort fun x y => decide (x ≤ y)).length = n := by rw [List.length_mergeSort]; exact HSN.out
          have hH2 : Holds encStr (grow (putRow encStr (Sort.ahead wr nn) g 0 (ss.mergeSort fun x y => decide (x ≤ y)).toArray) oo) g 0 (ss.mergeSort fun x y => decide (x ≤ y)).toArray :=
            holds_grow encStr _ oo g 0 _ (by simpa [putRow, mapBlock, Sort.ahead] using hgl) (holds_putRow encStr _ g 0 _ _ (holds_ahead encStr wr nn g 0 _ HH.out) (by simp))
          have hcomp := Tryz.slices_Compact_string g 0 cp (ss.mergeSort fun x y => decide (x ≤ y)) _ hH2 (by omega) (by omega)
          rw [hl2] at hcomp
          have HCO := Lib.hid hcomp
          clear hcomp hH2 hl2
          have HLE := Lib.hid (fun q => names_left (nn := nn) (q := q) (os := oo) HO.out HB.out HSN.out hbase)
          generalize grow (putRow encStr (Sort.ahead wr nn) g 0 (ss.mergeSort fun x y => decide (x ≤ y)).toArray) oo = w2 at *
          go_wp2_with fail
          refine HCO.out.mono ?_
          rintro e w3 ⟨rfl, q, rfl⟩
          obtain ⟨hl1, hl2⟩ := HLE.out q
          generalize putRow encStr (Sort.ahead w2 q) g 0 (Lib.compact (ss.mergeSort fun x y => decide (x ≤ y)) ++ List.replicate (n - (Lib.compact (ss.mergeSort fun x y => decide (x ≤ y))).length) []).toArray = w3 at hl1 hl2 ⊢
          rw [HSI.out, ← HSL.out] at hl1
          have HL1 := Lib.hid hl1
          have HL2 := Lib.hid hl2
          clear hl1 hl2 HCO
          go_wp2_with fail
          go_ret2
          exact ⟨_, _, by rw [HSL.out]; first | done | rfl, HL1.out, HL2.out⟩
end Go.Proofs.YtmnlkcclcnnhmaaGreatDoor
