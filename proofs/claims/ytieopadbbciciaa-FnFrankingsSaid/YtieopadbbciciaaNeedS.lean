/- FewestStamps: the reference's table and its rest. -/
import Derived.Test.YtieopadbbciciaaStampF
import Derived.Test.YtieopadbbciciaaFewM
import Derived.StillTailTactics
namespace Go.Proofs.Ytieopadbbciciaa
open Go.RowKit

/-- a row of numbers: f up to v, then x, then zeros up to m -/
def tabL (f : Nat → Nat) (m v : Nat) (x : Int) : List Int := (List.range v).map (fun q => (f q : Int)) ++ x :: List.replicate (m - v) 0
theorem tabL_length {f : Nat → Nat} {m v : Nat} {x : Int} (h : v ≤ m) : (tabL f m v x).length = m + 1 := by simp [tabL]; omega
theorem tabL_get {f : Nat → Nat} {m v q : Nat} {x : Int} (h : q < v) : (ints (tabL f m v x))[q]? = some (.int .i64 (f q : Int)) := by
  simp only [tabL, ints, List.map_append, List.map_map, List.map_cons]
  rw [List.getElem?_append_left (by simp; omega)]
  simp [h]
theorem tabL_at {f : Nat → Nat} {m v : Nat} {x : Int} : (ints (tabL f m v x))[v]? = some (.int .i64 x) := by
  simp only [tabL, ints, List.map_append, List.map_map, List.map_cons]
  rw [List.getElem?_append_right (by simp)]
  simp
theorem tabL_set {f : Nat → Nat} {m v : Nat} {x y : Int} : (ints (tabL f m v x)).set v (.int .i64 y) = ints (tabL f m v y) := by
  simp only [tabL, ints, List.map_append, List.map_map, List.map_cons]
  rw [List.set_append_right _ _ (by simp)]
  simp
theorem tabL_next {f : Nat → Nat} {m v : Nat} (h : v < m) : tabL f m v (f v : Int) = tabL f m (v + 1) 0 := by
  simp only [tabL, List.range_succ, List.map_append, List.append_assoc, List.map_cons, List.map_nil, List.singleton_append]
  rw [show m - v = (m - (v + 1)) + 1 by omega, List.replicate_succ]
/-- the whole row -/
def fullL (f : Nat → Nat) (m : Nat) : List Int := (List.range (m + 1)).map (fun q => (f q : Int))
theorem tabL_full {f : Nat → Nat} {m : Nat} : tabL f m m (f m : Int) = fullL f m := by simp [tabL, fullL, List.range_succ]
theorem fullL_length (f : Nat → Nat) (m : Nat) : (fullL f m).length = m + 1 := by simp [fullL]
theorem fullL_get {f : Nat → Nat} {m q : Nat} (h : q ≤ m) : (ints (fullL f m))[q]? = some (.int .i64 (f q : Int)) := by
  simp [fullL, ints, show q < m + 1 by omega]
theorem made_tab (f : Nat → Nat) (m : Nat) (_ : f 0 = 0) : List.replicate (m + 1) (Value.int .i64 0) = ints (tabL f m 0 0) := by
  simp [tabL, ints, List.replicate_succ]
/-- the reference's number for v behind the first i stamps -/
def needTo (yr : Int) (zs : List StampT) (v i : Nat) : Nat := (zs.take i).foldl (needOne yr v (needF yr zs)) 99
theorem needTo_zero (yr : Int) (zs : List StampT) (v : Nat) : needTo yr zs v 0 = 99 := by simp [needTo]
theorem needTo_succ {yr : Int} {zs : List StampT} {v i : Nat} (h : i < zs.length) : needTo yr zs v (i + 1) = needOne yr v (needF yr zs) (needTo yr zs v i) zs[i] := by
  unfold needTo; rw [List.take_succ_eq_append_getElem h, List.foldl_append]; rfl
theorem needTo_all {yr : Int} {zs : List StampT} {v : Nat} (h : v ≠ 0) : needTo yr zs v zs.length = needF yr zs v := by
  rw [needTo, List.take_length, needF_eq zs h]
theorem needF_le (yr : Int) (zs : List StampT) (v : Nat) : needF yr zs v ≤ 99 := by rw [needF_fewF]; omega
theorem needTo_le (yr : Int) (zs : List StampT) (v : Nat) : ∀ i, i ≤ zs.length → needTo yr zs v i ≤ 99 := by
  intro i
  induction i with
  | zero => intro _; rw [needTo_zero]; omega
  | succ i ih =>
    intro hi
    rw [needTo_succ (by omega)]
    have := ih (by omega)
    unfold needOne
    split <;> omega
theorem make_ints1 (m : Nat) (hn : m ≤ 2097150) (u : World) : (Instr.makeSlice 24 (.int .i64 ((m : Int) + 1)) (.int .i64 ((m : Int) + 1))).run Try.prog u =
    .ok (.slice (some ⟨u.heap.size, 0, none⟩) (m + 1) (m + 1)) (u.alloc (.cells (List.replicate (m + 1) (Value.int .i64 0)).toArray 3)) := by
  obtain ⟨i0, hi, hz0, hz1, hz2⟩ := info_parts info_int
  have h := run_make (P := Try.prog) u 24 3 i0 (.int .i64 0) Try.underlying24 hi hz0 .i64 .i64 ((m + 1 : Nat) : Int) ((m + 1 : Nat) : Int) (by omega) (Int.le_refl _) (by rw [hz2]; omega) (by omega)
  have e1 : madeCells #[Value.int .i64 0] (m + 1) = (List.replicate (m + 1) (Value.int .i64 0)).toArray := by
    apply Array.ext'
    rw [toList_madeCells_one]
  rw [← e1, show ((m : Int) + 1) = ((m + 1 : Nat) : Int) from by omega]
  simpa [hz1, Value.cells] using h
theorem elig_no {yr : Int} {v : Nat} {c : StampT} (h : elig yr v c = false) : c.face ≤ 0 ∨ (0 < c.face ∧ (v : Int) < c.face) ∨ (0 < c.face ∧ c.face ≤ (v : Int) ∧ yr < c.year) := by
  rcases Int.lt_or_le c.face 1 with h1 | h1
  · left; omega
  · rcases Int.lt_or_le (v : Int) c.face with h2 | h2
    · right; left; omega
    · right; right
      refine ⟨by omega, h2, ?_⟩
      rcases Int.lt_or_le yr c.year with h3 | h3
      · exact h3
      · have : elig yr v c = true := elig_iff.2 ⟨h3, h1, h2⟩
        rw [h] at this; cases this
set_option maxRecDepth 100000 in
set_option maxHeartbeats 8000000 in
theorem l2Needed_any (a : Option Addr) (cap : Nat) (zs : List StampT) (m : Nat) (yr : Int) (w : World) (hm : zs.length ≤ 1048576) (hm2 : m ≤ 2000) (hz : ∀ z ∈ zs, z.face ≤ 9999) (hr : Reads w a (stamps zs)) :
    Calls Try.prog 45 #[.slice a zs.length cap, .int .i64 (m : Int), .int .i64 yr] w fun e w' => ∃ g, e = .returned (.slice (some ⟨g, 0, none⟩) (m + 1) (m + 1)) ∧ w.heap.size ≤ g ∧ RowIs w' g 3 (ints (fullL (needF yr zs) m)) ∧ Below w.heap.size w w' := by
  have hmk := make_ints1 m (by omega) w
  have HR := Lib.hid hr
  have HZ := Lib.hid hz
  have hrow0 := RowIs.made w 3 (m + 1) (Value.int .i64 0)
  have hb0 := Lib.hid (Go.Joins.below_alloc1 w (.cells (Array.replicate (m + 1) (Value.int .i64 0)) 3))
  rw [made_tab (needF yr zs) m (needF_zero _ _)] at hrow0
  have hst0 : Hid (RowIs (w.alloc (.cells (Array.replicate (m + 1) (Value.int .i64 0)) 3)) w.heap.size 3 (ints (if 1 ≤ m then tabL (needF yr zs) m 1 0 else fullL (needF yr zs) m))) := Lib.hid (by
    have h0 := needF_zero yr zs
    by_cases h : 1 ≤ m
    · rw [if_pos h, ← tabL_next (by omega), h0]; exact hrow0
    · rw [if_neg h]
      obtain rfl : m = 0 := by omega
      rw [← tabL_full, h0]; exact hrow0)
  clear hrow0
  clear hr hz
  go_enter Try.func45, Try.ntmps45
  go_wp2_with fail
  go_loopw [8] (fun vi wr => ∃ v : Nat, 1 ≤ v ∧ v ≤ m + 1 ∧ vi = .int .i64 v ∧ RowIs wr w.heap.size 3 (ints (if v ≤ m then tabL (needF yr zs) m v 0 else fullL (needF yr zs) m)) ∧ Below w.heap.size w wr) (fun vi _ => m + 1 - (intOf vi).toNat)
  case atStart => exact ⟨1, by omega, by omega, rfl, hst0.out, hb0.out⟩
  case round =>
    obtain ⟨v, hv1, hv2, rfl, hrow, hbel⟩ := hrel
    obtain ⟨wo, rfl⟩ : ∃ wo, wo = wr := ⟨wr, rfl⟩
    by_cases hlt : v ≤ m
    · rw [if_pos hlt] at hrow
      have hd : decide ((v : Int) ≤ (m : Int)) = true := by simp; omega
      have c0 := hrow.cell (tabL_at)
      have f0 := hrow.free v
      have hrow2 := hrow.set v (.int .i64 99)
      rw [tabL_set] at hrow2
      have HROW := Lib.hid hrow2
      have HB := Lib.hid (hbel.setCell (p := ⟨w.heap.size, v, none⟩) (Nat.le_refl _) (.int .i64 99))
      have HT0 := Lib.hid (needTo_zero yr zs v)
      clear hrow hrow2 hbel hmk
      go_wp2_with fail
      generalize wo.setCell ⟨w.heap.size, v, none⟩ (.int .i64 99) = ws at *
      go_loopw [9] (fun i wr => ∃ k : Nat, k ≤ zs.length ∧ i = .int .i64 k ∧ RowIs wr w.heap.size 3 (ints (tabL (needF yr zs) m v (needTo yr zs v k : Int))) ∧ Below w.heap.size w wr) (fun i _ => zs.length - (intOf i).toNat)
      case atStart => exact ⟨0, Nat.zero_le _, rfl, by rw [HT0.out]; exact HROW.out, HB.out⟩
      case round =>
        obtain ⟨k, hk, rfl, hrow, hbel⟩ := hrel
        by_cases hlt2 : k < zs.length
        · rcases HR.out.below hbel with h0 | ⟨b, bo, rfl, hb2, hcc⟩
          · have := stamps_length zs; rw [h0] at this; simp at this; omega
          obtain ⟨g0, g1, g2, g3⟩ := stamps_get hlt2
          have hc0 := hcc _ _ g0
          have hc1 := hcc _ _ g1
          have hc2 := hcc _ _ g2
          have hc3 := hcc _ _ g3
          simp only [← Nat.add_assoc] at hc1 hc2 hc3
          have hzf := HZ.out _ (List.getElem_mem hlt2)
          have hst := needTo_succ (yr := yr) (v := v) hlt2
          have HBX := Lib.hid (hbel.alloc hbel.size (.cells #[.int .i64 zs[k].id, .int .i64 zs[k].face, .int .i64 zs[k].color, .int .i64 zs[k].year] 53))
          have HRX := Lib.hid (hrow.alloc (.cells #[.int .i64 zs[k].id, .int .i64 zs[k].face, .int .i64 zs[k].color, .int .i64 zs[k].year] 53))
          clear hcc g0 g1 g2 g3 hbel
          cases he : elig yr v zs[k]
          · have HST : Hid (needTo yr zs v (k + 1) = needTo yr zs v k) := Lib.hid (by rw [hst, needOne, he]; rfl)
            have hno := elig_no he
            clear hst he hrow
            rcases hno with h1 | ⟨h1, h2⟩ | ⟨h1, h2, h3⟩
            all_goals
              go_wp2_with fail
              go_roundw
              case rel => exact ⟨k + 1, by omega, by go_num, by rw [HST.out]; exact HRX.out, HBX.out⟩
              case measure => simp [intOf]; omega
          · obtain ⟨q1, q2, q3⟩ := elig_iff.1 he
            obtain ⟨F, hF⟩ : ∃ F : Nat, zs[k].face = (F : Int) := ⟨zs[k].face.toNat, by omega⟩
            have HST : Hid (needTo yr zs v (k + 1) = min (needTo yr zs v k) (needF yr zs (v - F) + 1)) := Lib.hid (by rw [hst, needOne, he, if_pos rfl, hF]; rfl)
            have hx := HRX.out.cell tabL_at
            have hy := HRX.out.cell (tabL_get (x := (needTo yr zs v k : Int)) (m := m) (f := needF yr zs) (show v - F < v by omega))
            have hfr := HRX.out.free v
            have bx := needTo_le yr zs v k (by omega)
            have by' := needF_le yr zs (v - F)
            rw [hF] at q2 q3 hc1 HBX HRX hx hy hfr
            generalize needF yr zs (v - F) = Y at *
            generalize needTo yr zs v k = X at *
            have p1 : 0 < (F : Int) := by omega
            have t1 : IntKind.i64.wrap ((v : Int) - (F : Int)) = (v : Int) - (F : Int) := IntWalk.i64_in _ (by omega)
            have t2 : (0 : Int) ≤ (v : Int) - (F : Int) := by omega
            have t3 : (v : Int) - (F : Int) < (m : Int) + 1 := by omega
            have t4 : ((v : Int) - (F : Int)).toNat = v - F := by omega
            have t5 : IntKind.i64.wrap ((Y : Int) + 1) = (Y : Int) + 1 := IntWalk.i64_in _ (by omega)
            have hbx := RowIs.new wr 53 [.int .i64 zs[k].id, .int .i64 (F : Int), .int .i64 zs[k].color, .int .i64 zs[k].year]
            have hb1 := hbx.cell (j := 1) rfl
            have hlt9 : (v : Int) < (m : Int) + 1 := by omega
            clear hst he hrow hF hbx
            simp only [List.toArray] at hb1
            go_wp2_with fail
            generalize wr.alloc (.cells #[.int .i64 zs[k].id, .int .i64 (F : Int), .int .i64 zs[k].color, .int .i64 zs[k].year] 53) = wB at *
            refine wp_region_still_tail 16 (by kernel_rfl) (by kernel_rfl) ?_
            simp only [List.take_succ_cons, List.take_zero, List.drop_succ_cons, List.drop_zero]
            repeat (first | still_step | still_call ((l1Least_any _ _ _).mono fun _ _ h => ⟨h.1, h.2.symm⟩))
            refine wpStill_nil ?_
            change wpList _ _ _ _ _ wB.drew
            have HRD := Lib.hid (show RowIs wB.drew w.heap.size 3 (ints (tabL (needF yr zs) m v (X : Int))) from HRX.out)
            have HBD := Lib.hid (HBX.out.drew)
            have hx2 : wB.drew.cell? ⟨w.heap.size, v, none⟩ = some (.int .i64 (X : Int)) := hx
            have hfr2 : wB.drew.frozen? ⟨w.heap.size, v, none⟩ = false := hfr
            clear hx hy hfr hb1 t1 t2 t3 t4 t5
            generalize wB.drew = wD at *
            go_wp2_with fail
            go_roundw
            case rel => exact ⟨k + 1, by omega, by go_num, by rw [HST.out, show ((min X (Y + 1) : Nat) : Int) = min (X : Int) ((Y : Int) + 1) by omega, ← tabL_set (x := (X : Int))]; exact HRD.out.set v (.int .i64 (min (X : Int) ((Y : Int) + 1))), HBD.out.setCell (Nat.le_refl _) _⟩
            case measure => simp [intOf]; omega
        · obtain rfl : k = zs.length := by omega
          have hall := needTo_all (yr := yr) (zs := zs) (show v ≠ 0 by omega)
          have HNX : Hid (RowIs wr w.heap.size 3 (ints (if v + 1 ≤ m then tabL (needF yr zs) m (v + 1) 0 else fullL (needF yr zs) m))) := Lib.hid (by
            rw [hall] at hrow
            by_cases h : v + 1 ≤ m
            · rw [if_pos h, ← tabL_next (by omega)]; exact hrow
            · rw [if_neg h]
              obtain rfl : v = m := by omega
              rw [← tabL_full]; exact hrow)
          have HBL := Lib.hid hbel
          clear hall hrow hbel
          go_wp2_with fail
          go_roundw
          case rel => exact ⟨v + 1, by omega, by omega, by go_num, HNX.out, HBL.out⟩
          case measure => simp [intOf]; omega
    · obtain rfl : v = m + 1 := by omega
      rw [if_neg (by omega)] at hrow
      have hd : decide (((m + 1 : Nat) : Int) ≤ (m : Int)) = false := by simp; omega
      clear hmk
      go_wp2_with fail
      go_ret
      exact ⟨_, rfl, Nat.le_refl _, hrow, hbel⟩
end Go.Proofs.Ytieopadbbciciaa
