/- FewestStamps: the program's table. -/
import Derived.Test.YtieopadbbciciaaNeedT
namespace Go.Proofs.Ytieopadbbciciaa
open Go.RowKit

theorem info_sliceF : (Try.prog.info? 24).map (fun i => (i.zero, i.size, i.bytes)) = some (some (.slice none 0 0), 1, 24) := by kernel_rfl
theorem make_rows1 (m : Nat) (hn : m ≤ 2097150) (u : World) : (Instr.makeSlice 75 (.int .i64 ((m : Int) + 1)) (.int .i64 ((m : Int) + 1))).run Try.prog u =
    .ok (.slice (some ⟨u.heap.size, 0, none⟩) (m + 1) (m + 1)) (u.alloc (.cells (List.replicate (m + 1) (Value.slice none 0 0)).toArray 24)) := by
  obtain ⟨i0, hi, hz0, hz1, hz2⟩ := info_parts info_sliceF
  have h := run_make (P := Try.prog) u 75 24 i0 (.slice none 0 0) Try.underlying75 hi hz0 .i64 .i64 ((m + 1 : Nat) : Int) ((m + 1 : Nat) : Int) (by omega) (Int.le_refl _) (by rw [hz2]; omega) (by omega)
  have e1 : madeCells #[Value.slice none 0 0] (m + 1) = (List.replicate (m + 1) (Value.slice none 0 0)).toArray := by
    apply Array.ext'
    rw [toList_madeCells_one]
  rw [← e1, show ((m : Int) + 1) = ((m + 1 : Nat) : Int) from by omega]
  simpa [hz1, Value.cells] using h
/-- the table's rows from i on -/
def tabV (n m : Nat) (bl : Nat → Nat) (i : Nat) : List Value := (List.range (n + 1)).map fun j => if i ≤ j then .slice (some ⟨bl j, 0, none⟩) (m + 1) (m + 1) else .slice none 0 0
theorem tabV_get {n m : Nat} {bl : Nat → Nat} {i j : Nat} (h : j ≤ n) (hi : i ≤ j) : (tabV n m bl i)[j]? = some (.slice (some ⟨bl j, 0, none⟩) (m + 1) (m + 1)) := by
  simp [tabV, show j < n + 1 by omega, hi]
theorem tabV_nil {n m : Nat} {bl : Nat → Nat} {i j : Nat} (h : j ≤ n) (hi : j < i) : (tabV n m bl i)[j]? = some (.slice none 0 0) := by
  simp [tabV, show j < n + 1 by omega, show ¬ i ≤ j by omega]
theorem tabV_none (n m : Nat) (bl : Nat → Nat) : List.replicate (n + 1) (Value.slice none 0 0) = tabV n m bl (n + 1) := by
  apply List.ext_getElem (by simp [tabV])
  intro j h1 h2
  simp at h1
  simp [tabV, show ¬ n + 1 ≤ j by omega]
def blUp (bl : Nat → Nat) (q g : Nat) : Nat → Nat := fun j => if j = q then g else bl j
theorem tabV_set {n m : Nat} {bl : Nat → Nat} {q g : Nat} (_ : q ≤ n) : (tabV n m bl (q + 1)).set q (.slice (some ⟨g, 0, none⟩) (m + 1) (m + 1)) = tabV n m (blUp bl q g) q := by
  apply List.ext_getElem (by simp [tabV])
  intro j h1 h2
  simp [tabV] at h1
  by_cases e : j = q
  · subst e
    rw [List.getElem_set_self]
    simp [tabV, blUp]
  · rw [List.getElem_set_ne (fun h => e h.symm)]
    simp only [tabV, List.getElem_map, List.getElem_range, blUp, if_neg e]
    by_cases h : q ≤ j
    · rw [if_pos (by omega), if_pos h]
    · rw [if_neg (by omega), if_neg h]
structure Tab (w : World) (g0 n m : Nat) (bl : Nat → Nat) (f : Nat → Nat → Nat) (i : Nat) : Prop where
  outer : RowIs w g0 24 (tabV n m bl i)
  rows : ∀ j, i ≤ j → j ≤ n → RowIs w (bl j) 3 (ints (fullL (f j) m))
theorem Tab.below {w w' : World} {g0 n m i : Nat} {bl : Nat → Nat} {f : Nat → Nat → Nat} (h : Tab w g0 n m bl f i) (hb : Below w.heap.size w w') : Tab w' g0 n m bl f i :=
  ⟨h.outer.below hb, fun j h1 h2 => (h.rows j h1 h2).below hb⟩
theorem Tab.grown {w w' : World} {g0 n m i B : Nat} {bl : Nat → Nat} {f : Nat → Nat → Nat} {row : Option Nat} (h : Tab w g0 n m bl f i) (hg : w.grownBy w' row) (h0 : g0 < B) (hl : ∀ j, i ≤ j → j ≤ n → bl j < B) (hr : ∀ q, row = some q → B ≤ q) : Tab w' g0 n m bl f i :=
  ⟨h.outer.grown hg (fun e => by have := hr g0 e.symm; omega), fun j h1 h2 => (h.rows j h1 h2).grown hg (fun e => by have := hr _ e.symm; have := hl j h1 h2; omega)⟩
def fewT (yr : Int) (zs : List StampT) (j v : Nat) : Nat := fewF yr (zs.drop j) v
theorem fewT_zero (yr : Int) (zs : List StampT) (j : Nat) : fewT yr zs j 0 = 0 := fewF_zero _ _
theorem fewT_le (yr : Int) (zs : List StampT) (j v : Nat) : fewT yr zs j v ≤ 100000 := fewF_le _ _ _
theorem fewT_last {yr : Int} {zs : List StampT} {j v : Nat} (h : v ≠ 0) (hj : zs.length ≤ j) : fewT yr zs j v = 100000 := by
  rw [fewT, List.drop_eq_nil_of_le hj, fewF_nil h]
theorem fewT_no {yr : Int} {zs : List StampT} {j v : Nat} (h : v ≠ 0) (hj : j < zs.length) (he : elig yr v zs[j] = false) : fewT yr zs j v = fewT yr zs (j + 1) v := by
  rw [fewT, fewT, List.drop_eq_getElem_cons hj, fewF_no _ h he]
theorem fewT_yes {yr : Int} {zs : List StampT} {j v : Nat} (h : v ≠ 0) (hj : j < zs.length) (he : elig yr v zs[j] = true) : fewT yr zs j v = min (fewT yr zs (j + 1) v) (1 + fewT yr zs j (v - zs[j].face.toNat)) := by
  rw [fewT, fewT, fewT, List.drop_eq_getElem_cons hj, fewF_yes _ h he]
theorem elig_no2 {yr : Int} {v : Nat} {c : StampT} (h : elig yr v c = false) : decide (c.year ≤ yr) = false ∨ (decide (c.year ≤ yr) = true ∧ inB c.face 1 (v : Int) = false) := by
  unfold elig at h
  unfold inB
  cases h1 : decide (c.year ≤ yr)
  · exact .inl rfl
  · right; rw [h1, Bool.true_and] at h; exact ⟨rfl, h⟩
set_option maxRecDepth 100000 in
set_option maxHeartbeats 16000000 in
theorem implFewest_any (a : Option Addr) (cap : Nat) (zs : List StampT) (m : Nat) (yr : Int) (w : World) (h12 : zs.length ≤ 12) (hm1 : 1 ≤ m) (hm2 : m ≤ 2000) (hz : ∀ z ∈ zs, z.face ≤ 9999) (hr : Reads w a (stamps zs)) :
    Calls Try.prog 43 #[.slice a zs.length cap, .int .i64 (m : Int), .int .i64 yr] w fun e w' => ∃ ad cp, e = .returned (.tuple #[.slice ad (if fewF yr zs m ≤ 40 then frankF yr zs 0 m else []).length cp, .bool (decide (fewF yr zs m ≤ 40))]) ∧
      w'.ownsRow w.heap.size 3 1 (.slice ad (if fewF yr zs m ≤ 40 then frankF yr zs 0 m else []).length cp) (if fewF yr zs m ≤ 40 then frankF yr zs 0 m else []).length (ints (if fewF yr zs m ≤ 40 then frankF yr zs 0 m else [])) ∧ Below w.heap.size w w' := by
  obtain ⟨RR, hRR⟩ : ∃ RR, RR = (if fewF yr zs m ≤ 40 then frankF yr zs 0 m else []) := ⟨_, rfl⟩
  obtain ⟨bb, hbb⟩ : ∃ bb, bb = decide (fewF yr zs m ≤ 40) := ⟨_, rfl⟩
  rw [← hRR, ← hbb]
  have HRR := Lib.hid hRR
  have HBB := Lib.hid hbb
  clear hRR hbb
  obtain ⟨i0, hi, hz0, hz1, hz2⟩ := info_parts info_int
  have hmk := make_rows1 zs.length (by omega) w
  have HMK := Lib.hid (fun u => make_ints1 m (by omega) u)
  have HR := Lib.hid hr
  have HZ := Lib.hid hz
  have hrow0 := RowIs.made w 24 (zs.length + 1) (Value.slice none 0 0)
  have hb0 := Lib.hid (Go.Joins.below_alloc1 w (.cells (Array.replicate (zs.length + 1) (Value.slice none 0 0)) 24))
  rw [tabV_none zs.length m (fun _ => 0)] at hrow0
  have HT0 : Hid (Tab (w.alloc (.cells (Array.replicate (zs.length + 1) (Value.slice none 0 0)) 24)) w.heap.size zs.length m (fun _ => 0) (fewT yr zs) (zs.length + 1)) := Lib.hid ⟨hrow0, fun j h1 h2 => by omega⟩
  clear hr hz hrow0
  go_enter Try.func43, Try.ntmps43
  go_wp2_with fail
  go_loopw [9] (fun x wr => ∃ (p : Nat) (bl : Nat → Nat) (x0 : Int), p ≤ zs.length + 1 ∧ x = .int .i64 x0 ∧ x0 = (p : Int) - 1 ∧ Tab wr w.heap.size zs.length m bl (fewT yr zs) p ∧ (∀ j, p ≤ j → j ≤ zs.length → w.heap.size < bl j) ∧ Below w.heap.size w wr) (fun x _ => (intOf x + 1).toNat)
  case atStart => exact ⟨zs.length + 1, fun _ => 0, _, Nat.le_refl _, rfl, by omega, HT0.out, fun j h1 h2 => by omega, hb0.out⟩
  case round =>
    obtain ⟨p, bl, x0, hp, rfl, hx0, htab, hgt, hbel⟩ := hrel
    obtain ⟨wo, rfl⟩ : ∃ wo, wo = wr := ⟨wr, rfl⟩
    have HT := Lib.hid htab
    have HB := Lib.hid hbel
    have HGT := Lib.hid hgt
    clear htab hbel hgt hmk
    by_cases hp0 : 0 < p
    · obtain ⟨q, rfl⟩ : ∃ q, p = q + 1 := ⟨p - 1, by omega⟩
      obtain rfl : x0 = (q : Int) := by omega
      have hd0 : decide ((0 : Int) ≤ (q : Int)) = true := by simp
      have hq : q ≤ zs.length := by omega
      have c0 := HT.out.outer.cell (tabV_nil hq (Nat.lt_succ_self q))
      have hmk2 := HMK.out wo
      have l1 : (q : Int) < (zs.length : Int) + 1 := by omega
      have hsz9 : (wo.setCell ⟨w.heap.size, q, none⟩ (.slice (some ⟨wo.heap.size, 0, none⟩) (m + 1) (m + 1))).heap.size = wo.heap.size := by simp
      have hrn := RowIs.made (wo.setCell ⟨w.heap.size, q, none⟩ (.slice (some ⟨wo.heap.size, 0, none⟩) (m + 1) (m + 1))) 3 (m + 1) (Value.int .i64 0)
      rw [hsz9, made_tab (fewT yr zs q) m (fewT_zero _ _ _)] at hrn
      have hne : w.heap.size ≠ wo.heap.size := by have := HT.out.outer.lt; omega
      have ho2 := (HT.out.outer.set q (.slice (some ⟨wo.heap.size, 0, none⟩) (m + 1) (m + 1))).alloc (.cells (Array.replicate (m + 1) (Value.int .i64 0)) 3)
      rw [tabV_set hq] at ho2
      have hr2 := hrn
      have hrs2 : ∀ j, q + 1 ≤ j → j ≤ zs.length → RowIs ((wo.setCell ⟨w.heap.size, q, none⟩ (.slice (some ⟨wo.heap.size, 0, none⟩) (m + 1) (m + 1))).alloc (.cells (Array.replicate (m + 1) (Value.int .i64 0)) 3)) (bl j) 3 (ints (fullL (fewT yr zs j) m)) := fun j h1 h2 =>
        ((HT.out.rows j h1 h2).far (p := ⟨w.heap.size, q, none⟩) (by have := HGT.out j h1 h2; show bl j ≠ w.heap.size; omega) _).alloc _
      have hb2 : Below w.heap.size w ((wo.setCell ⟨w.heap.size, q, none⟩ (.slice (some ⟨wo.heap.size, 0, none⟩) (m + 1) (m + 1))).alloc (.cells (Array.replicate (m + 1) (Value.int .i64 0)) 3)) := (HB.out.setCell (p := ⟨w.heap.size, q, none⟩) (Nat.le_refl _) _).alloc (by rw [hsz9]; exact HB.out.size) _
      have f0 := HT.out.outer.free q
      have c0' := (HT.out.outer.alloc (.cells (Array.replicate (m + 1) (Value.int .i64 0)) 3)).cell (tabV_nil hq (Nat.lt_succ_self q))
      have f0' := (HT.out.outer.alloc (.cells (Array.replicate (m + 1) (Value.int .i64 0)) 3)).free q
      have HO2 := Lib.hid ho2
      have HR2 := Lib.hid hr2
      have HS2 := Lib.hid hrs2
      have HB2 := Lib.hid hb2
      have hlb := Lib.hid (fun j h1 h2 => (HT.out.rows j h1 h2).lt)
      have hwo : w.heap.size < wo.heap.size := HT.out.outer.lt
      clear hrn ho2 hr2 hrs2 hb2 hx0 hsz9
      go_wp2_with fail
      generalize ((wo.setCell ⟨w.heap.size, q, none⟩ (.slice (some ⟨wo.heap.size, 0, none⟩) (m + 1) (m + 1))).alloc (.cells (Array.replicate (m + 1) (Value.int .i64 0)) 3)) = ws at *
      clear c0 f0 c0' f0' hmk2
      go_loopw [10] (fun y wr => ∃ v : Nat, 1 ≤ v ∧ v ≤ m + 1 ∧ y = .int .i64 v ∧ RowIs wr w.heap.size 24 (tabV zs.length m (blUp bl q wo.heap.size) q) ∧ RowIs wr wo.heap.size 3 (ints (if v ≤ m then tabL (fewT yr zs q) m v 0 else fullL (fewT yr zs q) m)) ∧
        (∀ j, q + 1 ≤ j → j ≤ zs.length → RowIs wr (bl j) 3 (ints (fullL (fewT yr zs j) m))) ∧ Below w.heap.size w wr) (fun y _ => m + 1 - (intOf y).toNat)
      case atStart => exact ⟨1, by omega, by omega, rfl, HO2.out, by rw [if_pos (by omega), ← tabL_next (by omega), fewT_zero]; exact HR2.out, HS2.out, HB2.out⟩
      case round =>
        obtain ⟨v, hv1, hv2, rfl, hout, hrow, hrs, hbel⟩ := hrel
        by_cases hlt : v ≤ m
        · rw [if_pos hlt] at hrow
          have hd1 : decide ((v : Int) ≤ (m : Int)) = true := by simp; omega
          have hd1' : decide (v ≤ m) = true := by simp; omega
          have l2 : (v : Int) < (m : Int) + 1 := by omega
          have co := hout.cell (tabV_get hq (Nat.le_refl q))
          simp only [blUp, if_true] at co
          have cv := hrow.cell tabL_at
          have fv := hrow.free v
          have hrow2 := hrow.set v (.int .i64 100000)
          rw [tabL_set] at hrow2
          have hout2 := hout.far (p := ⟨wo.heap.size, v, none⟩) (show w.heap.size ≠ wo.heap.size from hne) (.int .i64 100000)
          have hrs2 : ∀ j, q + 1 ≤ j → j ≤ zs.length → RowIs (wr.setCell ⟨wo.heap.size, v, none⟩ (.int .i64 100000)) (bl j) 3 (ints (fullL (fewT yr zs j) m)) := fun j h1 h2 => (hrs j h1 h2).far (p := ⟨wo.heap.size, v, none⟩) (by have := hlb.out j h1 h2; show bl j ≠ wo.heap.size; omega) _
          have HO3 := Lib.hid hout2
          have HR3 := Lib.hid hrow2
          have HS3 := Lib.hid hrs2
          have HB3 := Lib.hid (hbel.setCell (p := ⟨wo.heap.size, v, none⟩) (Nat.le_of_lt hwo) (.int .i64 100000))
          clear hrow hrow2 hout hout2 hrs hrs2 hbel
          have HFIN : Hid (∀ (w9 : World), RowIs w9 wo.heap.size 3 (ints (tabL (fewT yr zs q) m v (fewT yr zs q v : Int))) → RowIs w9 wo.heap.size 3 (ints (if v + 1 ≤ m then tabL (fewT yr zs q) m (v + 1) 0 else fullL (fewT yr zs q) m))) := Lib.hid (fun w9 h9 => by
            by_cases h : v + 1 ≤ m
            · rw [if_pos h, ← tabL_next (by omega)]; exact h9
            · rw [if_neg h]
              obtain rfl : v = m := by omega
              rw [← tabL_full]; exact h9)
          by_cases hql : q < zs.length
          rotate_left
          · have hqe : ((q : Int) == (zs.length : Int)) = true := by simp; omega
            have hval := fewT_last (yr := yr) (zs := zs) (j := q) (v := v) (by omega) (by omega)
            have HF := Lib.hid (HFIN.out (wr.setCell ⟨wo.heap.size, v, none⟩ (.int .i64 100000)) (by rw [hval]; exact HR3.out))
            clear hval
            go_wp2_with fail
            go_roundw
            case rel => exact ⟨v + 1, by omega, by omega, by go_num, HO3.out, HF.out, HS3.out, HB3.out⟩
            case measure => simp [intOf]; omega
          · have hqe : ((q : Int) == (zs.length : Int)) = false := by simp; omega
            go_wp2_with fail
            generalize wr.setCell ⟨wo.heap.size, v, none⟩ (.int .i64 100000) = w3 at *
            have k1 := HO3.out.cell (tabV_get hq (Nat.le_refl q))
            simp only [blUp, if_true] at k1
            have k2 := HO3.out.cell (tabV_get (show q + 1 ≤ zs.length by omega) (Nat.le_succ q))
            simp only [blUp, show ¬ q + 1 = q by omega, if_false] at k2
            have k3 := (HS3.out (q + 1) (Nat.le_refl _) (by omega)).cell (fullL_get hlt)
            have k4 := HR3.out.cell tabL_at
            have k5 := HR3.out.free v
            have bY := fewT_le yr zs (q + 1) v
            obtain ⟨Y, hY⟩ : ∃ Y, Y = fewT yr zs (q + 1) v := ⟨_, rfl⟩
            rw [← hY] at k3 bY
            have t1 : IntKind.i64.wrap ((q : Int) + 1) = (q : Int) + 1 := IntWalk.i64_in _ (by omega)
            have t2 : (q : Int) + 1 < (zs.length : Int) + 1 := by omega
            have t3 : ((q : Int) + 1).toNat = q + 1 := by omega
            have t4 : (0 : Int) ≤ (q : Int) + 1 := by omega
            have HY := Lib.hid hY
            clear co cv fv hY
            refine wp_region_still_tail 14 (by kernel_rfl) (by kernel_rfl) ?_
            simp only [List.take_succ_cons, List.take_zero, List.drop_succ_cons, List.drop_zero]
            repeat still_step
            refine wpStill_nil ?_
            change wpList _ _ _ _ _ w3.drew
            have k4' : w3.drew.cell? ⟨wo.heap.size, v, none⟩ = some (.int .i64 100000) := k4
            have k5' : w3.drew.frozen? ⟨wo.heap.size, v, none⟩ = false := k5
            have hr4 : RowIs (w3.drew.setCell ⟨wo.heap.size, v, none⟩ (.int .i64 (Y : Int))) wo.heap.size 3 (ints (tabL (fewT yr zs q) m v (Y : Int))) := by
              have := RowIs.set (show RowIs w3.drew wo.heap.size 3 (ints (tabL (fewT yr zs q) m v 100000)) from HR3.out) v (.int .i64 (Y : Int))
              rwa [tabL_set] at this
            have ho4 : RowIs (w3.drew.setCell ⟨wo.heap.size, v, none⟩ (.int .i64 (Y : Int))) w.heap.size 24 (tabV zs.length m (blUp bl q wo.heap.size) q) := RowIs.far (show RowIs w3.drew w.heap.size 24 (tabV zs.length m (blUp bl q wo.heap.size) q) from HO3.out) (p := ⟨wo.heap.size, v, none⟩) (show w.heap.size ≠ wo.heap.size from hne) _
            have hs4 : ∀ j, q + 1 ≤ j → j ≤ zs.length → RowIs (w3.drew.setCell ⟨wo.heap.size, v, none⟩ (.int .i64 (Y : Int))) (bl j) 3 (ints (fullL (fewT yr zs j) m)) := fun j h1 h2 => RowIs.far (show RowIs w3.drew (bl j) 3 (ints (fullL (fewT yr zs j) m)) from HS3.out j h1 h2) (p := ⟨wo.heap.size, v, none⟩) (by have := hlb.out j h1 h2; show bl j ≠ wo.heap.size; omega) _
            have hb4 : Below w.heap.size w (w3.drew.setCell ⟨wo.heap.size, v, none⟩ (.int .i64 (Y : Int))) := (HB3.out.drew).setCell (p := ⟨wo.heap.size, v, none⟩) (Nat.le_of_lt hwo) _
            have HR4 := Lib.hid hr4
            have HO4 := Lib.hid ho4
            have HS4 := Lib.hid hs4
            have HB4 := Lib.hid hb4
            clear hr4 ho4 hs4 hb4 k1 k2 k3 k4 k5 t1 t2 t3 t4
            generalize w3.drew = wd at *
            rcases HR.out.below HB4.out with h9 | ⟨b, bo, rfl, hb2, hcc⟩
            · have := stamps_length zs; rw [h9] at this; simp at this; omega
            obtain ⟨g0, g1, g2, g3⟩ := stamps_get hql
            have hc0 := hcc _ _ g0
            have hc1 := hcc _ _ g1
            have hc2 := hcc _ _ g2
            have hc3 := hcc _ _ g3
            simp only [← Nat.add_assoc] at hc1 hc2 hc3
            have hzf := HZ.out _ (List.getElem_mem hql)
            have HBX := Lib.hid (HB4.out.alloc HB4.out.size (.cells #[.int .i64 zs[q].id, .int .i64 zs[q].face, .int .i64 zs[q].color, .int .i64 zs[q].year] 53))
            have HXR := Lib.hid (HR4.out.alloc (.cells #[.int .i64 zs[q].id, .int .i64 zs[q].face, .int .i64 zs[q].color, .int .i64 zs[q].year] 53))
            have HXO := Lib.hid (HO4.out.alloc (.cells #[.int .i64 zs[q].id, .int .i64 zs[q].face, .int .i64 zs[q].color, .int .i64 zs[q].year] 53))
            have HXS : Hid (∀ j, q + 1 ≤ j → j ≤ zs.length → RowIs ((wd.setCell ⟨wo.heap.size, v, none⟩ (.int .i64 (Y : Int))).alloc (.cells #[.int .i64 zs[q].id, .int .i64 zs[q].face, .int .i64 zs[q].color, .int .i64 zs[q].year] 53)) (bl j) 3 (ints (fullL (fewT yr zs j) m))) := Lib.hid (fun j h1 h2 => (HS4.out j h1 h2).alloc _)
            have hbx := RowIs.new (wd.setCell ⟨wo.heap.size, v, none⟩ (.int .i64 (Y : Int))) 53 zs[q].cells
            have hsz4 : (wd.setCell ⟨wo.heap.size, v, none⟩ (.int .i64 (Y : Int))).heap.size = wd.heap.size := by simp
            rw [hsz4] at hbx
            have e9 : (wd.setCell ⟨wo.heap.size, v, none⟩ (.int .i64 (Y : Int))).alloc (.cells zs[q].cells.toArray 53) = (wd.setCell ⟨wo.heap.size, v, none⟩ (.int .i64 (Y : Int))).alloc (.cells #[.int .i64 zs[q].id, .int .i64 zs[q].face, .int .i64 zs[q].color, .int .i64 zs[q].year] 53) := rfl
            rw [e9] at hbx
            have HXX := Lib.hid hbx
            have HI := Lib.hid (fun w => inRange_any zs[q].face 1 (v : Int) w)
            clear hcc g0 g1 g2 g3 hbx hsz4 e9
            cases he : elig yr v zs[q]
            · have hval := fewT_no (yr := yr) (v := v) (by omega) hql he
              have hno := elig_no2 he
              rw [← HY.out] at hval
              have HF := Lib.hid (fun w9 (h9 : RowIs w9 wo.heap.size 3 (ints (tabL (fewT yr zs q) m v (Y : Int)))) => HFIN.out w9 (by rw [hval]; exact h9))
              clear he hval
              rcases hno with h1 | ⟨h1, h2⟩
              · go_wp2_with fail
                go_roundw
                case rel => exact ⟨v + 1, by omega, by omega, by go_num, HXO.out, HF.out _ HXR.out, HXS.out, HBX.out⟩
                case measure => simp [intOf]; omega
              · rw [h2] at HI
                go_wp2_with (go_at_call 34; refine (HI.out _).mono ?_; rintro e w' ⟨rfl, rfl⟩)
                go_roundw
                case rel => exact ⟨v + 1, by omega, by omega, by go_num, HXO.out, HF.out _ HXR.out, HXS.out, HBX.out⟩
                case measure => simp [intOf]; omega
            · obtain ⟨q1, q2, q3⟩ := elig_iff.1 he
              obtain ⟨F, hF⟩ : ∃ F : Nat, zs[q].face = (F : Int) := ⟨zs[q].face.toNat, by omega⟩
              have hFt : zs[q].face.toNat = F := by omega
              have hval := fewT_yes (yr := yr) (v := v) (by omega) hql he
              rw [← HY.out, hFt] at hval
              have hI : inB zs[q].face 1 (v : Int) = true := inB_true.2 ⟨q2, q3⟩
              rw [hI] at HI
              have bZ := fewT_le yr zs q (v - F)
              have kz := HXR.out.cell (tabL_get (f := fewT yr zs q) (m := m) (x := (Y : Int)) (show v - F < v by omega))
              obtain ⟨Z, hZ⟩ : ∃ Z, Z = fewT yr zs q (v - F) := ⟨_, rfl⟩
              rw [← hZ] at hval bZ kz
              have HF := Lib.hid (fun w9 (h9 : RowIs w9 wo.heap.size 3 (ints (tabL (fewT yr zs q) m v (if 1 + (Z : Int) < (Y : Int) then 1 + (Z : Int) else (Y : Int))))) => HFIN.out w9 (by rw [hval, show ((min Y (1 + Z) : Nat) : Int) = (if 1 + (Z : Int) < (Y : Int) then 1 + (Z : Int) else (Y : Int)) by split <;> omega]; exact h9))
              rw [hF] at HBX HXR HXO HXS HXX HI hc1 q2 q3 kz
              clear he hval hI hZ
              go_wp2_with (go_at_call 34; refine (HI.out _).mono ?_; rintro e w' ⟨rfl, rfl⟩)
              generalize (wd.setCell ⟨wo.heap.size, v, none⟩ (.int .i64 (Y : Int))).alloc (.cells #[.int .i64 zs[q].id, .int .i64 (F : Int), .int .i64 zs[q].color, .int .i64 zs[q].year] 53) = wB at *
              have k1 := HXO.out.cell (tabV_get hq (Nat.le_refl q))
              simp only [blUp, if_true] at k1
              have ky := HXR.out.cell tabL_at
              have kf := HXR.out.free v
              have kx := HXX.out.cell (j := 1) rfl
              rw [hF] at kx
              have t1 : IntKind.i64.wrap ((v : Int) - (F : Int)) = (v : Int) - (F : Int) := IntWalk.i64_in _ (by omega)
              have t2 : (0 : Int) ≤ (v : Int) - (F : Int) := by omega
              have t3 : (v : Int) - (F : Int) < (m : Int) + 1 := by omega
              have t4 : ((v : Int) - (F : Int)).toNat = v - F := by omega
              have t5 : IntKind.i64.wrap (1 + (Z : Int)) = 1 + (Z : Int) := IntWalk.i64_in _ (by omega)
              refine wp_region_still_tail 25 (by kernel_rfl) (by kernel_rfl) ?_
              simp only [List.take_succ_cons, List.take_zero, List.drop_succ_cons, List.drop_zero]
              repeat still_step
              refine wpStill_nil ?_
              change wpList _ _ _ _ _ wB.drew
              have k4' : wB.drew.cell? ⟨wo.heap.size, v, none⟩ = some (.int .i64 (Y : Int)) := ky
              have k5' : wB.drew.frozen? ⟨wo.heap.size, v, none⟩ = false := kf
              have hr5 : RowIs (wB.drew.setCell ⟨wo.heap.size, v, none⟩ (.int .i64 (if 1 + (Z : Int) < (Y : Int) then 1 + (Z : Int) else (Y : Int)))) wo.heap.size 3 (ints (tabL (fewT yr zs q) m v (if 1 + (Z : Int) < (Y : Int) then 1 + (Z : Int) else (Y : Int)))) := by
                have := RowIs.set (show RowIs wB.drew wo.heap.size 3 (ints (tabL (fewT yr zs q) m v (Y : Int))) from HXR.out) v (.int .i64 (if 1 + (Z : Int) < (Y : Int) then 1 + (Z : Int) else (Y : Int)))
                rwa [tabL_set] at this
              have ho5 : RowIs (wB.drew.setCell ⟨wo.heap.size, v, none⟩ (.int .i64 (if 1 + (Z : Int) < (Y : Int) then 1 + (Z : Int) else (Y : Int)))) w.heap.size 24 (tabV zs.length m (blUp bl q wo.heap.size) q) := RowIs.far (show RowIs wB.drew w.heap.size 24 (tabV zs.length m (blUp bl q wo.heap.size) q) from HXO.out) (p := ⟨wo.heap.size, v, none⟩) (show w.heap.size ≠ wo.heap.size from hne) _
              have hs5 : ∀ j, q + 1 ≤ j → j ≤ zs.length → RowIs (wB.drew.setCell ⟨wo.heap.size, v, none⟩ (.int .i64 (if 1 + (Z : Int) < (Y : Int) then 1 + (Z : Int) else (Y : Int)))) (bl j) 3 (ints (fullL (fewT yr zs j) m)) := fun j h1 h2 => RowIs.far (show RowIs wB.drew (bl j) 3 (ints (fullL (fewT yr zs j) m)) from HXS.out j h1 h2) (p := ⟨wo.heap.size, v, none⟩) (by have := hlb.out j h1 h2; show bl j ≠ wo.heap.size; omega) _
              have hb5 : Below w.heap.size w (wB.drew.setCell ⟨wo.heap.size, v, none⟩ (.int .i64 (if 1 + (Z : Int) < (Y : Int) then 1 + (Z : Int) else (Y : Int)))) := (HBX.out.drew).setCell (p := ⟨wo.heap.size, v, none⟩) (Nat.le_of_lt hwo) _
              have HR5 := Lib.hid hr5
              have HO5 := Lib.hid ho5
              have HS5 := Lib.hid hs5
              have HB5 := Lib.hid hb5
              clear hr5 ho5 hs5 hb5 k1 ky kf kx kz t1 t2 t3 t4 t5
              generalize wB.drew = we at *
              go_wp2_with fail
              go_roundw
              case rel => exact ⟨v + 1, by omega, by omega, by go_num, HO5.out, HF.out _ HR5.out, HS5.out, HB5.out⟩
              case measure => simp [intOf]; omega
        · obtain rfl : v = m + 1 := by omega
          rw [if_neg (by omega)] at hrow
          have hd1 : decide (((m + 1 : Nat) : Int) ≤ (m : Int)) = false := by simp; omega
          have HTN : Hid (Tab wr w.heap.size zs.length m (blUp bl q wo.heap.size) (fewT yr zs) q) := Lib.hid ⟨hout, fun j h1 h2 => by
            unfold blUp
            by_cases e : j = q
            · subst e; rw [if_pos rfl]; exact hrow
            · rw [if_neg e]; exact hrs j (by omega) h2⟩
          have HGN : Hid (∀ j, q ≤ j → j ≤ zs.length → w.heap.size < blUp bl q wo.heap.size j) := Lib.hid (fun j h1 h2 => by
            unfold blUp
            by_cases e : j = q
            · rw [if_pos e]; exact hwo
            · rw [if_neg e]; exact HGT.out j (by omega) h2)
          have HBN := Lib.hid hbel
          clear hout hrow hrs hbel
          go_wp2_with fail
          go_roundw
          case rel => exact ⟨q, blUp bl q wo.heap.size, _, by omega, rfl, by omega, HTN.out, HGN.out, HBN.out⟩
          case measure => simp [intOf]
    · obtain rfl : p = 0 := by omega
      obtain rfl : x0 = -1 := by omega
      have k1 := HT.out.outer.cell (tabV_get (Nat.zero_le _) (Nat.zero_le 0))
      have k2 := (HT.out.rows 0 (Nat.zero_le _) (Nat.zero_le _)).cell (fullL_get (Nat.le_refl m))
      have hT0 : fewT yr zs 0 m = fewF yr zs m := by simp [fewT]
      rw [hT0] at k2
      have l9 : (m : Int) < (m : Int) + 1 := by omega
      have l8 : (0 : Int) < (zs.length : Int) + 1 := by omega
      have hBL := Lib.hid (fun j (h : j ≤ zs.length) => (HT.out.rows j (Nat.zero_le _) h).lt)
      have hg0 : w.heap.size < wo.heap.size := HT.out.outer.lt
      have hwo := HB.out.size
      clear hx0 hp0
      by_cases h40 : fewF yr zs m ≤ 40
      rotate_left
      · have hgt : (40 : Int) < (fewF yr zs m : Int) := by omega
        have HR0 : Hid (RR = []) := Lib.hid (by rw [HRR.out, if_neg h40])
        have HB0' : Hid (bb = false) := Lib.hid (by rw [HBB.out]; simp; omega)
        clear h40 hT0
        go_wp2_with fail
        go_ret2
        exact ⟨none, 0, by rw [HR0.out, HB0'.out]; rfl, by rw [HR0.out]; exact World.ownsRow_nil _ _ _ _, HB.out⟩
      · have hle : ¬ (40 : Int) < (fewF yr zs m : Int) := by omega
        have HR0 : Hid (RR = frankF yr zs 0 m) := Lib.hid (by rw [HRR.out, if_pos h40])
        have HB0' : Hid (bb = true) := Lib.hid (by rw [HBB.out]; simp [h40])
        have H40 := Lib.hid h40
        have HT0' := Lib.hid hT0
        clear h40 hT0
        go_wp2_with fail
        clear k1 k2
        go_loopw [12, 13, 14] (fun o fr l wr => ∃ (v i : Nat) (acc : List Int), l = .int .i64 v ∧ fr = .int .i64 i ∧ v ≤ m ∧ i ≤ zs.length ∧ Hid (v ≠ 0 → fewT yr zs i v = fewF yr zs v ∧ fewF yr zs v ≤ 40) ∧ Hid (acc ++ frankF yr (zs.drop i) i v = frankF yr zs 0 m) ∧ acc.length + v ≤ m ∧
          (∃ ad cp, o = .slice ad acc.length cp) ∧ wr.ownsRow wo.heap.size 3 1 o acc.length (ints acc) ∧ Tab wr w.heap.size zs.length m bl (fewT yr zs) 0 ∧ Below wo.heap.size wo wr) (fun _ _ l _ => (intOf l).toNat)
        case atStart => exact ⟨m, 0, [], rfl, rfl, Nat.le_refl _, Nat.zero_le _, Lib.hid (fun _ => ⟨HT0'.out, H40.out⟩), Lib.hid rfl, by simp, ⟨none, 0, rfl⟩, World.ownsRow_nil _ _ _ _, HT.out, Below.refl _ _⟩
        case round =>
          obtain ⟨v, i, acc, rfl, rfl, hv, hi9, hfew, hacc, hal, ⟨ad, cp, rfl⟩, hown, htab, hbel⟩ := hrel
          obtain ⟨wg, rfl⟩ : ∃ wg, wg = wr := ⟨wr, rfl⟩
          have HOg := Lib.hid hown
          have HTg := Lib.hid htab
          have HBg := Lib.hid hbel
          clear hown htab hbel
          by_cases h0 : 0 < v
          rotate_left
          · have hd0 : decide ((0 : Int) < (v : Int)) = false := by simp; omega
            have hd0' : decide (0 < v) = false := by simp; omega
            have hfin : Hid (RR = acc) := Lib.hid (by
              have h1 := hacc.out
              rw [show v = 0 by omega, frankF_zero, List.append_nil] at h1
              rw [HR0.out]; exact h1.symm)
            have HOE := Lib.hid (own_low HOg.out hwo)
            have HBE := Lib.hid (HB.out.trans (HBg.out.mono hwo))
            clear hfew hacc
            go_wp2_with fail
            go_ret2
            exact ⟨ad, cp, by rw [hfin.out, HB0'.out]; rfl, by rw [hfin.out]; exact HOE.out, HBE.out⟩
          · have hd0 : decide ((0 : Int) < (v : Int)) = true := by simp; omega
            have hd0' : decide (0 < v) = true := by simp; omega
            obtain ⟨hf1, hf2⟩ := hfew.out (by omega)
            have HF1 := Lib.hid hf1
            clear hfew hf1
            go_wp2_with fail
            go_loopw [13, 15] (fun fr kk wr => ∃ k : Nat, i ≤ k ∧ k ≤ zs.length ∧ fr = .int .i64 i ∧ kk = .int .i64 k ∧ Hid (fewT yr zs k v = fewT yr zs i v) ∧ Hid (frankF yr (zs.drop k) k v = frankF yr (zs.drop i) i v) ∧
              wr.ownsRow wo.heap.size 3 1 (.slice ad acc.length cp) acc.length (ints acc) ∧ Tab wr w.heap.size zs.length m bl (fewT yr zs) 0 ∧ Below wo.heap.size wo wr) (fun _ kk _ => zs.length - (intOf kk).toNat)
            case atStart => exact ⟨i, Nat.le_refl _, hi9, rfl, rfl, Lib.hid rfl, Lib.hid rfl, HOg.out, HTg.out, HBg.out⟩
            case round =>
              obtain ⟨k, hik, hkn, rfl, rfl, hfk, hrk, hown, htab, hbel⟩ := hrel
              have hkl : k < zs.length := by
                rcases Nat.lt_or_ge k zs.length with h | h
                · exact h
                · have h1 := fewT_last (yr := yr) (zs := zs) (v := v) (by omega) h
                  rw [hfk.out, HF1.out] at h1; omega
              have hdr := List.drop_eq_getElem_cons hkl
              rcases HR.out with h9 | ⟨b, bo, rfl, hb2, hcc⟩
              · have := stamps_length zs; rw [h9] at this; simp at this; omega
              obtain ⟨g0, g1, g2, g3⟩ := stamps_get hkl
              have hBW := HB.out.trans (hbel.mono hwo)
              have hc0 := (hBW.cell (p := ⟨b, _, none⟩) hb2).trans (hcc _ _ g0)
              have hc1 := (hBW.cell (p := ⟨b, _, none⟩) hb2).trans (hcc _ _ g1)
              have hc2 := (hBW.cell (p := ⟨b, _, none⟩) hb2).trans (hcc _ _ g2)
              have hc3 := (hBW.cell (p := ⟨b, _, none⟩) hb2).trans (hcc _ _ g3)
              have hA1 := hcc _ _ g1
              simp only [← Nat.add_assoc] at hc1 hc2 hc3 hA1
              have HA1 := Lib.hid hA1
              have hzf := HZ.out _ (List.getElem_mem hkl)
              have hbx := RowIs.new wr 53 zs[k].cells
              have e9 : wr.alloc (.cells zs[k].cells.toArray 53) = wr.alloc (.cells #[.int .i64 zs[k].id, .int .i64 zs[k].face, .int .i64 zs[k].color, .int .i64 zs[k].year] 53) := rfl
              rw [e9] at hbx
              have HXX := Lib.hid hbx
              have HXO := Lib.hid (hown.alloc (.cells #[.int .i64 zs[k].id, .int .i64 zs[k].face, .int .i64 zs[k].color, .int .i64 zs[k].year] 53))
              have HXT := Lib.hid (htab.below (Go.Joins.below_alloc1 wr (.cells #[.int .i64 zs[k].id, .int .i64 zs[k].face, .int .i64 zs[k].color, .int .i64 zs[k].year] 53)))
              have HXB := Lib.hid (hbel.alloc hbel.size (.cells #[.int .i64 zs[k].id, .int .i64 zs[k].face, .int .i64 zs[k].color, .int .i64 zs[k].year] 53))
              have hwr := hbel.size
              clear hcc g0 g1 g2 g3 hbx e9 hown htab hbel hBW hA1
              have HNX : Hid (takeB yr (zs.drop k) v = false → Hid (fewT yr zs (k + 1) v = fewT yr zs i v) ∧ Hid (frankF yr (zs.drop (k + 1)) (k + 1) v = frankF yr (zs.drop i) i v)) := Lib.hid (fun ht => by
                have h1 := hfk.out
                have h2 := hrk.out
                rw [hdr] at ht h2
                rw [fewT, hdr] at h1
                exact ⟨Lib.hid ((fewF_skip (by omega) ht).trans h1), Lib.hid (by rw [← h2, frankF_no (by omega) ht])⟩)
              have HI := Lib.hid (fun w => inRange_any zs[k].face 1 (v : Int) w)
              cases he : elig yr v zs[k]
              · obtain ⟨N1, N2⟩ := HNX.out (by rw [hdr]; exact take_elig he)
                have hno := elig_no2 he
                clear he hfk hrk hdr HNX
                rcases hno with h1 | ⟨h1, h2⟩
                · go_wp2_with fail
                  generalize wr.alloc (.cells #[.int .i64 zs[k].id, .int .i64 zs[k].face, .int .i64 zs[k].color, .int .i64 zs[k].year] 53) = wB at *
                  have x1 := HXX.out.cell (j := 1) rfl
                  have x3 := HXX.out.cell (j := 3) rfl
                  go_quiet (fail)
                  go_wp2_with fail
                  go_roundw
                  case rel => exact ⟨k + 1, by omega, by omega, rfl, by go_num, N1, N2, own_dr HXO.out (Dr.of _ _), HXT.out.below ((Dr.of _ _).below _), HXB.out.trans ((Dr.of _ _).below _)⟩
                  case measure => simp [intOf]; omega
                · rw [h2] at HI
                  go_wp2_with fail
                  generalize wr.alloc (.cells #[.int .i64 zs[k].id, .int .i64 zs[k].face, .int .i64 zs[k].color, .int .i64 zs[k].year] 53) = wB at *
                  have x1 := HXX.out.cell (j := 1) rfl
                  have x3 := HXX.out.cell (j := 3) rfl
                  go_quiet ((go_at_call 34; exact quiet_same (HI.out _)))
                  go_wp2_with fail
                  go_roundw
                  case rel => exact ⟨k + 1, by omega, by omega, rfl, by go_num, N1, N2, own_dr HXO.out (Dr.of _ _), HXT.out.below ((Dr.of _ _).below _), HXB.out.trans ((Dr.of _ _).below _)⟩
                  case measure => simp [intOf]; omega
              · obtain ⟨q1, q2, q3⟩ := elig_iff.1 he
                obtain ⟨F, hF⟩ : ∃ F : Nat, zs[k].face = (F : Int) := ⟨zs[k].face.toNat, by omega⟩
                have hFt : zs[k].face.toNat = F := by omega
                have hI : inB zs[k].face 1 (v : Int) = true := inB_true.2 ⟨q2, q3⟩
                rw [hI] at HI
                have bZ := fewT_le yr zs k (v - F)
                have bW := fewT_le yr zs i v
                have htk : takeB yr (zs.drop k) v = ((1 + (fewT yr zs k (v - F) : Int)) == (fewT yr zs i v : Int)) := by
                  have h1 := hfk.out
                  rw [fewT, hdr] at h1
                  have h2 : fewT yr zs k (v - F) = fewF yr (zs[k] :: zs.drop (k + 1)) (v - F) := by rw [fewT, hdr]
                  rw [h2, ← h1, hdr, takeB, he, Bool.true_and, hFt, Bool.eq_iff_iff, decide_eq_true_eq, beq_iff_eq]
                  omega
                have HYES : Hid (takeB yr (zs.drop k) v = true → Hid (v - F ≠ 0 → fewT yr zs k (v - F) = fewF yr zs (v - F) ∧ fewF yr zs (v - F) ≤ 40) ∧ Hid ((acc ++ [(k : Int)]) ++ frankF yr (zs.drop k) k (v - F) = frankF yr zs 0 m)) := Lib.hid (fun ht => by
                  rw [hdr] at ht
                  have h8 := hfk.out.trans HF1.out
                  rw [fewT, hdr] at h8
                  have h7 := fewF_take hdr h8 ht
                  rw [hFt] at h7
                  refine ⟨Lib.hid (fun _ => ⟨by rw [fewT, hdr]; exact h7.1, by have := h7.2; omega⟩), Lib.hid ?_⟩
                  have h6 := hacc.out
                  rw [← hrk.out, hdr, frankF_yes (by omega) ht, hFt] at h6
                  rw [hdr, List.append_assoc]
                  exact h6)
                obtain ⟨Z, hZ⟩ : ∃ Z, Z = fewT yr zs k (v - F) := ⟨_, rfl⟩
                obtain ⟨W, hW⟩ : ∃ W, W = fewT yr zs i v := ⟨_, rfl⟩
                rw [← hZ] at bZ htk
                rw [← hW] at bW htk
                have hyr : decide (zs[k].year ≤ yr) = true := by simpa using q1
                rw [hF] at HXX HXO HXT HXB hc1 HI HA1 q2 q3
                have t1 : IntKind.i64.wrap ((v : Int) - (F : Int)) = (v : Int) - (F : Int) := IntWalk.i64_in _ (by omega)
                have t2 : (0 : Int) ≤ (v : Int) - (F : Int) := by omega
                have t3 : (v : Int) - (F : Int) < (m : Int) + 1 := by omega
                have t4 : ((v : Int) - (F : Int)).toNat = v - F := by omega
                have t5 : IntKind.i64.wrap (1 + (Z : Int)) = 1 + (Z : Int) := IntWalk.i64_in _ (by omega)
                have t6 : (v : Int) < (m : Int) + 1 := by omega
                have t7 : (k : Int) < (zs.length : Int) + 1 := by omega
                have t8 : (i : Int) < (zs.length : Int) + 1 := by omega
                cases ht : takeB yr (zs.drop k) v
                · obtain ⟨N1, N2⟩ := HNX.out ht
                  have htb : (1 + (Z : Int) == (W : Int)) = false := by rw [← htk]; exact ht
                  clear he hfk hrk hdr HNX HYES htk ht hFt
                  go_wp2_with fail
                  generalize wr.alloc (.cells #[.int .i64 zs[k].id, .int .i64 (F : Int), .int .i64 zs[k].color, .int .i64 zs[k].year] 53) = wB at *
                  have kk1 := HXT.out.outer.cell (tabV_get hkn (Nat.zero_le _))
                  have kk2 := HXT.out.outer.cell (tabV_get hi9 (Nat.zero_le _))
                  have kk3 := (HXT.out.rows k (Nat.zero_le _) hkn).cell (fullL_get (show v - F ≤ m by omega))
                  have kk4 := (HXT.out.rows i (Nat.zero_le _) hi9).cell (fullL_get hv)
                  have x1 := HXX.out.cell (j := 1) rfl
                  have x3 := HXX.out.cell (j := 3) rfl
                  rw [hF] at x1
                  rw [← hZ] at kk3
                  rw [← hW] at kk4
                  have HF := Lib.hid hF
                  clear hF hZ hW
                  go_quiet ((go_at_call 34; exact quiet_same (HI.out _)))
                  clear kk1 kk2 kk3 kk4 x1 x3 t1 t2 t3 t4 t5
                  go_wp2_with fail
                  go_roundw
                  case rel => exact ⟨k + 1, by omega, by omega, rfl, by go_num, N1, N2, own_dr HXO.out (Dr.of _ _), HXT.out.below ((Dr.of _ _).below _), HXB.out.trans ((Dr.of _ _).below _)⟩
                  case measure => simp [intOf]; omega
                · obtain ⟨N1, N2⟩ := HYES.out ht
                  have htb : (1 + (Z : Int) == (W : Int)) = true := by rw [← htk]; exact ht
                  clear he hfk hrk hdr HNX HYES htk ht hFt
                  go_wp2_with fail
                  generalize wr.alloc (.cells #[.int .i64 zs[k].id, .int .i64 (F : Int), .int .i64 zs[k].color, .int .i64 zs[k].year] 53) = wB at *
                  have kk1 := HXT.out.outer.cell (tabV_get hkn (Nat.zero_le _))
                  have kk2 := HXT.out.outer.cell (tabV_get hi9 (Nat.zero_le _))
                  have kk3 := (HXT.out.rows k (Nat.zero_le _) hkn).cell (fullL_get (show v - F ≤ m by omega))
                  have kk4 := (HXT.out.rows i (Nat.zero_le _) hi9).cell (fullL_get hv)
                  have x1 := HXX.out.cell (j := 1) rfl
                  have x3 := HXX.out.cell (j := 3) rfl
                  rw [hF] at x1
                  rw [← hZ] at kk3
                  rw [← hW] at kk4
                  have HF := Lib.hid hF
                  clear hF hZ hW
                  go_quiet ((go_at_call 34; exact quiet_same (HI.out _)))
                  clear kk1 kk2 kk3 kk4 x1 x3 t1 t2 t3 t4 t5
                  have HO5 := Lib.hid (own_dr HXO.out (Dr.of _ nq))
                  have HT5 := Lib.hid (HXT.out.below ((Dr.of _ nq).below _))
                  have HB5 := Lib.hid (HXB.out.trans ((Dr.of _ nq).below _))
                  generalize wB.drewN nq = w5 at *
                  go_wp2_with (at_builtin; go_must (refine wpList_append_own _ rfl _ _ 24 rfl wo.heap.size 3 i0 (.int .i64 0) 1 8 Try.underlying24 hi hz0 hz1 hz2 rfl (by decide) _ _ _ rfl (HO5.out.alloc _) ⟨w5.heap.size, 0, none⟩ 1 1 [.int .i64 (k : Int)] rfl rfl (World.news_of_block (cs := #[.int .i64 (k : Int)]) (t := 3) (fr := (0, 0)) (heap_alloc_new _ _)) (by simp [Value.oneCell']) (by unfold maxLen; omega) (by omega) (Nat.le_trans HB5.out.size (by simp)) ?_))
                  intro v' w6 hown6 hgrow6 _
                  obtain ⟨g6, c6, hv6⟩ := Go.Joins.ownsRow_form hown6 (by omega)
                  have hg6 : w5.grownBy w6 (Value.slice ad acc.length cp).ownBlock := grownBy_trans (World.grownBy_alloc w5 _ _) hgrow6
                  have hal6 : (acc ++ [(k : Int)]).length = acc.length + 1 := by simp
                  have hown7 : w6.ownsRow wo.heap.size 3 1 (.slice (some ⟨g6, 0, none⟩) (acc.length + 1) c6) (acc ++ [(k : Int)]).length (ints (acc ++ [(k : Int)])) := by
                    rw [hal6]; rw [hv6] at hown6; simpa [ints] using hown6
                  have HO6 := Lib.hid hown7
                  have HL6 := Lib.hid hal6
                  have hB6 := HB5.out.grown hg6 HB5.out.size (fun q hq => (HO5.out.lt q hq).1)
                  have HB6 := Lib.hid hB6
                  have HT6 := Lib.hid (HT5.out.grown hg6 hg0 (fun j _ h2 => hBL.out j h2) (fun q hq => (HO5.out.lt q hq).1))
                  have y1 : w6.cell? ⟨b, bo + k * 4 + 1, none⟩ = some (.int .i64 (F : Int)) := ((HB.out.trans (hB6.mono hwo)).cell (p := ⟨b, _, none⟩) hb2).trans HA1.out
                  rw [hv6]
                  clear hown6 hgrow6 hown7 hal6 hv6 hg6 hB6
                  go_wp2_with fail
                  go_roundw
                  case rel => exact ⟨v - F, k, acc ++ [(k : Int)], by go_num, rfl, by omega, hkn, N1, N2, by rw [HL6.out]; omega, ⟨_, _, by rw [HL6.out]⟩, HO6.out, HT6.out, HB6.out⟩
                  case measure => simp [intOf]; omega
end Go.Proofs.Ytieopadbbciciaa
