/- ParseStamp: the program's walk. -/
import Derived.Test.YtoomjionojfjgaaDoorParseM
namespace Go.Proofs.YtoomjionojfjgaaDoor
open Go.RowKit

theorem below_new (w : World) (o : Obj) : Below w.heap.size w (w.alloc o) := Go.Joins.below_alloc1 w o
theorem cut4 {l : List ByteArray} (h : l.length = 4) : ∃ a b c d, l = [a, b, c, d] := by
  match l, h with
  | [a, b, c, d], _ => exact ⟨a, b, c, d, rfl⟩
theorem cut5 {l : List ByteArray} (h : l.length = 5) : ∃ a b c d e, l = [a, b, c, d, e] := by
  match l, h with
  | [a, b, c, d, e], _ => exact ⟨a, b, c, d, e, rfl⟩
theorem splitA_le (c : UInt8) : ∀ (l cur p : List UInt8), p ∈ splitA c cur l → p.length ≤ cur.length + l.length
  | [], cur, p, h => by
    rw [splitA, List.mem_singleton] at h; rw [h]; simp
  | x :: xs, cur, p, h => by
    rw [splitA] at h
    split at h
    · rcases List.mem_cons.1 h with e | e
      · rw [e]; simp
      · have := splitA_le c xs [] p e
        simp at this ⊢; omega
    · have := splitA_le c xs _ p h
      simp at this ⊢; omega
theorem sz_split {s : ByteArray} {c : UInt8} {z : ByteArray} (h : z ∈ splitF s c) : z.size ≤ s.size := by
  have hm : z.data.toList ∈ (splitF s c).map (·.data.toList) := List.mem_map.2 ⟨z, h, rfl⟩
  rw [splitF_data] at hm
  have := splitA_le c _ _ _ hm
  have h1 : z.data.toList.length = z.size := by simp
  have h2 : s.data.toList.length = s.size := by simp
  simp only [List.length_nil] at this
  omega
/-- a stamp stored over another -/
theorem stored4 {w : World} {g : Nat} {xs : List Value} (h : RowIs w g 25 xs) (hl : xs.length = 4) (c : StampT) :
    RowIs ((((w.setCell ⟨g, 0, none⟩ (.int .i64 c.id)).setCell ⟨g, 1, none⟩ (.int .i64 c.face)).setCell ⟨g, 2, none⟩ (.int .i64 c.color)).setCell ⟨g, 3, none⟩ (.int .i64 c.year)) g 25 c.cells := by
  have := (((h.set 0 (.int .i64 c.id)).set 1 (.int .i64 c.face)).set 2 (.int .i64 c.color)).set 3 (.int .i64 c.year)
  match xs, hl with
  | [a, b, d, e], _ => exact this
theorem below4 {B : Nat} {w w' : World} {g : Nat} (h : Below B w w') (hg : B ≤ g) (u0 u1 u2 u3 : Value) : Below B w ((((w'.setCell ⟨g, 0, none⟩ u0).setCell ⟨g, 1, none⟩ u1).setCell ⟨g, 2, none⟩ u2).setCell ⟨g, 3, none⟩ u3) :=
  (((h.setCell hg _).setCell hg _).setCell hg _).setCell hg _
theorem atoi_ok2 (s : ByteArray) (hlim : s.size ≤ 2097152) {v : Int} (h : Lib.atoiAll s.data.toList = .ok v) (w : World) :
    Calls Tryd.prog 29 #[.string s] w fun e w' => e = .returned (.tuple #[.int .i64 v, .nilIface]) ∧ Below w.heap.size w w' :=
  (Tryd.strconv_Atoi_ok s (by omega) v h w).mono fun _ w' ⟨he, hw⟩ => ⟨he, by
    rcases hw with rfl | ⟨t, rfl⟩
    · exact Below.refl _ _
    · exact Lib.bytesWorld_below _ _ _⟩
set_option maxHeartbeats 4000000 in
set_option maxRecDepth 100000 in
theorem implParseStamp_any (s : ByteArray) (w : World) (hm : s.size ≤ 1048576) (ht : Tabs w) : Calls Tryd.prog 7 #[.string s] w fun e w' => e = .returned (.tuple #[(finC s (implC s)).1.val, .bool (finC s (implC s)).2]) ∧ Below w.heap.size w w' := by
  have BX := Lib.hid (RowIs.new w 25 stamp0.cells)
  have B0 := Lib.hid (below_new w (.cells stamp0.cells.toArray 25))
  have hg : w.heap.size < (w.alloc (.cells stamp0.cells.toArray 25)).heap.size := BX.out.lt
  have e0 : (w.alloc (.cells stamp0.cells.toArray 25)) = w.alloc (.cells #[.int .i64 0, .int .i64 0, .int .i64 0, .int .i64 0] 25) := rfl
  rw [e0] at BX B0 hg
  have HT := Lib.hid (ht.below B0.out)
  have hcl := cutF_le s colonB
  have hC := fun w hx => cut_any s colonB w hm hx
  obtain ⟨q, hq⟩ : ∃ q, q = cutF s colonB := ⟨_, rfl⟩
  rw [← hq] at hC hcl
  obtain ⟨qi, qr⟩ := q
  simp only at hC hcl
  have HC := Lib.hid hC
  have hS := fun w hx => split_any qr 32 w (by omega) hx
  have himp : implC s = match splitF qr 32 with
    | [x0, _, x2, x3] => match Lib.atoiAll ((cutF x0 dotB).1 ++ (cutF x0 dotB).2).data.toList with
      | .ok v => if (readR qi).2 = true ∧ (readR x2).2 = true ∧ (readR x3).2 = true then some ⟨(readR qi).1, v, (readR x2).1, (readR x3).1⟩ else none
      | _ => none
    | _ => none := by rw [implC, ← hq]; rfl
  obtain ⟨ps, hps⟩ : ∃ ps, ps = splitF qr 32 := ⟨_, rfl⟩
  rw [← hps] at hS himp
  have HPS := Lib.hid hps
  clear hC hq ht e0 hps
  by_cases h4 : ps.length = 4
  rotate_left
  · have hfin : Hid (finC s (implC s) = (stamp0, false)) := Lib.hid (by
      rw [himp]
      split
      · exact absurd rfl h4
      · rfl)
    have hb4 : ((ps.length : Int) != 4) = true := by simp; omega
    have HS := Lib.hid hS
    clear hS himp h4
    go_enter Tryd.func7, Tryd.ntmps7
    go_wp2_with fail
    generalize w.alloc (.cells #[.int .i64 0, .int .i64 0, .int .i64 0, .int .i64 0] 25) = w0 at *
    refine (HC.out _ HT.out.mx).mono ?_
    rintro e w1 ⟨⟨b, rfl⟩, hd⟩
    have HB1 := Lib.hid (hd.below w0.heap.size)
    clear hd
    go_wp2_with fail
    refine (HS.out _ (HT.out.below HB1.out).mx).mono ?_
    rintro e w2 ⟨rfl, _, hb⟩
    have HB2 := Lib.hid (HB1.out.trans (hb.mono HB1.out.size))
    have hz := BX.out.below HB2.out
    have c0 := hz.cell (j := 0) rfl
    have c1 := hz.cell (j := 1) rfl
    have c2 := hz.cell (j := 2) rfl
    have c3 := hz.cell (j := 3) rfl
    have f0 := hz.free 0
    have f1 := hz.free 1
    have f2 := hz.free 2
    have f3 := hz.free 3
    have HZ := Lib.hid hz
    clear hz hb
    go_wp2_with fail
    have hz4 := stored4 HZ.out rfl stamp0
    have hb4 := below4 (B0.out.trans (HB2.out.mono B0.out.size)) (Nat.le_refl _) (.int .i64 stamp0.id) (.int .i64 stamp0.face) (.int .i64 stamp0.color) (.int .i64 stamp0.year)
    clear c0 c1 c2 c3 f0 f1 f2 f3
    simp only [stamp0] at hz4 hb4
    generalize (((w2.setCell ⟨w.heap.size, 0, none⟩ (.int .i64 0)).setCell ⟨w.heap.size, 1, none⟩ (.int .i64 0)).setCell ⟨w.heap.size, 2, none⟩ (.int .i64 0)).setCell ⟨w.heap.size, 3, none⟩ (.int .i64 0) = w9 at *
    have d0 := hz4.cell (j := 0) rfl
    have d1 := hz4.cell (j := 1) rfl
    have d2 := hz4.cell (j := 2) rfl
    have d3 := hz4.cell (j := 3) rfl
    exact bodyPost_ret (v := .tuple #[stamp0.val, .bool false]) (by simp [results, Tryd.results7, go_sem, d0, d1, d2, d3, stamp0]) rfl ⟨by rw [hfin.out], hb4⟩
  obtain ⟨x0, x1, x2, x3, rfl⟩ := cut4 h4
  simp only at himp
  have z0 : x0.size ≤ 1048576 := by have := sz_split (z := x0) (s := qr) (c := 32) (by rw [← HPS.out]; simp); omega
  have z2 : x2.size ≤ 1048576 := by have := sz_split (z := x2) (s := qr) (c := 32) (by rw [← HPS.out]; simp); omega
  have z3 : x3.size ≤ 1048576 := by have := sz_split (z := x3) (s := qr) (c := 32) (by rw [← HPS.out]; simp); omega
  have z1 : qi.size ≤ 1048576 := by omega
  have hcl2 := cutF_le x0 dotB
  have hC2 := fun w hx => cut_any x0 dotB w z0 hx
  generalize cutF x0 dotB = q2 at hC2 hcl2 himp
  obtain ⟨ya, yb⟩ := q2
  simp only at hC2 hcl2 himp
  have ysz : (ya ++ yb).size ≤ 2097152 := by rw [ByteArray.size_append]; omega
  have ya1 : ya.size ≤ 1048576 := by omega
  have yb1 : yb.size ≤ 1048576 := by omega
  have hP1 := fun w a b c => implParse_any qi w z1 a b c
  have hP2 := fun w a b c => implParse_any x2 w z2 a b c
  have hP3 := fun w a b c => implParse_any x3 w z3 a b c
  obtain ⟨r1, hr1⟩ : ∃ r1, r1 = readR qi := ⟨_, rfl⟩
  obtain ⟨r2, hr2⟩ : ∃ r2, r2 = readR x2 := ⟨_, rfl⟩
  obtain ⟨r3, hr3⟩ : ∃ r3, r3 = readR x3 := ⟨_, rfl⟩
  rw [← hr1] at hP1 himp
  rw [← hr2] at hP2 himp
  rw [← hr3] at hP3 himp
  obtain ⟨n1, b1⟩ := r1
  obtain ⟨n2, b2⟩ := r2
  obtain ⟨n3, b3⟩ := r3
  simp only at hP1 hP2 hP3 himp
  have HS := Lib.hid hS
  have HC2 := Lib.hid hC2
  have HP1 := Lib.hid hP1
  have HP2 := Lib.hid hP2
  have HP3 := Lib.hid hP3
  clear hS hC2 hP1 hP2 hP3 hr1 hr2 hr3 z0 z1 z2 z3 h4
  by_cases hok : ∃ v, Lib.atoiAll (ya ++ yb).data.toList = .ok v
  rotate_left
  · have hno : ∀ v, Lib.atoiAll (ya ++ yb).data.toList ≠ .ok v := fun v h => hok ⟨v, h⟩
    have HF : Hid (finC s (implC s) = (stamp0, false)) := Lib.hid (by
      rw [himp]
      cases hh : Lib.atoiAll (ya ++ yb).data.toList with
      | ok v => exact absurd hh (hno v)
      | _ => rfl)
    have HA := Lib.hid (fun w h1 h2 => atoi_no (ya ++ yb) (by omega) hno w h1 h2)
    clear hok hno himp
    go_enter Tryd.func7, Tryd.ntmps7
    go_wp2_with fail
    generalize w.alloc (.cells #[.int .i64 0, .int .i64 0, .int .i64 0, .int .i64 0] 25) = w0 at *
    refine (HC.out _ HT.out.mx).mono ?_
    rintro e w1 ⟨⟨b, rfl⟩, hd⟩
    have HB1 := Lib.hid (hd.below w0.heap.size)
    clear hd
    go_wp2_with fail
    refine (HS.out _ (HT.out.below HB1.out).mx).mono ?_
    rintro e w2 ⟨rfl, hrow, hb⟩
    have HB2 := Lib.hid (HB1.out.trans (hb.mono HB1.out.size))
    have HROW := Lib.hid hrow
    have g1 := HROW.out.lt
    have k0 := HROW.out.cell (j := 0) rfl
    clear hrow hb
    simp only [List.length_cons, List.length_nil]
    go_wp2_with fail
    refine (HC2.out _ (HT.out.below HB2.out).mx).mono ?_
    rintro e w3 ⟨⟨bb, rfl⟩, hd⟩
    have HB3 := Lib.hid (HB2.out.trans (hd.below _))
    have HR3 := Lib.hid (HROW.out.below (hd.below _))
    clear hd k0
    go_wp2_with fail
    refine (HP1.out _ (HT.out.below HB3.out).pow (HT.out.below HB3.out).e1 (HT.out.below HB3.out).e2).mono ?_
    rintro e w4 ⟨rfl, hb⟩
    have HB4 := Lib.hid (HB3.out.trans (hb.mono HB3.out.size))
    have HR4 := Lib.hid (HR3.out.below hb)
    clear hb
    go_wp2_with fail
    refine (HA.out _ (HT.out.below HB4.out).e1 (HT.out.below HB4.out).e2).mono ?_
    rintro e w5 ⟨⟨v, N, rfl⟩, hb⟩
    have HB5 := Lib.hid (HB4.out.trans (hb.mono HB4.out.size))
    have HR5 := Lib.hid (HR4.out.below hb)
    have k2 := HR5.out.cell (j := 2) rfl
    clear hb
    go_wp2_with fail
    refine (HP2.out _ (HT.out.below HB5.out).pow (HT.out.below HB5.out).e1 (HT.out.below HB5.out).e2).mono ?_
    rintro e w6 ⟨rfl, hb⟩
    have HB6 := Lib.hid (HB5.out.trans (hb.mono HB5.out.size))
    have HR6 := Lib.hid (HR5.out.below hb)
    have k3 := HR6.out.cell (j := 3) rfl
    clear hb k2
    go_wp2_with fail
    refine (HP3.out _ (HT.out.below HB6.out).pow (HT.out.below HB6.out).e1 (HT.out.below HB6.out).e2).mono ?_
    rintro e w7 ⟨rfl, hb⟩
    have HB7 := Lib.hid (HB6.out.trans (hb.mono HB6.out.size))
    clear hb k3
    have HZ := Lib.hid (fun o => (BX.out.below HB7.out).alloc o)
    have HBW := Lib.hid (fun o => (B0.out.trans (HB7.out.mono B0.out.size)).alloc (show w.heap.size ≤ w7.heap.size by have := B0.out.size; have := HB7.out.size; omega) o)
    cases b1
    · skip
      have c0 : ∀ o, (w7.alloc o).cell? ⟨w.heap.size, 0, none⟩ = some (.int .i64 0) := fun o => (HZ.out o).cell (j := 0) rfl
      have c1 : ∀ o, (w7.alloc o).cell? ⟨w.heap.size, 1, none⟩ = some (.int .i64 0) := fun o => (HZ.out o).cell (j := 1) rfl
      have c2 : ∀ o, (w7.alloc o).cell? ⟨w.heap.size, 2, none⟩ = some (.int .i64 0) := fun o => (HZ.out o).cell (j := 2) rfl
      have c3 : ∀ o, (w7.alloc o).cell? ⟨w.heap.size, 3, none⟩ = some (.int .i64 0) := fun o => (HZ.out o).cell (j := 3) rfl
      have f0 : ∀ o, (w7.alloc o).frozen? ⟨w.heap.size, 0, none⟩ = false := fun o => (HZ.out o).free 0
      have f1 : ∀ o, (w7.alloc o).frozen? ⟨w.heap.size, 1, none⟩ = false := fun o => (HZ.out o).free 1
      have f2 : ∀ o, (w7.alloc o).frozen? ⟨w.heap.size, 2, none⟩ = false := fun o => (HZ.out o).free 2
      have f3 : ∀ o, (w7.alloc o).frozen? ⟨w.heap.size, 3, none⟩ = false := fun o => (HZ.out o).free 3
      go_wp2_with fail
      have hz4 := stored4 (HZ.out (.cells #[.int .i64 n1, .int .i64 v, .int .i64 n2, .int .i64 n3] 25)) rfl (stamp0 : StampT)
      have hb4 := below4 (HBW.out (.cells #[.int .i64 n1, .int .i64 v, .int .i64 n2, .int .i64 n3] 25)) (Nat.le_refl _) (.int .i64 0) (.int .i64 0) (.int .i64 0) (.int .i64 0)
      clear c0 c1 c2 c3 f0 f1 f2 f3
      simp only [stamp0] at hz4
      generalize ((((w7.alloc (.cells #[.int .i64 n1, .int .i64 v, .int .i64 n2, .int .i64 n3] 25)).setCell ⟨w.heap.size, 0, none⟩ (.int .i64 0)).setCell ⟨w.heap.size, 1, none⟩ (.int .i64 0)).setCell ⟨w.heap.size, 2, none⟩ (.int .i64 0)).setCell ⟨w.heap.size, 3, none⟩ (.int .i64 0) = w99 at *
      have d0 := hz4.cell (j := 0) rfl
      have d1 := hz4.cell (j := 1) rfl
      have d2 := hz4.cell (j := 2) rfl
      have d3 := hz4.cell (j := 3) rfl
      exact bodyPost_ret (v := .tuple #[(stamp0 : StampT).val, .bool false]) (by simp [results, Tryd.results7, go_sem, d0, d1, d2, d3, stamp0]) rfl ⟨by rw [HF.out], hb4⟩
    · skip
      have c0 : ∀ o, (w7.alloc o).cell? ⟨w.heap.size, 0, none⟩ = some (.int .i64 0) := fun o => (HZ.out o).cell (j := 0) rfl
      have c1 : ∀ o, (w7.alloc o).cell? ⟨w.heap.size, 1, none⟩ = some (.int .i64 0) := fun o => (HZ.out o).cell (j := 1) rfl
      have c2 : ∀ o, (w7.alloc o).cell? ⟨w.heap.size, 2, none⟩ = some (.int .i64 0) := fun o => (HZ.out o).cell (j := 2) rfl
      have c3 : ∀ o, (w7.alloc o).cell? ⟨w.heap.size, 3, none⟩ = some (.int .i64 0) := fun o => (HZ.out o).cell (j := 3) rfl
      have f0 : ∀ o, (w7.alloc o).frozen? ⟨w.heap.size, 0, none⟩ = false := fun o => (HZ.out o).free 0
      have f1 : ∀ o, (w7.alloc o).frozen? ⟨w.heap.size, 1, none⟩ = false := fun o => (HZ.out o).free 1
      have f2 : ∀ o, (w7.alloc o).frozen? ⟨w.heap.size, 2, none⟩ = false := fun o => (HZ.out o).free 2
      have f3 : ∀ o, (w7.alloc o).frozen? ⟨w.heap.size, 3, none⟩ = false := fun o => (HZ.out o).free 3
      go_wp2_with fail
      have hz4 := stored4 (HZ.out (.cells #[.int .i64 n1, .int .i64 v, .int .i64 n2, .int .i64 n3] 25)) rfl (stamp0 : StampT)
      have hb4 := below4 (HBW.out (.cells #[.int .i64 n1, .int .i64 v, .int .i64 n2, .int .i64 n3] 25)) (Nat.le_refl _) (.int .i64 0) (.int .i64 0) (.int .i64 0) (.int .i64 0)
      clear c0 c1 c2 c3 f0 f1 f2 f3
      simp only [stamp0] at hz4
      generalize ((((w7.alloc (.cells #[.int .i64 n1, .int .i64 v, .int .i64 n2, .int .i64 n3] 25)).setCell ⟨w.heap.size, 0, none⟩ (.int .i64 0)).setCell ⟨w.heap.size, 1, none⟩ (.int .i64 0)).setCell ⟨w.heap.size, 2, none⟩ (.int .i64 0)).setCell ⟨w.heap.size, 3, none⟩ (.int .i64 0) = w99 at *
      have d0 := hz4.cell (j := 0) rfl
      have d1 := hz4.cell (j := 1) rfl
      have d2 := hz4.cell (j := 2) rfl
      have d3 := hz4.cell (j := 3) rfl
      exact bodyPost_ret (v := .tuple #[(stamp0 : StampT).val, .bool false]) (by simp [results, Tryd.results7, go_sem, d0, d1, d2, d3, stamp0]) rfl ⟨by rw [HF.out], hb4⟩
  obtain ⟨v, hv⟩ := hok
  rw [hv] at himp
  simp only at himp
  have HA := Lib.hid (fun w => atoi_ok2 (ya ++ yb) ysz hv w)
  clear hv
  go_enter Tryd.func7, Tryd.ntmps7
  go_wp2_with fail
  generalize w.alloc (.cells #[.int .i64 0, .int .i64 0, .int .i64 0, .int .i64 0] 25) = w0 at *
  refine (HC.out _ HT.out.mx).mono ?_
  rintro e w1 ⟨⟨b, rfl⟩, hd⟩
  have HB1 := Lib.hid (hd.below w0.heap.size)
  clear hd
  go_wp2_with fail
  refine (HS.out _ (HT.out.below HB1.out).mx).mono ?_
  rintro e w2 ⟨rfl, hrow, hb⟩
  have HB2 := Lib.hid (HB1.out.trans (hb.mono HB1.out.size))
  have HROW := Lib.hid hrow
  have g1 := HROW.out.lt
  have k0 := HROW.out.cell (j := 0) rfl
  clear hrow hb
  simp only [List.length_cons, List.length_nil]
  go_wp2_with fail
  refine (HC2.out _ (HT.out.below HB2.out).mx).mono ?_
  rintro e w3 ⟨⟨bb, rfl⟩, hd⟩
  have HB3 := Lib.hid (HB2.out.trans (hd.below _))
  have HR3 := Lib.hid (HROW.out.below (hd.below _))
  clear hd k0
  go_wp2_with fail
  refine (HP1.out _ (HT.out.below HB3.out).pow (HT.out.below HB3.out).e1 (HT.out.below HB3.out).e2).mono ?_
  rintro e w4 ⟨rfl, hb⟩
  have HB4 := Lib.hid (HB3.out.trans (hb.mono HB3.out.size))
  have HR4 := Lib.hid (HR3.out.below hb)
  clear hb
  go_wp2_with fail
  refine (HA.out _).mono ?_
  rintro e w5 ⟨rfl, hb⟩
  have HB5 := Lib.hid (HB4.out.trans (hb.mono HB4.out.size))
  have HR5 := Lib.hid (HR4.out.below hb)
  have k2 := HR5.out.cell (j := 2) rfl
  clear hb
  go_wp2_with fail
  refine (HP2.out _ (HT.out.below HB5.out).pow (HT.out.below HB5.out).e1 (HT.out.below HB5.out).e2).mono ?_
  rintro e w6 ⟨rfl, hb⟩
  have HB6 := Lib.hid (HB5.out.trans (hb.mono HB5.out.size))
  have HR6 := Lib.hid (HR5.out.below hb)
  have k3 := HR6.out.cell (j := 3) rfl
  clear hb k2
  go_wp2_with fail
  refine (HP3.out _ (HT.out.below HB6.out).pow (HT.out.below HB6.out).e1 (HT.out.below HB6.out).e2).mono ?_
  rintro e w7 ⟨rfl, hb⟩
  have HB7 := Lib.hid (HB6.out.trans (hb.mono HB6.out.size))
  clear hb k3
  have HZ := Lib.hid (fun o => (BX.out.below HB7.out).alloc o)
  have HBW := Lib.hid (fun o => (B0.out.trans (HB7.out.mono B0.out.size)).alloc (show w.heap.size ≤ w7.heap.size by have := B0.out.size; have := HB7.out.size; omega) o)
  by_cases hall : b1 = true ∧ b2 = true ∧ b3 = true
  rotate_left
  · have HF : Hid (finC s (implC s) = (stamp0, false)) := Lib.hid (by rw [himp, if_neg hall]; rfl)
    have hall2 : b1 = false ∨ (b1 = true ∧ b2 = false) ∨ (b1 = true ∧ b2 = true ∧ b3 = false) := by revert hall; cases b1 <;> cases b2 <;> cases b3 <;> simp
    clear hall himp
    rcases hall2 with rfl | ⟨rfl, rfl⟩ | ⟨rfl, rfl, rfl⟩
    · skip
      have c0 : ∀ o, (w7.alloc o).cell? ⟨w.heap.size, 0, none⟩ = some (.int .i64 0) := fun o => (HZ.out o).cell (j := 0) rfl
      have c1 : ∀ o, (w7.alloc o).cell? ⟨w.heap.size, 1, none⟩ = some (.int .i64 0) := fun o => (HZ.out o).cell (j := 1) rfl
      have c2 : ∀ o, (w7.alloc o).cell? ⟨w.heap.size, 2, none⟩ = some (.int .i64 0) := fun o => (HZ.out o).cell (j := 2) rfl
      have c3 : ∀ o, (w7.alloc o).cell? ⟨w.heap.size, 3, none⟩ = some (.int .i64 0) := fun o => (HZ.out o).cell (j := 3) rfl
      have f0 : ∀ o, (w7.alloc o).frozen? ⟨w.heap.size, 0, none⟩ = false := fun o => (HZ.out o).free 0
      have f1 : ∀ o, (w7.alloc o).frozen? ⟨w.heap.size, 1, none⟩ = false := fun o => (HZ.out o).free 1
      have f2 : ∀ o, (w7.alloc o).frozen? ⟨w.heap.size, 2, none⟩ = false := fun o => (HZ.out o).free 2
      have f3 : ∀ o, (w7.alloc o).frozen? ⟨w.heap.size, 3, none⟩ = false := fun o => (HZ.out o).free 3
      go_wp2_with fail
      have hz4 := stored4 (HZ.out (.cells #[.int .i64 n1, .int .i64 v, .int .i64 n2, .int .i64 n3] 25)) rfl (stamp0 : StampT)
      have hb4 := below4 (HBW.out (.cells #[.int .i64 n1, .int .i64 v, .int .i64 n2, .int .i64 n3] 25)) (Nat.le_refl _) (.int .i64 0) (.int .i64 0) (.int .i64 0) (.int .i64 0)
      clear c0 c1 c2 c3 f0 f1 f2 f3
      simp only [stamp0] at hz4
      generalize ((((w7.alloc (.cells #[.int .i64 n1, .int .i64 v, .int .i64 n2, .int .i64 n3] 25)).setCell ⟨w.heap.size, 0, none⟩ (.int .i64 0)).setCell ⟨w.heap.size, 1, none⟩ (.int .i64 0)).setCell ⟨w.heap.size, 2, none⟩ (.int .i64 0)).setCell ⟨w.heap.size, 3, none⟩ (.int .i64 0) = w99 at *
      have d0 := hz4.cell (j := 0) rfl
      have d1 := hz4.cell (j := 1) rfl
      have d2 := hz4.cell (j := 2) rfl
      have d3 := hz4.cell (j := 3) rfl
      exact bodyPost_ret (v := .tuple #[(stamp0 : StampT).val, .bool false]) (by simp [results, Tryd.results7, go_sem, d0, d1, d2, d3, stamp0]) rfl ⟨by rw [HF.out], hb4⟩
    · skip
      have c0 : ∀ o, (w7.alloc o).cell? ⟨w.heap.size, 0, none⟩ = some (.int .i64 0) := fun o => (HZ.out o).cell (j := 0) rfl
      have c1 : ∀ o, (w7.alloc o).cell? ⟨w.heap.size, 1, none⟩ = some (.int .i64 0) := fun o => (HZ.out o).cell (j := 1) rfl
      have c2 : ∀ o, (w7.alloc o).cell? ⟨w.heap.size, 2, none⟩ = some (.int .i64 0) := fun o => (HZ.out o).cell (j := 2) rfl
      have c3 : ∀ o, (w7.alloc o).cell? ⟨w.heap.size, 3, none⟩ = some (.int .i64 0) := fun o => (HZ.out o).cell (j := 3) rfl
      have f0 : ∀ o, (w7.alloc o).frozen? ⟨w.heap.size, 0, none⟩ = false := fun o => (HZ.out o).free 0
      have f1 : ∀ o, (w7.alloc o).frozen? ⟨w.heap.size, 1, none⟩ = false := fun o => (HZ.out o).free 1
      have f2 : ∀ o, (w7.alloc o).frozen? ⟨w.heap.size, 2, none⟩ = false := fun o => (HZ.out o).free 2
      have f3 : ∀ o, (w7.alloc o).frozen? ⟨w.heap.size, 3, none⟩ = false := fun o => (HZ.out o).free 3
      go_wp2_with fail
      have hz4 := stored4 (HZ.out (.cells #[.int .i64 n1, .int .i64 v, .int .i64 n2, .int .i64 n3] 25)) rfl (stamp0 : StampT)
      have hb4 := below4 (HBW.out (.cells #[.int .i64 n1, .int .i64 v, .int .i64 n2, .int .i64 n3] 25)) (Nat.le_refl _) (.int .i64 0) (.int .i64 0) (.int .i64 0) (.int .i64 0)
      clear c0 c1 c2 c3 f0 f1 f2 f3
      simp only [stamp0] at hz4
      generalize ((((w7.alloc (.cells #[.int .i64 n1, .int .i64 v, .int .i64 n2, .int .i64 n3] 25)).setCell ⟨w.heap.size, 0, none⟩ (.int .i64 0)).setCell ⟨w.heap.size, 1, none⟩ (.int .i64 0)).setCell ⟨w.heap.size, 2, none⟩ (.int .i64 0)).setCell ⟨w.heap.size, 3, none⟩ (.int .i64 0) = w99 at *
      have d0 := hz4.cell (j := 0) rfl
      have d1 := hz4.cell (j := 1) rfl
      have d2 := hz4.cell (j := 2) rfl
      have d3 := hz4.cell (j := 3) rfl
      exact bodyPost_ret (v := .tuple #[(stamp0 : StampT).val, .bool false]) (by simp [results, Tryd.results7, go_sem, d0, d1, d2, d3, stamp0]) rfl ⟨by rw [HF.out], hb4⟩
    · skip
      have c0 : ∀ o, (w7.alloc o).cell? ⟨w.heap.size, 0, none⟩ = some (.int .i64 0) := fun o => (HZ.out o).cell (j := 0) rfl
      have c1 : ∀ o, (w7.alloc o).cell? ⟨w.heap.size, 1, none⟩ = some (.int .i64 0) := fun o => (HZ.out o).cell (j := 1) rfl
      have c2 : ∀ o, (w7.alloc o).cell? ⟨w.heap.size, 2, none⟩ = some (.int .i64 0) := fun o => (HZ.out o).cell (j := 2) rfl
      have c3 : ∀ o, (w7.alloc o).cell? ⟨w.heap.size, 3, none⟩ = some (.int .i64 0) := fun o => (HZ.out o).cell (j := 3) rfl
      have f0 : ∀ o, (w7.alloc o).frozen? ⟨w.heap.size, 0, none⟩ = false := fun o => (HZ.out o).free 0
      have f1 : ∀ o, (w7.alloc o).frozen? ⟨w.heap.size, 1, none⟩ = false := fun o => (HZ.out o).free 1
      have f2 : ∀ o, (w7.alloc o).frozen? ⟨w.heap.size, 2, none⟩ = false := fun o => (HZ.out o).free 2
      have f3 : ∀ o, (w7.alloc o).frozen? ⟨w.heap.size, 3, none⟩ = false := fun o => (HZ.out o).free 3
      go_wp2_with fail
      have hz4 := stored4 (HZ.out (.cells #[.int .i64 n1, .int .i64 v, .int .i64 n2, .int .i64 n3] 25)) rfl (stamp0 : StampT)
      have hb4 := below4 (HBW.out (.cells #[.int .i64 n1, .int .i64 v, .int .i64 n2, .int .i64 n3] 25)) (Nat.le_refl _) (.int .i64 0) (.int .i64 0) (.int .i64 0) (.int .i64 0)
      clear c0 c1 c2 c3 f0 f1 f2 f3
      simp only [stamp0] at hz4
      generalize ((((w7.alloc (.cells #[.int .i64 n1, .int .i64 v, .int .i64 n2, .int .i64 n3] 25)).setCell ⟨w.heap.size, 0, none⟩ (.int .i64 0)).setCell ⟨w.heap.size, 1, none⟩ (.int .i64 0)).setCell ⟨w.heap.size, 2, none⟩ (.int .i64 0)).setCell ⟨w.heap.size, 3, none⟩ (.int .i64 0) = w99 at *
      have d0 := hz4.cell (j := 0) rfl
      have d1 := hz4.cell (j := 1) rfl
      have d2 := hz4.cell (j := 2) rfl
      have d3 := hz4.cell (j := 3) rfl
      exact bodyPost_ret (v := .tuple #[(stamp0 : StampT).val, .bool false]) (by simp [results, Tryd.results7, go_sem, d0, d1, d2, d3, stamp0]) rfl ⟨by rw [HF.out], hb4⟩
  obtain ⟨rfl, rfl, rfl⟩ := hall
  rw [if_pos ⟨rfl, rfl, rfl⟩] at himp
  have hI := fun w => isStamp_any ⟨n1, v, n2, n3⟩ w
  have hbx := RowIs.new w7 25 (⟨n1, v, n2, n3⟩ : StampT).cells
  have HBX : Hid (RowIs (w7.alloc (.cells #[.int .i64 n1, .int .i64 v, .int .i64 n2, .int .i64 n3] 25)) w7.heap.size 25 (⟨n1, v, n2, n3⟩ : StampT).cells) := Lib.hid hbx
  have HBO := Lib.hid (Go.Joins.below_alloc1 w7 (.cells #[.int .i64 n1, .int .i64 v, .int .i64 n2, .int .i64 n3] 25))
  have HZB := Lib.hid (HZ.out (.cells #[.int .i64 n1, .int .i64 v, .int .i64 n2, .int .i64 n3] 25))
  have HBB := Lib.hid (HBW.out (.cells #[.int .i64 n1, .int .i64 v, .int .i64 n2, .int .i64 n3] 25))
  have HTB : Hid (Tabs (w7.alloc (.cells #[.int .i64 n1, .int .i64 v, .int .i64 n2, .int .i64 n3] 25))) := Lib.hid ((HT.out.below HB7.out).below HBO.out)
  clear hbx
  cases hst : stampOk ⟨n1, v, n2, n3⟩
  · rw [hst] at hI
    have HI := Lib.hid hI
    have HF : Hid (finC s (implC s) = (stamp0, false)) := Lib.hid (by rw [himp, finC, if_neg (by rw [hst]; simp)])
    clear hI hst himp HZ HBW
    go_wp2_with fail
    generalize w7.alloc (.cells #[.int .i64 n1, .int .i64 v, .int .i64 n2, .int .i64 n3] 25) = wb at *
    refine (HI.out _).mono ?_
    rintro e w8 ⟨rfl, hb⟩
    have HZ8 := Lib.hid (HZB.out.below hb)
    have HX8 := Lib.hid (HBX.out.below hb)
    have HB8 := Lib.hid (HBB.out.trans (hb.mono HBB.out.size))
    have HT8 := Lib.hid (HTB.out.below hb)
    clear hb
    have c0 := HZ8.out.cell (j := 0) rfl
    have c1 := HZ8.out.cell (j := 1) rfl
    have c2 := HZ8.out.cell (j := 2) rfl
    have c3 := HZ8.out.cell (j := 3) rfl
    have f0 := HZ8.out.free 0
    have f1 := HZ8.out.free 1
    have f2 := HZ8.out.free 2
    have f3 := HZ8.out.free 3
    have x0' := HX8.out.cell (j := 0) rfl
    have x1' := HX8.out.cell (j := 1) rfl
    have x2' := HX8.out.cell (j := 2) rfl
    have x3' := HX8.out.cell (j := 3) rfl
    go_wp2_with fail
    have hz4 := stored4 (HZ8.out) rfl (stamp0 : StampT)
    have hb4 := below4 (HB8.out) (Nat.le_refl _) (.int .i64 0) (.int .i64 0) (.int .i64 0) (.int .i64 0)
    clear c0 c1 c2 c3 f0 f1 f2 f3
    simp only [stamp0] at hz4
    generalize ((((w8).setCell ⟨w.heap.size, 0, none⟩ (.int .i64 0)).setCell ⟨w.heap.size, 1, none⟩ (.int .i64 0)).setCell ⟨w.heap.size, 2, none⟩ (.int .i64 0)).setCell ⟨w.heap.size, 3, none⟩ (.int .i64 0) = w99 at *
    have d0 := hz4.cell (j := 0) rfl
    have d1 := hz4.cell (j := 1) rfl
    have d2 := hz4.cell (j := 2) rfl
    have d3 := hz4.cell (j := 3) rfl
    exact bodyPost_ret (v := .tuple #[(stamp0 : StampT).val, .bool false]) (by simp [results, Tryd.results7, go_sem, d0, d1, d2, d3, stamp0]) rfl ⟨by rw [HF.out], hb4⟩
  · have hX := fun w h => stampText_any ⟨n1, v, n2, n3⟩ hst w h
    rw [hst] at hI
    have HI := Lib.hid hI
    have HX := Lib.hid hX
    by_cases hts : textF ⟨n1, v, n2, n3⟩ = s
    · have HF : Hid (finC s (implC s) = (⟨n1, v, n2, n3⟩, true)) := Lib.hid (by rw [himp, finC, if_pos ⟨hst, hts⟩])
      have hbq := str_beq hts
      clear hI hX hst hts himp HZ HBW
      generalize textF ⟨n1, v, n2, n3⟩ = tx at *
      go_wp2_with fail
      generalize w7.alloc (.cells #[.int .i64 n1, .int .i64 v, .int .i64 n2, .int .i64 n3] 25) = wb at *
      refine (HI.out _).mono ?_
      rintro e w8 ⟨rfl, hb⟩
      have HZ8 := Lib.hid (HZB.out.below hb)
      have HX8 := Lib.hid (HBX.out.below hb)
      have HB8 := Lib.hid (HBB.out.trans (hb.mono HBB.out.size))
      have HT8 := Lib.hid (HTB.out.below hb)
      clear hb
      have c0 := HZ8.out.cell (j := 0) rfl
      have c1 := HZ8.out.cell (j := 1) rfl
      have c2 := HZ8.out.cell (j := 2) rfl
      have c3 := HZ8.out.cell (j := 3) rfl
      have f0 := HZ8.out.free 0
      have f1 := HZ8.out.free 1
      have f2 := HZ8.out.free 2
      have f3 := HZ8.out.free 3
      have x0' := HX8.out.cell (j := 0) rfl
      have x1' := HX8.out.cell (j := 1) rfl
      have x2' := HX8.out.cell (j := 2) rfl
      have x3' := HX8.out.cell (j := 3) rfl
      go_wp2_with fail
      refine (HX.out _ HT8.out.pow).mono ?_
      rintro e w10 ⟨rfl, hb⟩
      have HZ10 := Lib.hid (HZ8.out.below hb)
      have HX10 := Lib.hid (HX8.out.below hb)
      have HB10 := Lib.hid (HB8.out.trans (hb.mono HB8.out.size))
      clear hb c0 c1 c2 c3 f0 f1 f2 f3 x0' x1' x2' x3'
      have c0 := HZ10.out.cell (j := 0) rfl
      have c1 := HZ10.out.cell (j := 1) rfl
      have c2 := HZ10.out.cell (j := 2) rfl
      have c3 := HZ10.out.cell (j := 3) rfl
      have f0 := HZ10.out.free 0
      have f1 := HZ10.out.free 1
      have f2 := HZ10.out.free 2
      have f3 := HZ10.out.free 3
      have x0' := HX10.out.cell (j := 0) rfl
      have x1' := HX10.out.cell (j := 1) rfl
      have x2' := HX10.out.cell (j := 2) rfl
      have x3' := HX10.out.cell (j := 3) rfl
      go_wp2_with fail
      have hz4 := stored4 (HZ10.out) rfl (⟨n1, v, n2, n3⟩ : StampT)
      have hb4 := below4 (HB10.out) (Nat.le_refl _) (.int .i64 n1) (.int .i64 v) (.int .i64 n2) (.int .i64 n3)
      clear c0 c1 c2 c3 f0 f1 f2 f3
      generalize ((((w10).setCell ⟨w.heap.size, 0, none⟩ (.int .i64 n1)).setCell ⟨w.heap.size, 1, none⟩ (.int .i64 v)).setCell ⟨w.heap.size, 2, none⟩ (.int .i64 n2)).setCell ⟨w.heap.size, 3, none⟩ (.int .i64 n3) = w99 at *
      have d0 := hz4.cell (j := 0) rfl
      have d1 := hz4.cell (j := 1) rfl
      have d2 := hz4.cell (j := 2) rfl
      have d3 := hz4.cell (j := 3) rfl
      exact bodyPost_ret (v := .tuple #[(⟨n1, v, n2, n3⟩ : StampT).val, .bool true]) (by simp [results, Tryd.results7, go_sem, d0, d1, d2, d3]) rfl ⟨by rw [HF.out], hb4⟩
    · have HF : Hid (finC s (implC s) = (stamp0, false)) := Lib.hid (by rw [himp, finC, if_neg (fun h => hts h.2)])
      have hbq := str_bne hts
      clear hI hX hst hts himp HZ HBW
      generalize textF ⟨n1, v, n2, n3⟩ = tx at *
      go_wp2_with fail
      generalize w7.alloc (.cells #[.int .i64 n1, .int .i64 v, .int .i64 n2, .int .i64 n3] 25) = wb at *
      refine (HI.out _).mono ?_
      rintro e w8 ⟨rfl, hb⟩
      have HZ8 := Lib.hid (HZB.out.below hb)
      have HX8 := Lib.hid (HBX.out.below hb)
      have HB8 := Lib.hid (HBB.out.trans (hb.mono HBB.out.size))
      have HT8 := Lib.hid (HTB.out.below hb)
      clear hb
      have c0 := HZ8.out.cell (j := 0) rfl
      have c1 := HZ8.out.cell (j := 1) rfl
      have c2 := HZ8.out.cell (j := 2) rfl
      have c3 := HZ8.out.cell (j := 3) rfl
      have f0 := HZ8.out.free 0
      have f1 := HZ8.out.free 1
      have f2 := HZ8.out.free 2
      have f3 := HZ8.out.free 3
      have x0' := HX8.out.cell (j := 0) rfl
      have x1' := HX8.out.cell (j := 1) rfl
      have x2' := HX8.out.cell (j := 2) rfl
      have x3' := HX8.out.cell (j := 3) rfl
      go_wp2_with fail
      refine (HX.out _ HT8.out.pow).mono ?_
      rintro e w10 ⟨rfl, hb⟩
      have HZ10 := Lib.hid (HZ8.out.below hb)
      have HX10 := Lib.hid (HX8.out.below hb)
      have HB10 := Lib.hid (HB8.out.trans (hb.mono HB8.out.size))
      clear hb c0 c1 c2 c3 f0 f1 f2 f3 x0' x1' x2' x3'
      have c0 := HZ10.out.cell (j := 0) rfl
      have c1 := HZ10.out.cell (j := 1) rfl
      have c2 := HZ10.out.cell (j := 2) rfl
      have c3 := HZ10.out.cell (j := 3) rfl
      have f0 := HZ10.out.free 0
      have f1 := HZ10.out.free 1
      have f2 := HZ10.out.free 2
      have f3 := HZ10.out.free 3
      have x0' := HX10.out.cell (j := 0) rfl
      have x1' := HX10.out.cell (j := 1) rfl
      have x2' := HX10.out.cell (j := 2) rfl
      have x3' := HX10.out.cell (j := 3) rfl
      go_wp2_with fail
      have hz4 := stored4 (HZ10.out) rfl (stamp0 : StampT)
      have hb4 := below4 (HB10.out) (Nat.le_refl _) (.int .i64 0) (.int .i64 0) (.int .i64 0) (.int .i64 0)
      clear c0 c1 c2 c3 f0 f1 f2 f3
      simp only [stamp0] at hz4
      generalize ((((w10).setCell ⟨w.heap.size, 0, none⟩ (.int .i64 0)).setCell ⟨w.heap.size, 1, none⟩ (.int .i64 0)).setCell ⟨w.heap.size, 2, none⟩ (.int .i64 0)).setCell ⟨w.heap.size, 3, none⟩ (.int .i64 0) = w99 at *
      have d0 := hz4.cell (j := 0) rfl
      have d1 := hz4.cell (j := 1) rfl
      have d2 := hz4.cell (j := 2) rfl
      have d3 := hz4.cell (j := 3) rfl
      exact bodyPost_ret (v := .tuple #[(stamp0 : StampT).val, .bool false]) (by simp [results, Tryd.results7, go_sem, d0, d1, d2, d3, stamp0]) rfl ⟨by rw [HF.out], hb4⟩
end Go.Proofs.YtoomjionojfjgaaDoor
