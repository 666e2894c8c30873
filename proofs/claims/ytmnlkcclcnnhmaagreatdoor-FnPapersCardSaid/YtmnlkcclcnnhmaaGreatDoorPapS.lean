/- ParsePaper: the reference's walk. -/
import Derived.Test.YtmnlkcclcnnhmaaGreatDoorPapI
import Derived.Deep.RegionHeld3
namespace Go.Proofs.YtmnlkcclcnnhmaaGreatDoor
open Go.RowKit

theorem specP_no {s : ByteArray} {l : List ByteArray} (h : ¬ (s.size ≤ 60 ∧ 3 ≤ l.length ∧ l.length ≤ 6)) : specP s l = none := by
  match l with
  | [] => rfl
  | [_] => rfl
  | [_, _] => rfl
  | x0 :: x1 :: x2 :: r =>
    rw [specP, if_neg]
    intro hh
    exact h ⟨hh.1, by simp, by have := hh.2.1; simp; omega⟩
set_option maxHeartbeats 8000000 in
set_option maxRecDepth 100000 in
theorem specParseP_any (s : ByteArray) (w : World) (hm : s.size ≤ 1048576) : Calls Tryz.prog 11 #[.string s] w fun e w' => e = .returned (.tuple #[(finP s (specP s (splitF s 32))).1.val, .bool (finP s (specP s (splitF s 32))).2]) ∧ Below w.heap.size w w' := by
  have BX := Lib.hid (RowIs.new w 25 paper0.cells)
  have B0 := Lib.hid (below_new w (.cells paper0.cells.toArray 25))
  have hg : w.heap.size < (w.alloc (.cells paper0.cells.toArray 25)).heap.size := BX.out.lt
  have e0 : (w.alloc (.cells paper0.cells.toArray 25)) = w.alloc (.cells #[.int .i64 0, .int .i64 0, .int .i64 0, .string ⟨#[]⟩, .bool false] 25) := rfl
  rw [e0] at BX B0 hg
  have hS := fun w => l1Split_any s 32 w hm
  have hle := splitF_le s 32
  obtain ⟨ps, hps⟩ : ∃ ps, ps = splitF s 32 := ⟨_, rfl⟩
  rw [← hps] at hS hle ⊢
  have HPS := Lib.hid hps
  clear hps e0
  obtain ⟨n, hn⟩ : ∃ n, n = ps.length := ⟨_, rfl⟩
  rw [← hn] at hS hle
  have HN := Lib.hid hn
  have HS := Lib.hid hS
  have hIN := fun w => l1In_any (n : Int) 3 6 w
  clear hS
  by_cases hbig : 60 < s.size
  · have hfin : Hid (finP s (specP s ps) = (paper0, false)) := Lib.hid (by rw [specP_no (by omega)]; rfl)
    have hb60 : decide ((60 : Int) < (s.size : Int)) = true := by simp; omega
    clear hn hIN
    go_enter Tryz.func11, Tryz.ntmps11
    go_wp2_with fail
    generalize w.alloc (.cells #[.int .i64 0, .int .i64 0, .int .i64 0, .string ⟨#[]⟩, .bool false] 25) = w0 at *
    refine (HS.out _).mono ?_
    rintro e w1 ⟨ad, cp, rfl, hown, hb⟩
    have HB1 := Lib.hid hb
    clear hb hown
    have HZ := Lib.hid (BX.out.below HB1.out)
    have c0 := HZ.out.cell (j := 0) rfl
    have c1 := HZ.out.cell (j := 1) rfl
    have c2 := HZ.out.cell (j := 2) rfl
    have c3 := HZ.out.cell (j := 3) rfl
    have c4 := HZ.out.cell (j := 4) rfl
    have f0 := HZ.out.free 0
    have f1 := HZ.out.free 1
    have f2 := HZ.out.free 2
    have f3 := HZ.out.free 3
    have f4 := HZ.out.free 4
    go_wp2_with fail
    have hz5 := stored5 (HZ.out) rfl (⟨0, 0, 0, ⟨#[]⟩, false⟩ : PaperT)
    have hb5 := below5 (B0.out.trans (HB1.out.mono B0.out.size)) (Nat.le_refl _) (.int .i64 0) (.int .i64 0) (.int .i64 0) (.string ⟨#[]⟩) (.bool false)
    clear c0 f0 c1 f1 c2 f2 c3 f3 c4 f4
    simp only at hz5
    generalize (((((w1.setCell ⟨w.heap.size, 0, none⟩ (.int .i64 0)).setCell ⟨w.heap.size, 1, none⟩ (.int .i64 0)).setCell ⟨w.heap.size, 2, none⟩ (.int .i64 0)).setCell ⟨w.heap.size, 3, none⟩ (.string ⟨#[]⟩)).setCell ⟨w.heap.size, 4, none⟩ (.bool false)) = w99 at *
    have d0 := hz5.cell (j := 0) rfl
    have d1 := hz5.cell (j := 1) rfl
    have d2 := hz5.cell (j := 2) rfl
    have d3 := hz5.cell (j := 3) rfl
    have d4 := hz5.cell (j := 4) rfl
    exact bodyPost_ret (v := .tuple #[(⟨0, 0, 0, ⟨#[]⟩, false⟩ : PaperT).val, .bool false]) (by simp [results, Tryz.results11, go_sem, d0, d1, d2, d3, d4]) rfl ⟨by rw [hfin.out]; first | done | rfl, hb5⟩
  have hb60 : decide ((60 : Int) < (s.size : Int)) = false := by simp; omega
  by_cases h36 : 3 ≤ n ∧ n ≤ 6
  rotate_left
  · have hfin : Hid (finP s (specP s ps) = (paper0, false)) := Lib.hid (by rw [specP_no (by omega)]; rfl)
    have e36 : inB (n : Int) 3 6 = false := by rw [inB_false]; omega
    rw [e36] at hIN
    have HIN := Lib.hid hIN
    clear hn hIN e36
    go_enter Tryz.func11, Tryz.ntmps11
    go_wp2_with fail
    generalize w.alloc (.cells #[.int .i64 0, .int .i64 0, .int .i64 0, .string ⟨#[]⟩, .bool false] 25) = w0 at *
    refine (HS.out _).mono ?_
    rintro e w1 ⟨ad, cp, rfl, hown, hb⟩
    have HB1 := Lib.hid hb
    clear hb hown
    have HZ := Lib.hid (BX.out.below HB1.out)
    have c0 := HZ.out.cell (j := 0) rfl
    have c1 := HZ.out.cell (j := 1) rfl
    have c2 := HZ.out.cell (j := 2) rfl
    have c3 := HZ.out.cell (j := 3) rfl
    have c4 := HZ.out.cell (j := 4) rfl
    have f0 := HZ.out.free 0
    have f1 := HZ.out.free 1
    have f2 := HZ.out.free 2
    have f3 := HZ.out.free 3
    have f4 := HZ.out.free 4
    go_wp2_with fail
    refine (HIN.out _).mono ?_
    rintro e _ ⟨rfl, rfl⟩
    go_wp2_with fail
    have hz5 := stored5 (HZ.out) rfl (⟨0, 0, 0, ⟨#[]⟩, false⟩ : PaperT)
    have hb5 := below5 (B0.out.trans (HB1.out.mono B0.out.size)) (Nat.le_refl _) (.int .i64 0) (.int .i64 0) (.int .i64 0) (.string ⟨#[]⟩) (.bool false)
    clear c0 f0 c1 f1 c2 f2 c3 f3 c4 f4
    simp only at hz5
    generalize (((((w1.setCell ⟨w.heap.size, 0, none⟩ (.int .i64 0)).setCell ⟨w.heap.size, 1, none⟩ (.int .i64 0)).setCell ⟨w.heap.size, 2, none⟩ (.int .i64 0)).setCell ⟨w.heap.size, 3, none⟩ (.string ⟨#[]⟩)).setCell ⟨w.heap.size, 4, none⟩ (.bool false)) = w99 at *
    have d0 := hz5.cell (j := 0) rfl
    have d1 := hz5.cell (j := 1) rfl
    have d2 := hz5.cell (j := 2) rfl
    have d3 := hz5.cell (j := 3) rfl
    have d4 := hz5.cell (j := 4) rfl
    exact bodyPost_ret (v := .tuple #[(⟨0, 0, 0, ⟨#[]⟩, false⟩ : PaperT).val, .bool false]) (by simp [results, Tryz.results11, go_sem, d0, d1, d2, d3, d4]) rfl ⟨by rw [hfin.out]; first | done | rfl, hb5⟩
  obtain ⟨h3, h6⟩ := h36
  have e36 : inB (n : Int) 3 6 = true := by rw [inB_true]; omega
  rw [e36] at hIN
  have HIN := Lib.hid hIN
  obtain ⟨x0, x1, x2, r, rfl⟩ := cut3 (l := ps) (by omega)
  have hrl : n = r.length + 3 := by simpa using hn
  have y0 : x0.size ≤ 1048576 := by have := sz_split (z := x0) (s := s) (c := 32) (by rw [← HPS.out]; simp); omega
  have y1 : x1.size ≤ 1048576 := by have := sz_split (z := x1) (s := s) (c := 32) (by rw [← HPS.out]; simp); omega
  have y2 : x2.size ≤ 1048576 := by have := sz_split (z := x2) (s := s) (c := 32) (by rw [← HPS.out]; simp); omega
  clear hIN e36
  by_cases hs1 : x1.size < 3
  · have hfin : Hid (finP s (specP s (x0 :: x1 :: x2 :: r)) = (paper0, false)) := Lib.hid (by rw [specP, if_neg (by omega)]; rfl)
    have n1 : (1 : Int) < (n : Int) := by omega
    have n2 : (2 : Int) < (n : Int) := by omega
    have n1b : 1 < n := by omega
    have n2b : 2 < n := by omega
    have s1 : decide ((x1.size : Int) < 3) = true := by simp; omega
    clear hn hrl
    go_enter Tryz.func11, Tryz.ntmps11
    go_wp2_with fail
    generalize w.alloc (.cells #[.int .i64 0, .int .i64 0, .int .i64 0, .string ⟨#[]⟩, .bool false] 25) = w0 at *
    refine (HS.out _).mono ?_
    rintro e w1 ⟨ad, cp, rfl, hown, hb⟩
    have HB1 := Lib.hid hb
    obtain ⟨g, rfl, hgb, hgg⟩ := own_form hown (by omega)
    have k1 : w1.cell? ⟨g, 1, none⟩ = _ := hown.cellAt 1 (by omega)
    have k2 : w1.cell? ⟨g, 2, none⟩ = _ := hown.cellAt 2 (by omega)
    simp only [strs, List.map_cons, List.getElem?_cons_zero, List.getElem?_cons_succ] at k1 k2
    clear hb hown
    have HZ := Lib.hid (BX.out.below HB1.out)
    have c0 := HZ.out.cell (j := 0) rfl
    have c1 := HZ.out.cell (j := 1) rfl
    have c2 := HZ.out.cell (j := 2) rfl
    have c3 := HZ.out.cell (j := 3) rfl
    have c4 := HZ.out.cell (j := 4) rfl
    have f0 := HZ.out.free 0
    have f1 := HZ.out.free 1
    have f2 := HZ.out.free 2
    have f3 := HZ.out.free 3
    have f4 := HZ.out.free 4
    go_wp2_with fail
    refine (HIN.out _).mono ?_
    rintro e _ ⟨rfl, rfl⟩
    go_wp2_with fail
    have hz5 := stored5 (HZ.out) rfl (⟨0, 0, 0, ⟨#[]⟩, false⟩ : PaperT)
    have hb5 := below5 (B0.out.trans (HB1.out.mono B0.out.size)) (Nat.le_refl _) (.int .i64 0) (.int .i64 0) (.int .i64 0) (.string ⟨#[]⟩) (.bool false)
    clear c0 f0 c1 f1 c2 f2 c3 f3 c4 f4
    simp only at hz5
    generalize (((((w1.setCell ⟨w.heap.size, 0, none⟩ (.int .i64 0)).setCell ⟨w.heap.size, 1, none⟩ (.int .i64 0)).setCell ⟨w.heap.size, 2, none⟩ (.int .i64 0)).setCell ⟨w.heap.size, 3, none⟩ (.string ⟨#[]⟩)).setCell ⟨w.heap.size, 4, none⟩ (.bool false)) = w99 at *
    have d0 := hz5.cell (j := 0) rfl
    have d1 := hz5.cell (j := 1) rfl
    have d2 := hz5.cell (j := 2) rfl
    have d3 := hz5.cell (j := 3) rfl
    have d4 := hz5.cell (j := 4) rfl
    exact bodyPost_ret (v := .tuple #[(⟨0, 0, 0, ⟨#[]⟩, false⟩ : PaperT).val, .bool false]) (by simp [results, Tryz.results11, go_sem, d0, d1, d2, d3, d4]) rfl ⟨by rw [hfin.out]; first | done | rfl, hb5⟩
  have s1 : decide ((x1.size : Int) < 3) = false := by simp; omega
  by_cases hs2 : x2.size = 2
  rotate_left
  · have hfin : Hid (finP s (specP s (x0 :: x1 :: x2 :: r)) = (paper0, false)) := Lib.hid (by rw [specP, if_neg (by omega)]; rfl)
    have n1 : (1 : Int) < (n : Int) := by omega
    have n2 : (2 : Int) < (n : Int) := by omega
    have n1b : 1 < n := by omega
    have n2b : 2 < n := by omega
    have s2 : ((x2.size : Int) != 2) = true := by rw [bne_iff_ne]; omega
    clear hn hrl
    go_enter Tryz.func11, Tryz.ntmps11
    go_wp2_with fail
    generalize w.alloc (.cells #[.int .i64 0, .int .i64 0, .int .i64 0, .string ⟨#[]⟩, .bool false] 25) = w0 at *
    refine (HS.out _).mono ?_
    rintro e w1 ⟨ad, cp, rfl, hown, hb⟩
    have HB1 := Lib.hid hb
    obtain ⟨g, rfl, hgb, hgg⟩ := own_form hown (by omega)
    have k1 : w1.cell? ⟨g, 1, none⟩ = _ := hown.cellAt 1 (by omega)
    have k2 : w1.cell? ⟨g, 2, none⟩ = _ := hown.cellAt 2 (by omega)
    simp only [strs, List.map_cons, List.getElem?_cons_zero, List.getElem?_cons_succ] at k1 k2
    clear hb hown
    have HZ := Lib.hid (BX.out.below HB1.out)
    have c0 := HZ.out.cell (j := 0) rfl
    have c1 := HZ.out.cell (j := 1) rfl
    have c2 := HZ.out.cell (j := 2) rfl
    have c3 := HZ.out.cell (j := 3) rfl
    have c4 := HZ.out.cell (j := 4) rfl
    have f0 := HZ.out.free 0
    have f1 := HZ.out.free 1
    have f2 := HZ.out.free 2
    have f3 := HZ.out.free 3
    have f4 := HZ.out.free 4
    go_wp2_with fail
    refine (HIN.out _).mono ?_
    rintro e _ ⟨rfl, rfl⟩
    go_wp2_with fail
    have hz5 := stored5 (HZ.out) rfl (⟨0, 0, 0, ⟨#[]⟩, false⟩ : PaperT)
    have hb5 := below5 (B0.out.trans (HB1.out.mono B0.out.size)) (Nat.le_refl _) (.int .i64 0) (.int .i64 0) (.int .i64 0) (.string ⟨#[]⟩) (.bool false)
    clear c0 f0 c1 f1 c2 f2 c3 f3 c4 f4
    simp only at hz5
    generalize (((((w1.setCell ⟨w.heap.size, 0, none⟩ (.int .i64 0)).setCell ⟨w.heap.size, 1, none⟩ (.int .i64 0)).setCell ⟨w.heap.size, 2, none⟩ (.int .i64 0)).setCell ⟨w.heap.size, 3, none⟩ (.string ⟨#[]⟩)).setCell ⟨w.heap.size, 4, none⟩ (.bool false)) = w99 at *
    have d0 := hz5.cell (j := 0) rfl
    have d1 := hz5.cell (j := 1) rfl
    have d2 := hz5.cell (j := 2) rfl
    have d3 := hz5.cell (j := 3) rfl
    have d4 := hz5.cell (j := 4) rfl
    exact bodyPost_ret (v := .tuple #[(⟨0, 0, 0, ⟨#[]⟩, false⟩ : PaperT).val, .bool false]) (by simp [results, Tryz.results11, go_sem, d0, d1, d2, d3, d4]) rfl ⟨by rw [hfin.out]; first | done | rfl, hb5⟩
  have s2 : ((x2.size : Int) != 2) = false := by rw [hs2]; rfl
  have hsp : ∀ mk ld, mk = (if 1 < r.length then r.getD (r.length - 1) .empty else .empty) → ld = (decide (0 < r.length) && (r.getD 0 .empty).toList == laid4.toList) → specP s (x0 :: x1 :: x2 :: r) = some ⟨(readR x0).1, (readR (x1.extract 0 (x1.size - 2))).1, (readR (x2.extract 1 x2.size)).1, mk, ld⟩ := fun mk ld e1 e2 => by rw [specP, if_pos (by omega), e1, e2]
  have hR1 := fun w => l1Read_any x0 w y0
  have hR2 := fun w => l1Read_any (x1.extract 0 (x1.size - 2)) w (by simp; omega)
  have hR3 := fun w => l1Read_any (x2.extract 1 x2.size) w (by simp; omega)
  obtain ⟨r1, hr1⟩ : ∃ r1, r1 = readR x0 := ⟨_, rfl⟩
  obtain ⟨r2, hr2⟩ : ∃ r2, r2 = readR (x1.extract 0 (x1.size - 2)) := ⟨_, rfl⟩
  obtain ⟨r3, hr3⟩ : ∃ r3, r3 = readR (x2.extract 1 x2.size) := ⟨_, rfl⟩
  rw [← hr1] at hR1 hsp
  rw [← hr2] at hR2 hsp
  rw [← hr3] at hR3 hsp
  obtain ⟨n1, b1⟩ := r1
  obtain ⟨n2, b2⟩ := r2
  obtain ⟨n3, b3⟩ := r3
  simp only at hR1 hR2 hR3 hsp
  have HR1 := Lib.hid hR1
  have HR2 := Lib.hid hR2
  have HR3 := Lib.hid hR3
  have HSP := Lib.hid hsp
  have t1 : IntKind.i64.wrap ((x1.size : Int) - 2) = (x1.size : Int) - 2 := IntWalk.i64_in _ (by omega)
  have t2 : (0 : Int) ≤ (x1.size : Int) - 2 := by omega
  have t3 : (x1.size : Int) - 2 ≤ (x1.size : Int) := by omega
  have t4 : ((x1.size : Int) - 2).toNat = x1.size - 2 := by omega
  have t5 : x1.size - 2 ≤ x1.size := by omega
  have t6 : (2 : Int) ≤ (x1.size : Int) := by omega
  have HT := Lib.hid (show IntKind.i64.wrap ((x1.size : Int) - 2) = (x1.size : Int) - 2 ∧ (0 : Int) ≤ (x1.size : Int) - 2 ∧ (x1.size : Int) - 2 ≤ (x1.size : Int) ∧ ((x1.size : Int) - 2).toNat = x1.size - 2 ∧ x1.size - 2 ≤ x1.size ∧ (2 : Int) ≤ (x1.size : Int) from ⟨t1, t2, t3, t4, t5, t6⟩)
  have u1 : (1 : Int) ≤ (x2.size : Int) := by omega
  have u2 : 1 ≤ x2.size := by omega
  have HS2 := Lib.hid hs2
  clear hR1 hR2 hR3 hr1 hr2 hr3 hsp t1 t2 t3 t4 t5 t6 hs1 hs2 hn
  rcases r with _ | ⟨a3, _ | ⟨a4, _ | ⟨a5, _ | ⟨a6, r⟩⟩⟩⟩
  · skip
    obtain rfl : n = 3 := by simpa using hrl
    have HIN := Lib.hid (show ∀ w : World, Calls Tryz.prog 44 #[.int .i64 3, .int .i64 3, .int .i64 6] w (fun e w' => e = .returned (.bool true) ∧ w = w') from fun w => l1In_any 3 3 6 w)
    have HSQ : Hid (specP s [x0, x1, x2] = some ⟨n1, n2, n3, .empty, false⟩) := Lib.hid (HSP.out _ _ rfl rfl)
    have HMZ : Hid (ByteArray.empty.size ≤ maxLen) := Lib.hid (by decide)
    clear HSP hrl
    go_enter Tryz.func11, Tryz.ntmps11
    go_wp2_with fail
    generalize w.alloc (.cells #[.int .i64 0, .int .i64 0, .int .i64 0, .string ⟨#[]⟩, .bool false] 25) = w0 at *
    refine (HS.out _).mono ?_
    rintro e w1 ⟨ad, cp, rfl, hown, hb⟩
    have HB1 := Lib.hid hb
    obtain ⟨g, rfl, hgb, hgg⟩ := own_form hown (by omega)
    have k0 : w1.cell? ⟨g, 0, none⟩ = _ := hown.cellAt 0 (by omega)
    have k1 : w1.cell? ⟨g, 1, none⟩ = _ := hown.cellAt 1 (by omega)
    have k2 : w1.cell? ⟨g, 2, none⟩ = _ := hown.cellAt 2 (by omega)
    simp only [strs, List.map_cons, List.getElem?_cons_zero, List.getElem?_cons_succ] at k0 k1 k2
    clear hb hown
    have HG := Lib.hid hgg
    have HGN : Hid (g ≠ w1.heap.size) := Lib.hid (by omega)
    have HK := Lib.hid (show w1.cell? ⟨g, 0, none⟩ = some (.string x0) ∧ w1.cell? ⟨g, 1, none⟩ = some (.string x1) ∧ w1.cell? ⟨g, 2, none⟩ = some (.string x2) from ⟨k0, k1, k2⟩)
    have hbx : RowIs (w1.alloc (.cells #[.int .i64 0, .int .i64 0, .int .i64 0, .string ⟨#[]⟩, .bool false] 25)) w1.heap.size 25 (⟨0, 0, 0, .empty, false⟩ : PaperT).cells := RowIs.new w1 25 (⟨0, 0, 0, .empty, false⟩ : PaperT).cells
    have HBX := Lib.hid hbx
    have HBN := Lib.hid (below_new w1 (.cells #[.int .i64 0, .int .i64 0, .int .i64 0, .string ⟨#[]⟩, .bool false] 25))
    have HZ1 := Lib.hid ((BX.out.below HB1.out).alloc (.cells #[.int .i64 0, .int .i64 0, .int .i64 0, .string ⟨#[]⟩, .bool false] 25))
    have HBW : Hid (Below w.heap.size w (w1.alloc (.cells #[.int .i64 0, .int .i64 0, .int .i64 0, .string ⟨#[]⟩, .bool false] 25))) := Lib.hid ((B0.out.trans (HB1.out.mono B0.out.size)).alloc (show w.heap.size ≤ w1.heap.size by have := B0.out.size; have := HB1.out.size; omega) _)
    have hne : w.heap.size ≠ w1.heap.size := by have := B0.out.size; have := HB1.out.size; omega
    have hle1 : w.heap.size ≤ w1.heap.size := by have := B0.out.size; have := HB1.out.size; omega
    have m0 : (w1.alloc (.cells #[.int .i64 0, .int .i64 0, .int .i64 0, .string ⟨#[]⟩, .bool false] 25)).cell? ⟨g, 0, none⟩ = some (.string x0) := cell_later HBN.out k0
    clear hbx
    go_wp2_with fail
    refine (HIN.out _).mono ?_
    rintro e _ ⟨rfl, rfl⟩
    go_wp2_with fail
    have HX2 : Hid (RowIs (w1.alloc (.cells #[.int .i64 0, .int .i64 0, .int .i64 0, .string ⟨#[]⟩, .bool false] 25)) w1.heap.size 25 (⟨0, 0, 0, .empty, false⟩ : PaperT).cells) := Lib.hid (RowIs.new w1 25 (⟨0, 0, 0, .empty, false⟩ : PaperT).cells)
    have HW2 : Hid (Below w1.heap.size w1 (w1.alloc (.cells #[.int .i64 0, .int .i64 0, .int .i64 0, .string ⟨#[]⟩, .bool false] 25))) := Lib.hid (below_new w1 _)
    have HZ2 : Hid (RowIs (w1.alloc (.cells #[.int .i64 0, .int .i64 0, .int .i64 0, .string ⟨#[]⟩, .bool false] 25)) w.heap.size 25 paper0.cells) := Lib.hid ((BX.out.below HB1.out).alloc _)
    have HB2 : Hid (Below w.heap.size w (w1.alloc (.cells #[.int .i64 0, .int .i64 0, .int .i64 0, .string ⟨#[]⟩, .bool false] 25))) := Lib.hid ((B0.out.trans (HB1.out.mono B0.out.size)).alloc (show w.heap.size ≤ w1.heap.size by have := B0.out.size; have := HB1.out.size; omega) _)
    clear k0 k1 k2 m0
    generalize (w1.alloc (.cells #[.int .i64 0, .int .i64 0, .int .i64 0, .string ⟨#[]⟩, .bool false] 25)) = w2 at *
    refine (HR1.out _).mono ?_
    rintro e w3 ⟨rfl, hd⟩
    have HX3 := Lib.hid (HX2.out.below (hd.below _))
    have HW3 := Lib.hid (HW2.out.trans (hd.below _))
    have HZ3 := Lib.hid (HZ2.out.below (hd.below _))
    have HB3 := Lib.hid (HB2.out.trans (hd.below _))
    have q0 := HX3.out.cell (j := 0) rfl
    have q0f := HX3.out.free 0
    clear hd
    go_wp2_with fail
    have HX4 : Hid (RowIs (w3.setCell ⟨w1.heap.size, 0, none⟩ (.int .i64 n1)) w1.heap.size 25 (⟨n1, 0, 0, .empty, false⟩ : PaperT).cells) := Lib.hid (HX3.out.set 0 (.int .i64 n1))
    have HW4 : Hid (Below w1.heap.size w1 (w3.setCell ⟨w1.heap.size, 0, none⟩ (.int .i64 n1))) := Lib.hid (HW3.out.setCell (p := ⟨w1.heap.size, 0, none⟩) (Nat.le_refl _) _)
    have HZ4 : Hid (RowIs (w3.setCell ⟨w1.heap.size, 0, none⟩ (.int .i64 n1)) w.heap.size 25 paper0.cells) := Lib.hid (HZ3.out.far (p := ⟨w1.heap.size, 0, none⟩) hne _)
    have HB4 : Hid (Below w.heap.size w (w3.setCell ⟨w1.heap.size, 0, none⟩ (.int .i64 n1))) := Lib.hid (HB3.out.setCell hle1 _)
    clear q0 q0f
    generalize (w3.setCell ⟨w1.heap.size, 0, none⟩ (.int .i64 n1)) = w4 at *
    have k1 : w4.cell? ⟨g, 1, none⟩ = some (.string x1) := cell_later HW4.out HK.out.2.1
    obtain ⟨t1, t2, t3, t4, t5, t6⟩ := HT.out
    go_region_held3 (fun w' => w'.cell? ⟨g, 1, none⟩ = some (.string x1))
      (first | exact k1 | exact cell_later (HW4.out.drew.trans (hd.below _)) HK.out.2.1 | exact cell_later ((HW4.out.drew.trans (hd.below _)).setCell (p := ⟨w1.heap.size, 1, none⟩) (Nat.le_refl _) _) HK.out.2.1)
      ((go_at_call 45; refine (HR2.out _).mono ?_; rintro e w5 ⟨rfl, hd⟩; have q1 := (RowIs.below (w := w4.drew) HX4.out (hd.below _)).cell (j := 1) rfl; have q1f := (RowIs.below (w := w4.drew) HX4.out (hd.below _)).free 1))
    have HX5 := Lib.hid (RowIs.below (w := w4.drew) HX4.out (hd.below _))
    have HW5 := Lib.hid (HW4.out.drew.trans (hd.below _))
    have HZ5 := Lib.hid (RowIs.below (w := w4.drew) HZ4.out (hd.below _))
    have HB5 := Lib.hid (HB4.out.drew.trans (hd.below _))
    clear k1 t1 t2 t3 t4 t5 t6 hd
    have k2 : (w5.setCell ⟨w1.heap.size, 1, none⟩ (.int .i64 n2)).cell? ⟨g, 2, none⟩ = some (.string x2) := cell_later (HW5.out.setCell (p := ⟨w1.heap.size, 1, none⟩) (Nat.le_refl _) _) HK.out.2.2
    have HX6 : Hid (RowIs (w5.setCell ⟨w1.heap.size, 1, none⟩ (.int .i64 n2)) w1.heap.size 25 (⟨n1, n2, 0, .empty, false⟩ : PaperT).cells) := Lib.hid (HX5.out.set 1 (.int .i64 n2))
    have HZ6 : Hid (RowIs (w5.setCell ⟨w1.heap.size, 1, none⟩ (.int .i64 n2)) w.heap.size 25 paper0.cells) := Lib.hid (HZ5.out.far (p := ⟨w1.heap.size, 1, none⟩) hne _)
    have HB6 : Hid (Below w.heap.size w (w5.setCell ⟨w1.heap.size, 1, none⟩ (.int .i64 n2))) := Lib.hid (HB5.out.setCell hle1 _)
    go_wp2_with fail
    clear k2 q1 q1f
    generalize (w5.setCell ⟨w1.heap.size, 1, none⟩ (.int .i64 n2)) = w6 at *
    first
    | refine (HR3.out _).mono ?_
    | (rw [← HS2.out]; refine (HR3.out _).mono ?_)
    rintro e w7 ⟨rfl, hd⟩
    have HX7 := Lib.hid (HX6.out.below (hd.below _))
    have HZ7 := Lib.hid (HZ6.out.below (hd.below _))
    have HB7 := Lib.hid (HB6.out.trans (hd.below _))
    have q2 := HX7.out.cell (j := 2) rfl
    have q2f := HX7.out.free 2
    clear hd
    have hx8 : RowIs (w7.setCell ⟨w1.heap.size, 2, none⟩ (.int .i64 n3)) w1.heap.size 25 (⟨n1, n2, n3, .empty, false⟩ : PaperT).cells := HX7.out.set 2 (.int .i64 n3)
    have HX := Lib.hid hx8
    have HZ : Hid (RowIs (w7.setCell ⟨w1.heap.size, 2, none⟩ (.int .i64 n3)) w.heap.size 25 paper0.cells) := Lib.hid (HZ7.out.far (p := ⟨w1.heap.size, 2, none⟩) hne _)
    have HB : Hid (Below w.heap.size w (w7.setCell ⟨w1.heap.size, 2, none⟩ (.int .i64 n3))) := Lib.hid (HB7.out.setCell hle1 _)
    have a20 := hx8.cell (j := 0) rfl
    have a21 := hx8.cell (j := 1) rfl
    have a22 := hx8.cell (j := 2) rfl
    have a23 := hx8.cell (j := 3) rfl
    have a24 := hx8.cell (j := 4) rfl
    clear hx8 HX2 HX3 HX4 HX5 HX6 HX7 HZ1 HZ2 HZ3 HZ4 HZ5 HZ6 HZ7 HB2 HB3 HB4 HB5 HB6 HB7 HW2 HW3 HW4 HW5 HBX HBN HBW HR1 HR2 HR3 HT HS HIN
    go_wp2_with fail
    clear q2 q2f a20 a21 a22 a23 a24
    generalize (w7.setCell ⟨w1.heap.size, 2, none⟩ (.int .i64 n3)) = w8 at *
    have hI := fun w => l3One_any ⟨n1, n2, n3, .empty, false⟩ w HMZ.out
    cases hst : paperOk ⟨n1, n2, n3, .empty, false⟩
    · rw [hst] at hI
      have HF : Hid (finP s (specP s [x0, x1, x2]) = (paper0, false)) := Lib.hid (by rw [HSQ.out, finP, if_neg (by rw [hst]; simp)])
      clear hst
      refine (hI _).mono ?_
      rintro e w9 ⟨rfl, hb⟩
      clear hI
      have HZ8 := Lib.hid (HZ.out.below hb)
      have HB8 := Lib.hid (HB.out.trans (hb.mono HB.out.size))
      clear hb
      have c0 := HZ8.out.cell (j := 0) rfl
      have c1 := HZ8.out.cell (j := 1) rfl
      have c2 := HZ8.out.cell (j := 2) rfl
      have c3 := HZ8.out.cell (j := 3) rfl
      have c4 := HZ8.out.cell (j := 4) rfl
      have f0 := HZ8.out.free 0
      have f1 := HZ8.out.free 1
      have f2 := HZ8.out.free 2
      have f3 := HZ8.out.free 3
      have f4 := HZ8.out.free 4
      go_wp2_with fail
      have hz5 := stored5 (HZ8.out) rfl (⟨0, 0, 0, ⟨#[]⟩, false⟩ : PaperT)
      have hb5 := below5 (HB8.out) (Nat.le_refl _) (.int .i64 0) (.int .i64 0) (.int .i64 0) (.string ⟨#[]⟩) (.bool false)
      clear c0 f0 c1 f1 c2 f2 c3 f3 c4 f4
      simp only at hz5
      generalize (((((w9.setCell ⟨w.heap.size, 0, none⟩ (.int .i64 0)).setCell ⟨w.heap.size, 1, none⟩ (.int .i64 0)).setCell ⟨w.heap.size, 2, none⟩ (.int .i64 0)).setCell ⟨w.heap.size, 3, none⟩ (.string ⟨#[]⟩)).setCell ⟨w.heap.size, 4, none⟩ (.bool false)) = w99 at *
      have d0 := hz5.cell (j := 0) rfl
      have d1 := hz5.cell (j := 1) rfl
      have d2 := hz5.cell (j := 2) rfl
      have d3 := hz5.cell (j := 3) rfl
      have d4 := hz5.cell (j := 4) rfl
      exact bodyPost_ret (v := .tuple #[(⟨0, 0, 0, ⟨#[]⟩, false⟩ : PaperT).val, .bool false]) (by simp [results, Tryz.results11, go_sem, d0, d1, d2, d3, d4]) rfl ⟨by rw [HF.out]; first | done | rfl, hb5⟩
    · rw [hst] at hI
      have HX0 := Lib.hid (fun w => l3Text_any ⟨n1, n2, n3, .empty, false⟩ hst w)
      refine (hI _).mono ?_
      rintro e w9 ⟨rfl, hb⟩
      clear hI
      have HX8 := Lib.hid (HX.out.below hb)
      have HZ8 := Lib.hid (HZ.out.below hb)
      have HB8 := Lib.hid (HB.out.trans (hb.mono HB.out.size))
      clear hb
      have v0 := HX8.out.cell (j := 0) rfl
      have v1 := HX8.out.cell (j := 1) rfl
      have v2 := HX8.out.cell (j := 2) rfl
      have v3 := HX8.out.cell (j := 3) rfl
      have v4 := HX8.out.cell (j := 4) rfl
      by_cases hts : pt3 ⟨n1, n2, n3, .empty, false⟩ = s
      · have HF : Hid (finP s (specP s [x0, x1, x2]) = (⟨n1, n2, n3, .empty, false⟩, true)) := Lib.hid (by rw [HSQ.out, finP, if_pos ⟨hst, hts⟩])
        have hbq := str_beq hts
        clear hst hts
        generalize pt3 ⟨n1, n2, n3, .empty, false⟩ = tx at *
        go_wp2_with fail
        refine (HX0.out _).mono ?_
        rintro e w10 ⟨rfl, hb⟩
        have HX10 := Lib.hid (HX8.out.below hb)
        have HZ10 := Lib.hid (HZ8.out.below hb)
        have HB10 := Lib.hid (HB8.out.trans (hb.mono HB8.out.size))
        clear hb v0 v1 v2 v3 v4
        have v0 := HX10.out.cell (j := 0) rfl
        have v1 := HX10.out.cell (j := 1) rfl
        have v2 := HX10.out.cell (j := 2) rfl
        have v3 := HX10.out.cell (j := 3) rfl
        have v4 := HX10.out.cell (j := 4) rfl
        have c0 := HZ10.out.cell (j := 0) rfl
        have c1 := HZ10.out.cell (j := 1) rfl
        have c2 := HZ10.out.cell (j := 2) rfl
        have c3 := HZ10.out.cell (j := 3) rfl
        have c4 := HZ10.out.cell (j := 4) rfl
        have f0 := HZ10.out.free 0
        have f1 := HZ10.out.free 1
        have f2 := HZ10.out.free 2
        have f3 := HZ10.out.free 3
        have f4 := HZ10.out.free 4
        go_wp2_with fail
        have hz5 := stored5 (HZ10.out) rfl (⟨n1, n2, n3, .empty, false⟩ : PaperT)
        have hb5 := below5 (HB10.out) (Nat.le_refl _) (.int .i64 n1) (.int .i64 n2) (.int .i64 n3) (.string .empty) (.bool false)
        clear c0 f0 c1 f1 c2 f2 c3 f3 c4 f4
        simp only at hz5
        generalize (((((w10.setCell ⟨w.heap.size, 0, none⟩ (.int .i64 n1)).setCell ⟨w.heap.size, 1, none⟩ (.int .i64 n2)).setCell ⟨w.heap.size, 2, none⟩ (.int .i64 n3)).setCell ⟨w.heap.size, 3, none⟩ (.string .empty)).setCell ⟨w.heap.size, 4, none⟩ (.bool false)) = w99 at *
        have d0 := hz5.cell (j := 0) rfl
        have d1 := hz5.cell (j := 1) rfl
        have d2 := hz5.cell (j := 2) rfl
        have d3 := hz5.cell (j := 3) rfl
        have d4 := hz5.cell (j := 4) rfl
        exact bodyPost_ret (v := .tuple #[(⟨n1, n2, n3, .empty, false⟩ : PaperT).val, .bool true]) (by simp [results, Tryz.results11, go_sem, d0, d1, d2, d3, d4]) rfl ⟨by rw [HF.out]; first | done | rfl, hb5⟩
      · have HF : Hid (finP s (specP s [x0, x1, x2]) = (paper0, false)) := Lib.hid (by rw [HSQ.out, finP, if_neg (fun h => hts h.2)])
        have hbq := str_bne hts
        clear hst hts
        generalize pt3 ⟨n1, n2, n3, .empty, false⟩ = tx at *
        go_wp2_with fail
        refine (HX0.out _).mono ?_
        rintro e w10 ⟨rfl, hb⟩
        have HX10 := Lib.hid (HX8.out.below hb)
        have HZ10 := Lib.hid (HZ8.out.below hb)
        have HB10 := Lib.hid (HB8.out.trans (hb.mono HB8.out.size))
        clear hb v0 v1 v2 v3 v4
        have v0 := HX10.out.cell (j := 0) rfl
        have v1 := HX10.out.cell (j := 1) rfl
        have v2 := HX10.out.cell (j := 2) rfl
        have v3 := HX10.out.cell (j := 3) rfl
        have v4 := HX10.out.cell (j := 4) rfl
        have c0 := HZ10.out.cell (j := 0) rfl
        have c1 := HZ10.out.cell (j := 1) rfl
        have c2 := HZ10.out.cell (j := 2) rfl
        have c3 := HZ10.out.cell (j := 3) rfl
        have c4 := HZ10.out.cell (j := 4) rfl
        have f0 := HZ10.out.free 0
        have f1 := HZ10.out.free 1
        have f2 := HZ10.out.free 2
        have f3 := HZ10.out.free 3
        have f4 := HZ10.out.free 4
        go_wp2_with fail
        have hz5 := stored5 (HZ10.out) rfl (⟨0, 0, 0, ⟨#[]⟩, false⟩ : PaperT)
        have hb5 := below5 (HB10.out) (Nat.le_refl _) (.int .i64 0) (.int .i64 0) (.int .i64 0) (.string ⟨#[]⟩) (.bool false)
        clear c0 f0 c1 f1 c2 f2 c3 f3 c4 f4
        simp only at hz5
        generalize (((((w10.setCell ⟨w.heap.size, 0, none⟩ (.int .i64 0)).setCell ⟨w.heap.size, 1, none⟩ (.int .i64 0)).setCell ⟨w.heap.size, 2, none⟩ (.int .i64 0)).setCell ⟨w.heap.size, 3, none⟩ (.string ⟨#[]⟩)).setCell ⟨w.heap.size, 4, none⟩ (.bool false)) = w99 at *
        have d0 := hz5.cell (j := 0) rfl
        have d1 := hz5.cell (j := 1) rfl
        have d2 := hz5.cell (j := 2) rfl
        have d3 := hz5.cell (j := 3) rfl
        have d4 := hz5.cell (j := 4) rfl
        exact bodyPost_ret (v := .tuple #[(⟨0, 0, 0, ⟨#[]⟩, false⟩ : PaperT).val, .bool false]) (by simp [results, Tryz.results11, go_sem, d0, d1, d2, d3, d4]) rfl ⟨by rw [HF.out]; first | done | rfl, hb5⟩
  · skip
    obtain rfl : n = 4 := by simpa using hrl
    have HIN := Lib.hid (show ∀ w : World, Calls Tryz.prog 44 #[.int .i64 4, .int .i64 3, .int .i64 6] w (fun e w' => e = .returned (.bool true) ∧ w = w') from fun w => l1In_any 4 3 6 w)
    obtain ⟨ld, hld⟩ : ∃ ld : Bool, ld = (a3.toList == laid4.toList) := ⟨_, rfl⟩
    have hlq : (a3.toList == [108, 97, 105, 100]) = ld := by rw [hld, Lib.toList_data laid4]
    have HSQ : Hid (specP s [x0, x1, x2, a3] = some ⟨n1, n2, n3, .empty, ld⟩) := Lib.hid (HSP.out _ _ rfl (by rw [hld]; rfl))
    have HMZ : Hid (ByteArray.empty.size ≤ maxLen) := Lib.hid (by decide)
    clear HSP hrl hld
    go_enter Tryz.func11, Tryz.ntmps11
    go_wp2_with fail
    generalize w.alloc (.cells #[.int .i64 0, .int .i64 0, .int .i64 0, .string ⟨#[]⟩, .bool false] 25) = w0 at *
    refine (HS.out _).mono ?_
    rintro e w1 ⟨ad, cp, rfl, hown, hb⟩
    have HB1 := Lib.hid hb
    obtain ⟨g, rfl, hgb, hgg⟩ := own_form hown (by omega)
    have k0 : w1.cell? ⟨g, 0, none⟩ = _ := hown.cellAt 0 (by omega)
    have k1 : w1.cell? ⟨g, 1, none⟩ = _ := hown.cellAt 1 (by omega)
    have k2 : w1.cell? ⟨g, 2, none⟩ = _ := hown.cellAt 2 (by omega)
    have k3 : w1.cell? ⟨g, 3, none⟩ = _ := hown.cellAt 3 (by omega)
    simp only [strs, List.map_cons, List.getElem?_cons_zero, List.getElem?_cons_succ] at k0 k1 k2 k3
    clear hb hown
    have HG := Lib.hid hgg
    have HGN : Hid (g ≠ w1.heap.size) := Lib.hid (by omega)
    have HK := Lib.hid (show w1.cell? ⟨g, 0, none⟩ = some (.string x0) ∧ w1.cell? ⟨g, 1, none⟩ = some (.string x1) ∧ w1.cell? ⟨g, 2, none⟩ = some (.string x2) ∧ w1.cell? ⟨g, 3, none⟩ = some (.string a3) from ⟨k0, k1, k2, k3⟩)
    have hbx : RowIs (w1.alloc (.cells #[.int .i64 0, .int .i64 0, .int .i64 0, .string ⟨#[]⟩, .bool ld] 25)) w1.heap.size 25 (⟨0, 0, 0, .empty, ld⟩ : PaperT).cells := RowIs.new w1 25 (⟨0, 0, 0, .empty, ld⟩ : PaperT).cells
    have HBX := Lib.hid hbx
    have HBN := Lib.hid (below_new w1 (.cells #[.int .i64 0, .int .i64 0, .int .i64 0, .string ⟨#[]⟩, .bool ld] 25))
    have HZ1 := Lib.hid ((BX.out.below HB1.out).alloc (.cells #[.int .i64 0, .int .i64 0, .int .i64 0, .string ⟨#[]⟩, .bool ld] 25))
    have HBW : Hid (Below w.heap.size w (w1.alloc (.cells #[.int .i64 0, .int .i64 0, .int .i64 0, .string ⟨#[]⟩, .bool ld] 25))) := Lib.hid ((B0.out.trans (HB1.out.mono B0.out.size)).alloc (show w.heap.size ≤ w1.heap.size by have := B0.out.size; have := HB1.out.size; omega) _)
    have hne : w.heap.size ≠ w1.heap.size := by have := B0.out.size; have := HB1.out.size; omega
    have hle1 : w.heap.size ≤ w1.heap.size := by have := B0.out.size; have := HB1.out.size; omega
    have m0 : (w1.alloc (.cells #[.int .i64 0, .int .i64 0, .int .i64 0, .string ⟨#[]⟩, .bool ld] 25)).cell? ⟨g, 0, none⟩ = some (.string x0) := cell_later HBN.out k0
    clear hbx
    go_wp2_with fail
    refine (HIN.out _).mono ?_
    rintro e _ ⟨rfl, rfl⟩
    go_wp2_with fail
    have HX2 : Hid (RowIs (w1.alloc (.cells #[.int .i64 0, .int .i64 0, .int .i64 0, .string ⟨#[]⟩, .bool ld] 25)) w1.heap.size 25 (⟨0, 0, 0, .empty, ld⟩ : PaperT).cells) := Lib.hid (RowIs.new w1 25 (⟨0, 0, 0, .empty, ld⟩ : PaperT).cells)
    have HW2 : Hid (Below w1.heap.size w1 (w1.alloc (.cells #[.int .i64 0, .int .i64 0, .int .i64 0, .string ⟨#[]⟩, .bool ld] 25))) := Lib.hid (below_new w1 _)
    have HZ2 : Hid (RowIs (w1.alloc (.cells #[.int .i64 0, .int .i64 0, .int .i64 0, .string ⟨#[]⟩, .bool ld] 25)) w.heap.size 25 paper0.cells) := Lib.hid ((BX.out.below HB1.out).alloc _)
    have HB2 : Hid (Below w.heap.size w (w1.alloc (.cells #[.int .i64 0, .int .i64 0, .int .i64 0, .string ⟨#[]⟩, .bool ld] 25))) := Lib.hid ((B0.out.trans (HB1.out.mono B0.out.size)).alloc (show w.heap.size ≤ w1.heap.size by have := B0.out.size; have := HB1.out.size; omega) _)
    clear k0 k1 k2 k3 m0
    generalize (w1.alloc (.cells #[.int .i64 0, .int .i64 0, .int .i64 0, .string ⟨#[]⟩, .bool ld] 25)) = w2 at *
    refine (HR1.out _).mono ?_
    rintro e w3 ⟨rfl, hd⟩
    have HX3 := Lib.hid (HX2.out.below (hd.below _))
    have HW3 := Lib.hid (HW2.out.trans (hd.below _))
    have HZ3 := Lib.hid (HZ2.out.below (hd.below _))
    have HB3 := Lib.hid (HB2.out.trans (hd.below _))
    have q0 := HX3.out.cell (j := 0) rfl
    have q0f := HX3.out.free 0
    clear hd
    go_wp2_with fail
    have HX4 : Hid (RowIs (w3.setCell ⟨w1.heap.size, 0, none⟩ (.int .i64 n1)) w1.heap.size 25 (⟨n1, 0, 0, .empty, ld⟩ : PaperT).cells) := Lib.hid (HX3.out.set 0 (.int .i64 n1))
    have HW4 : Hid (Below w1.heap.size w1 (w3.setCell ⟨w1.heap.size, 0, none⟩ (.int .i64 n1))) := Lib.hid (HW3.out.setCell (p := ⟨w1.heap.size, 0, none⟩) (Nat.le_refl _) _)
    have HZ4 : Hid (RowIs (w3.setCell ⟨w1.heap.size, 0, none⟩ (.int .i64 n1)) w.heap.size 25 paper0.cells) := Lib.hid (HZ3.out.far (p := ⟨w1.heap.size, 0, none⟩) hne _)
    have HB4 : Hid (Below w.heap.size w (w3.setCell ⟨w1.heap.size, 0, none⟩ (.int .i64 n1))) := Lib.hid (HB3.out.setCell hle1 _)
    clear q0 q0f
    generalize (w3.setCell ⟨w1.heap.size, 0, none⟩ (.int .i64 n1)) = w4 at *
    have k1 : w4.cell? ⟨g, 1, none⟩ = some (.string x1) := cell_later HW4.out HK.out.2.1
    obtain ⟨t1, t2, t3, t4, t5, t6⟩ := HT.out
    go_region_held3 (fun w' => w'.cell? ⟨g, 1, none⟩ = some (.string x1))
      (first | exact k1 | exact cell_later (HW4.out.drew.trans (hd.below _)) HK.out.2.1 | exact cell_later ((HW4.out.drew.trans (hd.below _)).setCell (p := ⟨w1.heap.size, 1, none⟩) (Nat.le_refl _) _) HK.out.2.1)
      ((go_at_call 45; refine (HR2.out _).mono ?_; rintro e w5 ⟨rfl, hd⟩; have q1 := (RowIs.below (w := w4.drew) HX4.out (hd.below _)).cell (j := 1) rfl; have q1f := (RowIs.below (w := w4.drew) HX4.out (hd.below _)).free 1))
    have HX5 := Lib.hid (RowIs.below (w := w4.drew) HX4.out (hd.below _))
    have HW5 := Lib.hid (HW4.out.drew.trans (hd.below _))
    have HZ5 := Lib.hid (RowIs.below (w := w4.drew) HZ4.out (hd.below _))
    have HB5 := Lib.hid (HB4.out.drew.trans (hd.below _))
    clear k1 t1 t2 t3 t4 t5 t6 hd
    have k2 : (w5.setCell ⟨w1.heap.size, 1, none⟩ (.int .i64 n2)).cell? ⟨g, 2, none⟩ = some (.string x2) := cell_later (HW5.out.setCell (p := ⟨w1.heap.size, 1, none⟩) (Nat.le_refl _) _) HK.out.2.2.1
    have HX6 : Hid (RowIs (w5.setCell ⟨w1.heap.size, 1, none⟩ (.int .i64 n2)) w1.heap.size 25 (⟨n1, n2, 0, .empty, ld⟩ : PaperT).cells) := Lib.hid (HX5.out.set 1 (.int .i64 n2))
    have HZ6 : Hid (RowIs (w5.setCell ⟨w1.heap.size, 1, none⟩ (.int .i64 n2)) w.heap.size 25 paper0.cells) := Lib.hid (HZ5.out.far (p := ⟨w1.heap.size, 1, none⟩) hne _)
    have HB6 : Hid (Below w.heap.size w (w5.setCell ⟨w1.heap.size, 1, none⟩ (.int .i64 n2))) := Lib.hid (HB5.out.setCell hle1 _)
    go_wp2_with fail
    clear k2 q1 q1f
    generalize (w5.setCell ⟨w1.heap.size, 1, none⟩ (.int .i64 n2)) = w6 at *
    first
    | refine (HR3.out _).mono ?_
    | (rw [← HS2.out]; refine (HR3.out _).mono ?_)
    rintro e w7 ⟨rfl, hd⟩
    have HX7 := Lib.hid (HX6.out.below (hd.below _))
    have HZ7 := Lib.hid (HZ6.out.below (hd.below _))
    have HB7 := Lib.hid (HB6.out.trans (hd.below _))
    have q2 := HX7.out.cell (j := 2) rfl
    have q2f := HX7.out.free 2
    clear hd
    have hx8 : RowIs (w7.setCell ⟨w1.heap.size, 2, none⟩ (.int .i64 n3)) w1.heap.size 25 (⟨n1, n2, n3, .empty, ld⟩ : PaperT).cells := HX7.out.set 2 (.int .i64 n3)
    have HX := Lib.hid hx8
    have HZ : Hid (RowIs (w7.setCell ⟨w1.heap.size, 2, none⟩ (.int .i64 n3)) w.heap.size 25 paper0.cells) := Lib.hid (HZ7.out.far (p := ⟨w1.heap.size, 2, none⟩) hne _)
    have HB : Hid (Below w.heap.size w (w7.setCell ⟨w1.heap.size, 2, none⟩ (.int .i64 n3))) := Lib.hid (HB7.out.setCell hle1 _)
    have a20 := hx8.cell (j := 0) rfl
    have a21 := hx8.cell (j := 1) rfl
    have a22 := hx8.cell (j := 2) rfl
    have a23 := hx8.cell (j := 3) rfl
    have a24 := hx8.cell (j := 4) rfl
    clear hx8 HX2 HX3 HX4 HX5 HX6 HX7 HZ1 HZ2 HZ3 HZ4 HZ5 HZ6 HZ7 HB2 HB3 HB4 HB5 HB6 HB7 HW2 HW3 HW4 HW5 HBX HBN HBW HR1 HR2 HR3 HT HS HIN
    go_wp2_with fail
    clear q2 q2f a20 a21 a22 a23 a24
    generalize (w7.setCell ⟨w1.heap.size, 2, none⟩ (.int .i64 n3)) = w8 at *
    have hI := fun w => l3One_any ⟨n1, n2, n3, .empty, ld⟩ w HMZ.out
    cases hst : paperOk ⟨n1, n2, n3, .empty, ld⟩
    · rw [hst] at hI
      have HF : Hid (finP s (specP s [x0, x1, x2, a3]) = (paper0, false)) := Lib.hid (by rw [HSQ.out, finP, if_neg (by rw [hst]; simp)])
      clear hst
      refine (hI _).mono ?_
      rintro e w9 ⟨rfl, hb⟩
      clear hI
      have HZ8 := Lib.hid (HZ.out.below hb)
      have HB8 := Lib.hid (HB.out.trans (hb.mono HB.out.size))
      clear hb
      have c0 := HZ8.out.cell (j := 0) rfl
      have c1 := HZ8.out.cell (j := 1) rfl
      have c2 := HZ8.out.cell (j := 2) rfl
      have c3 := HZ8.out.cell (j := 3) rfl
      have c4 := HZ8.out.cell (j := 4) rfl
      have f0 := HZ8.out.free 0
      have f1 := HZ8.out.free 1
      have f2 := HZ8.out.free 2
      have f3 := HZ8.out.free 3
      have f4 := HZ8.out.free 4
      go_wp2_with fail
      have hz5 := stored5 (HZ8.out) rfl (⟨0, 0, 0, ⟨#[]⟩, false⟩ : PaperT)
      have hb5 := below5 (HB8.out) (Nat.le_refl _) (.int .i64 0) (.int .i64 0) (.int .i64 0) (.string ⟨#[]⟩) (.bool false)
      clear c0 f0 c1 f1 c2 f2 c3 f3 c4 f4
      simp only at hz5
      generalize (((((w9.setCell ⟨w.heap.size, 0, none⟩ (.int .i64 0)).setCell ⟨w.heap.size, 1, none⟩ (.int .i64 0)).setCell ⟨w.heap.size, 2, none⟩ (.int .i64 0)).setCell ⟨w.heap.size, 3, none⟩ (.string ⟨#[]⟩)).setCell ⟨w.heap.size, 4, none⟩ (.bool false)) = w99 at *
      have d0 := hz5.cell (j := 0) rfl
      have d1 := hz5.cell (j := 1) rfl
      have d2 := hz5.cell (j := 2) rfl
      have d3 := hz5.cell (j := 3) rfl
      have d4 := hz5.cell (j := 4) rfl
      exact bodyPost_ret (v := .tuple #[(⟨0, 0, 0, ⟨#[]⟩, false⟩ : PaperT).val, .bool false]) (by simp [results, Tryz.results11, go_sem, d0, d1, d2, d3, d4]) rfl ⟨by rw [HF.out]; first | done | rfl, hb5⟩
    · rw [hst] at hI
      have HX0 := Lib.hid (fun w => l3Text_any ⟨n1, n2, n3, .empty, ld⟩ hst w)
      refine (hI _).mono ?_
      rintro e w9 ⟨rfl, hb⟩
      clear hI
      have HX8 := Lib.hid (HX.out.below hb)
      have HZ8 := Lib.hid (HZ.out.below hb)
      have HB8 := Lib.hid (HB.out.trans (hb.mono HB.out.size))
      clear hb
      have v0 := HX8.out.cell (j := 0) rfl
      have v1 := HX8.out.cell (j := 1) rfl
      have v2 := HX8.out.cell (j := 2) rfl
      have v3 := HX8.out.cell (j := 3) rfl
      have v4 := HX8.out.cell (j := 4) rfl
      by_cases hts : pt3 ⟨n1, n2, n3, .empty, ld⟩ = s
      · have HF : Hid (finP s (specP s [x0, x1, x2, a3]) = (⟨n1, n2, n3, .empty, ld⟩, true)) := Lib.hid (by rw [HSQ.out, finP, if_pos ⟨hst, hts⟩])
        have hbq := str_beq hts
        clear hst hts
        generalize pt3 ⟨n1, n2, n3, .empty, ld⟩ = tx at *
        go_wp2_with fail
        refine (HX0.out _).mono ?_
        rintro e w10 ⟨rfl, hb⟩
        have HX10 := Lib.hid (HX8.out.below hb)
        have HZ10 := Lib.hid (HZ8.out.below hb)
        have HB10 := Lib.hid (HB8.out.trans (hb.mono HB8.out.size))
        clear hb v0 v1 v2 v3 v4
        have v0 := HX10.out.cell (j := 0) rfl
        have v1 := HX10.out.cell (j := 1) rfl
        have v2 := HX10.out.cell (j := 2) rfl
        have v3 := HX10.out.cell (j := 3) rfl
        have v4 := HX10.out.cell (j := 4) rfl
        have c0 := HZ10.out.cell (j := 0) rfl
        have c1 := HZ10.out.cell (j := 1) rfl
        have c2 := HZ10.out.cell (j := 2) rfl
        have c3 := HZ10.out.cell (j := 3) rfl
        have c4 := HZ10.out.cell (j := 4) rfl
        have f0 := HZ10.out.free 0
        have f1 := HZ10.out.free 1
        have f2 := HZ10.out.free 2
        have f3 := HZ10.out.free 3
        have f4 := HZ10.out.free 4
        go_wp2_with fail
        have hz5 := stored5 (HZ10.out) rfl (⟨n1, n2, n3, .empty, ld⟩ : PaperT)
        have hb5 := below5 (HB10.out) (Nat.le_refl _) (.int .i64 n1) (.int .i64 n2) (.int .i64 n3) (.string .empty) (.bool ld)
        clear c0 f0 c1 f1 c2 f2 c3 f3 c4 f4
        simp only at hz5
        generalize (((((w10.setCell ⟨w.heap.size, 0, none⟩ (.int .i64 n1)).setCell ⟨w.heap.size, 1, none⟩ (.int .i64 n2)).setCell ⟨w.heap.size, 2, none⟩ (.int .i64 n3)).setCell ⟨w.heap.size, 3, none⟩ (.string .empty)).setCell ⟨w.heap.size, 4, none⟩ (.bool ld)) = w99 at *
        have d0 := hz5.cell (j := 0) rfl
        have d1 := hz5.cell (j := 1) rfl
        have d2 := hz5.cell (j := 2) rfl
        have d3 := hz5.cell (j := 3) rfl
        have d4 := hz5.cell (j := 4) rfl
        exact bodyPost_ret (v := .tuple #[(⟨n1, n2, n3, .empty, ld⟩ : PaperT).val, .bool true]) (by simp [results, Tryz.results11, go_sem, d0, d1, d2, d3, d4]) rfl ⟨by rw [HF.out]; first | done | rfl, hb5⟩
      · have HF : Hid (finP s (specP s [x0, x1, x2, a3]) = (paper0, false)) := Lib.hid (by rw [HSQ.out, finP, if_neg (fun h => hts h.2)])
        have hbq := str_bne hts
        clear hst hts
        generalize pt3 ⟨n1, n2, n3, .empty, ld⟩ = tx at *
        go_wp2_with fail
        refine (HX0.out _).mono ?_
        rintro e w10 ⟨rfl, hb⟩
        have HX10 := Lib.hid (HX8.out.below hb)
        have HZ10 := Lib.hid (HZ8.out.below hb)
        have HB10 := Lib.hid (HB8.out.trans (hb.mono HB8.out.size))
        clear hb v0 v1 v2 v3 v4
        have v0 := HX10.out.cell (j := 0) rfl
        have v1 := HX10.out.cell (j := 1) rfl
        have v2 := HX10.out.cell (j := 2) rfl
        have v3 := HX10.out.cell (j := 3) rfl
        have v4 := HX10.out.cell (j := 4) rfl
        have c0 := HZ10.out.cell (j := 0) rfl
        have c1 := HZ10.out.cell (j := 1) rfl
        have c2 := HZ10.out.cell (j := 2) rfl
        have c3 := HZ10.out.cell (j := 3) rfl
        have c4 := HZ10.out.cell (j := 4) rfl
        have f0 := HZ10.out.free 0
        have f1 := HZ10.out.free 1
        have f2 := HZ10.out.free 2
        have f3 := HZ10.out.free 3
        have f4 := HZ10.out.free 4
        go_wp2_with fail
        have hz5 := stored5 (HZ10.out) rfl (⟨0, 0, 0, ⟨#[]⟩, false⟩ : PaperT)
        have hb5 := below5 (HB10.out) (Nat.le_refl _) (.int .i64 0) (.int .i64 0) (.int .i64 0) (.string ⟨#[]⟩) (.bool false)
        clear c0 f0 c1 f1 c2 f2 c3 f3 c4 f4
        simp only at hz5
        generalize (((((w10.setCell ⟨w.heap.size, 0, none⟩ (.int .i64 0)).setCell ⟨w.heap.size, 1, none⟩ (.int .i64 0)).setCell ⟨w.heap.size, 2, none⟩ (.int .i64 0)).setCell ⟨w.heap.size, 3, none⟩ (.string ⟨#[]⟩)).setCell ⟨w.heap.size, 4, none⟩ (.bool false)) = w99 at *
        have d0 := hz5.cell (j := 0) rfl
        have d1 := hz5.cell (j := 1) rfl
        have d2 := hz5.cell (j := 2) rfl
        have d3 := hz5.cell (j := 3) rfl
        have d4 := hz5.cell (j := 4) rfl
        exact bodyPost_ret (v := .tuple #[(⟨0, 0, 0, ⟨#[]⟩, false⟩ : PaperT).val, .bool false]) (by simp [results, Tryz.results11, go_sem, d0, d1, d2, d3, d4]) rfl ⟨by rw [HF.out]; first | done | rfl, hb5⟩
  · skip
    obtain rfl : n = 5 := by simpa using hrl
    have HIN := Lib.hid (show ∀ w : World, Calls Tryz.prog 44 #[.int .i64 5, .int .i64 3, .int .i64 6] w (fun e w' => e = .returned (.bool true) ∧ w = w') from fun w => l1In_any 5 3 6 w)
    obtain ⟨ld, hld⟩ : ∃ ld : Bool, ld = (a3.toList == laid4.toList) := ⟨_, rfl⟩
    have hlq : (a3.toList == [108, 97, 105, 100]) = ld := by rw [hld, Lib.toList_data laid4]
    have HSQ : Hid (specP s [x0, x1, x2, a3, a4] = some ⟨n1, n2, n3, a4, ld⟩) := Lib.hid (HSP.out _ _ rfl (by rw [hld]; rfl))
    have HMZ : Hid (a4.size ≤ maxLen) := Lib.hid (by have := sz_split (z := a4) (s := s) (c := 32) (by rw [← HPS.out]; simp); unfold maxLen; omega)
    clear HSP hrl hld
    go_enter Tryz.func11, Tryz.ntmps11
    go_wp2_with fail
    generalize w.alloc (.cells #[.int .i64 0, .int .i64 0, .int .i64 0, .string ⟨#[]⟩, .bool false] 25) = w0 at *
    refine (HS.out _).mono ?_
    rintro e w1 ⟨ad, cp, rfl, hown, hb⟩
    have HB1 := Lib.hid hb
    obtain ⟨g, rfl, hgb, hgg⟩ := own_form hown (by omega)
    have k0 : w1.cell? ⟨g, 0, none⟩ = _ := hown.cellAt 0 (by omega)
    have k1 : w1.cell? ⟨g, 1, none⟩ = _ := hown.cellAt 1 (by omega)
    have k2 : w1.cell? ⟨g, 2, none⟩ = _ := hown.cellAt 2 (by omega)
    have k3 : w1.cell? ⟨g, 3, none⟩ = _ := hown.cellAt 3 (by omega)
    have k4 : w1.cell? ⟨g, 4, none⟩ = _ := hown.cellAt 4 (by omega)
    simp only [strs, List.map_cons, List.getElem?_cons_zero, List.getElem?_cons_succ] at k0 k1 k2 k3 k4
    clear hb hown
    have HG := Lib.hid hgg
    have HGN : Hid (g ≠ w1.heap.size) := Lib.hid (by omega)
    have HK := Lib.hid (show w1.cell? ⟨g, 0, none⟩ = some (.string x0) ∧ w1.cell? ⟨g, 1, none⟩ = some (.string x1) ∧ w1.cell? ⟨g, 2, none⟩ = some (.string x2) ∧ w1.cell? ⟨g, 3, none⟩ = some (.string a3) ∧ w1.cell? ⟨g, 4, none⟩ = some (.string a4) from ⟨k0, k1, k2, k3, k4⟩)
    have hbx : RowIs (w1.alloc (.cells #[.int .i64 0, .int .i64 0, .int .i64 0, .string ⟨#[]⟩, .bool ld] 25)) w1.heap.size 25 (⟨0, 0, 0, .empty, ld⟩ : PaperT).cells := RowIs.new w1 25 (⟨0, 0, 0, .empty, ld⟩ : PaperT).cells
    have HBX := Lib.hid hbx
    have HBN := Lib.hid (below_new w1 (.cells #[.int .i64 0, .int .i64 0, .int .i64 0, .string ⟨#[]⟩, .bool ld] 25))
    have HZ1 := Lib.hid ((BX.out.below HB1.out).alloc (.cells #[.int .i64 0, .int .i64 0, .int .i64 0, .string ⟨#[]⟩, .bool ld] 25))
    have HBW : Hid (Below w.heap.size w (w1.alloc (.cells #[.int .i64 0, .int .i64 0, .int .i64 0, .string ⟨#[]⟩, .bool ld] 25))) := Lib.hid ((B0.out.trans (HB1.out.mono B0.out.size)).alloc (show w.heap.size ≤ w1.heap.size by have := B0.out.size; have := HB1.out.size; omega) _)
    have hne : w.heap.size ≠ w1.heap.size := by have := B0.out.size; have := HB1.out.size; omega
    have hle1 : w.heap.size ≤ w1.heap.size := by have := B0.out.size; have := HB1.out.size; omega
    have m0 : (w1.alloc (.cells #[.int .i64 0, .int .i64 0, .int .i64 0, .string ⟨#[]⟩, .bool ld] 25)).cell? ⟨g, 0, none⟩ = some (.string x0) := cell_later HBN.out k0
    have m4 : (w1.alloc (.cells #[.int .i64 0, .int .i64 0, .int .i64 0, .string ⟨#[]⟩, .bool ld] 25)).cell? ⟨g, 4, none⟩ = some (.string a4) := cell_later HBN.out k4
    have m0b : ((w1.alloc (.cells #[.int .i64 0, .int .i64 0, .int .i64 0, .string ⟨#[]⟩, .bool ld] 25)).setCell ⟨w1.heap.size, 3, none⟩ (.string a4)).cell? ⟨g, 0, none⟩ = some (.string x0) := cell_later (HBN.out.setCell (p := ⟨w1.heap.size, 3, none⟩) (Nat.le_refl _) _) k0
    clear hbx
    go_wp2_with fail
    refine (HIN.out _).mono ?_
    rintro e _ ⟨rfl, rfl⟩
    go_wp2_with fail
    have HX2 : Hid (RowIs (w1.alloc (.cells #[.int .i64 0, .int .i64 0, .int .i64 0, .string a4, .bool ld] 25)) w1.heap.size 25 (⟨0, 0, 0, a4, ld⟩ : PaperT).cells) := Lib.hid (RowIs.new w1 25 (⟨0, 0, 0, a4, ld⟩ : PaperT).cells)
    have HW2 : Hid (Below w1.heap.size w1 (w1.alloc (.cells #[.int .i64 0, .int .i64 0, .int .i64 0, .string a4, .bool ld] 25))) := Lib.hid (below_new w1 _)
    have HZ2 : Hid (RowIs (w1.alloc (.cells #[.int .i64 0, .int .i64 0, .int .i64 0, .string a4, .bool ld] 25)) w.heap.size 25 paper0.cells) := Lib.hid ((BX.out.below HB1.out).alloc _)
    have HB2 : Hid (Below w.heap.size w (w1.alloc (.cells #[.int .i64 0, .int .i64 0, .int .i64 0, .string a4, .bool ld] 25))) := Lib.hid ((B0.out.trans (HB1.out.mono B0.out.size)).alloc (show w.heap.size ≤ w1.heap.size by have := B0.out.size; have := HB1.out.size; omega) _)
    clear k0 k1 k2 k3 k4 m0 m4 m0b
    generalize (w1.alloc (.cells #[.int .i64 0, .int .i64 0, .int .i64 0, .string a4, .bool ld] 25)) = w2 at *
    refine (HR1.out _).mono ?_
    rintro e w3 ⟨rfl, hd⟩
    have HX3 := Lib.hid (HX2.out.below (hd.below _))
    have HW3 := Lib.hid (HW2.out.trans (hd.below _))
    have HZ3 := Lib.hid (HZ2.out.below (hd.below _))
    have HB3 := Lib.hid (HB2.out.trans (hd.below _))
    have q0 := HX3.out.cell (j := 0) rfl
    have q0f := HX3.out.free 0
    clear hd
    go_wp2_with fail
    have HX4 : Hid (RowIs (w3.setCell ⟨w1.heap.size, 0, none⟩ (.int .i64 n1)) w1.heap.size 25 (⟨n1, 0, 0, a4, ld⟩ : PaperT).cells) := Lib.hid (HX3.out.set 0 (.int .i64 n1))
    have HW4 : Hid (Below w1.heap.size w1 (w3.setCell ⟨w1.heap.size, 0, none⟩ (.int .i64 n1))) := Lib.hid (HW3.out.setCell (p := ⟨w1.heap.size, 0, none⟩) (Nat.le_refl _) _)
    have HZ4 : Hid (RowIs (w3.setCell ⟨w1.heap.size, 0, none⟩ (.int .i64 n1)) w.heap.size 25 paper0.cells) := Lib.hid (HZ3.out.far (p := ⟨w1.heap.size, 0, none⟩) hne _)
    have HB4 : Hid (Below w.heap.size w (w3.setCell ⟨w1.heap.size, 0, none⟩ (.int .i64 n1))) := Lib.hid (HB3.out.setCell hle1 _)
    clear q0 q0f
    generalize (w3.setCell ⟨w1.heap.size, 0, none⟩ (.int .i64 n1)) = w4 at *
    have k1 : w4.cell? ⟨g, 1, none⟩ = some (.string x1) := cell_later HW4.out HK.out.2.1
    obtain ⟨t1, t2, t3, t4, t5, t6⟩ := HT.out
    go_region_held3 (fun w' => w'.cell? ⟨g, 1, none⟩ = some (.string x1))
      (first | exact k1 | exact cell_later (HW4.out.drew.trans (hd.below _)) HK.out.2.1 | exact cell_later ((HW4.out.drew.trans (hd.below _)).setCell (p := ⟨w1.heap.size, 1, none⟩) (Nat.le_refl _) _) HK.out.2.1)
      ((go_at_call 45; refine (HR2.out _).mono ?_; rintro e w5 ⟨rfl, hd⟩; have q1 := (RowIs.below (w := w4.drew) HX4.out (hd.below _)).cell (j := 1) rfl; have q1f := (RowIs.below (w := w4.drew) HX4.out (hd.below _)).free 1))
    have HX5 := Lib.hid (RowIs.below (w := w4.drew) HX4.out (hd.below _))
    have HW5 := Lib.hid (HW4.out.drew.trans (hd.below _))
    have HZ5 := Lib.hid (RowIs.below (w := w4.drew) HZ4.out (hd.below _))
    have HB5 := Lib.hid (HB4.out.drew.trans (hd.below _))
    clear k1 t1 t2 t3 t4 t5 t6 hd
    have k2 : (w5.setCell ⟨w1.heap.size, 1, none⟩ (.int .i64 n2)).cell? ⟨g, 2, none⟩ = some (.string x2) := cell_later (HW5.out.setCell (p := ⟨w1.heap.size, 1, none⟩) (Nat.le_refl _) _) HK.out.2.2.1
    have HX6 : Hid (RowIs (w5.setCell ⟨w1.heap.size, 1, none⟩ (.int .i64 n2)) w1.heap.size 25 (⟨n1, n2, 0, a4, ld⟩ : PaperT).cells) := Lib.hid (HX5.out.set 1 (.int .i64 n2))
    have HZ6 : Hid (RowIs (w5.setCell ⟨w1.heap.size, 1, none⟩ (.int .i64 n2)) w.heap.size 25 paper0.cells) := Lib.hid (HZ5.out.far (p := ⟨w1.heap.size, 1, none⟩) hne _)
    have HB6 : Hid (Below w.heap.size w (w5.setCell ⟨w1.heap.size, 1, none⟩ (.int .i64 n2))) := Lib.hid (HB5.out.setCell hle1 _)
    go_wp2_with fail
    clear k2 q1 q1f
    generalize (w5.setCell ⟨w1.heap.size, 1, none⟩ (.int .i64 n2)) = w6 at *
    first
    | refine (HR3.out _).mono ?_
    | (rw [← HS2.out]; refine (HR3.out _).mono ?_)
    rintro e w7 ⟨rfl, hd⟩
    have HX7 := Lib.hid (HX6.out.below (hd.below _))
    have HZ7 := Lib.hid (HZ6.out.below (hd.below _))
    have HB7 := Lib.hid (HB6.out.trans (hd.below _))
    have q2 := HX7.out.cell (j := 2) rfl
    have q2f := HX7.out.free 2
    clear hd
    have hx8 : RowIs (w7.setCell ⟨w1.heap.size, 2, none⟩ (.int .i64 n3)) w1.heap.size 25 (⟨n1, n2, n3, a4, ld⟩ : PaperT).cells := HX7.out.set 2 (.int .i64 n3)
    have HX := Lib.hid hx8
    have HZ : Hid (RowIs (w7.setCell ⟨w1.heap.size, 2, none⟩ (.int .i64 n3)) w.heap.size 25 paper0.cells) := Lib.hid (HZ7.out.far (p := ⟨w1.heap.size, 2, none⟩) hne _)
    have HB : Hid (Below w.heap.size w (w7.setCell ⟨w1.heap.size, 2, none⟩ (.int .i64 n3))) := Lib.hid (HB7.out.setCell hle1 _)
    have a20 := hx8.cell (j := 0) rfl
    have a21 := hx8.cell (j := 1) rfl
    have a22 := hx8.cell (j := 2) rfl
    have a23 := hx8.cell (j := 3) rfl
    have a24 := hx8.cell (j := 4) rfl
    clear hx8 HX2 HX3 HX4 HX5 HX6 HX7 HZ1 HZ2 HZ3 HZ4 HZ5 HZ6 HZ7 HB2 HB3 HB4 HB5 HB6 HB7 HW2 HW3 HW4 HW5 HBX HBN HBW HR1 HR2 HR3 HT HS HIN
    go_wp2_with fail
    clear q2 q2f a20 a21 a22 a23 a24
    generalize (w7.setCell ⟨w1.heap.size, 2, none⟩ (.int .i64 n3)) = w8 at *
    have hI := fun w => l3One_any ⟨n1, n2, n3, a4, ld⟩ w HMZ.out
    cases hst : paperOk ⟨n1, n2, n3, a4, ld⟩
    · rw [hst] at hI
      have HF : Hid (finP s (specP s [x0, x1, x2, a3, a4]) = (paper0, false)) := Lib.hid (by rw [HSQ.out, finP, if_neg (by rw [hst]; simp)])
      clear hst
      refine (hI _).mono ?_
      rintro e w9 ⟨rfl, hb⟩
      clear hI
      have HZ8 := Lib.hid (HZ.out.below hb)
      have HB8 := Lib.hid (HB.out.trans (hb.mono HB.out.size))
      clear hb
      have c0 := HZ8.out.cell (j := 0) rfl
      have c1 := HZ8.out.cell (j := 1) rfl
      have c2 := HZ8.out.cell (j := 2) rfl
      have c3 := HZ8.out.cell (j := 3) rfl
      have c4 := HZ8.out.cell (j := 4) rfl
      have f0 := HZ8.out.free 0
      have f1 := HZ8.out.free 1
      have f2 := HZ8.out.free 2
      have f3 := HZ8.out.free 3
      have f4 := HZ8.out.free 4
      go_wp2_with fail
      have hz5 := stored5 (HZ8.out) rfl (⟨0, 0, 0, ⟨#[]⟩, false⟩ : PaperT)
      have hb5 := below5 (HB8.out) (Nat.le_refl _) (.int .i64 0) (.int .i64 0) (.int .i64 0) (.string ⟨#[]⟩) (.bool false)
      clear c0 f0 c1 f1 c2 f2 c3 f3 c4 f4
      simp only at hz5
      generalize (((((w9.setCell ⟨w.heap.size, 0, none⟩ (.int .i64 0)).setCell ⟨w.heap.size, 1, none⟩ (.int .i64 0)).setCell ⟨w.heap.size, 2, none⟩ (.int .i64 0)).setCell ⟨w.heap.size, 3, none⟩ (.string ⟨#[]⟩)).setCell ⟨w.heap.size, 4, none⟩ (.bool false)) = w99 at *
      have d0 := hz5.cell (j := 0) rfl
      have d1 := hz5.cell (j := 1) rfl
      have d2 := hz5.cell (j := 2) rfl
      have d3 := hz5.cell (j := 3) rfl
      have d4 := hz5.cell (j := 4) rfl
      exact bodyPost_ret (v := .tuple #[(⟨0, 0, 0, ⟨#[]⟩, false⟩ : PaperT).val, .bool false]) (by simp [results, Tryz.results11, go_sem, d0, d1, d2, d3, d4]) rfl ⟨by rw [HF.out]; first | done | rfl, hb5⟩
    · rw [hst] at hI
      have HX0 := Lib.hid (fun w => l3Text_any ⟨n1, n2, n3, a4, ld⟩ hst w)
      refine (hI _).mono ?_
      rintro e w9 ⟨rfl, hb⟩
      clear hI
      have HX8 := Lib.hid (HX.out.below hb)
      have HZ8 := Lib.hid (HZ.out.below hb)
      have HB8 := Lib.hid (HB.out.trans (hb.mono HB.out.size))
      clear hb
      have v0 := HX8.out.cell (j := 0) rfl
      have v1 := HX8.out.cell (j := 1) rfl
      have v2 := HX8.out.cell (j := 2) rfl
      have v3 := HX8.out.cell (j := 3) rfl
      have v4 := HX8.out.cell (j := 4) rfl
      by_cases hts : pt3 ⟨n1, n2, n3, a4, ld⟩ = s
      · have HF : Hid (finP s (specP s [x0, x1, x2, a3, a4]) = (⟨n1, n2, n3, a4, ld⟩, true)) := Lib.hid (by rw [HSQ.out, finP, if_pos ⟨hst, hts⟩])
        have hbq := str_beq hts
        clear hst hts
        generalize pt3 ⟨n1, n2, n3, a4, ld⟩ = tx at *
        go_wp2_with fail
        refine (HX0.out _).mono ?_
        rintro e w10 ⟨rfl, hb⟩
        have HX10 := Lib.hid (HX8.out.below hb)
        have HZ10 := Lib.hid (HZ8.out.below hb)
        have HB10 := Lib.hid (HB8.out.trans (hb.mono HB8.out.size))
        clear hb v0 v1 v2 v3 v4
        have v0 := HX10.out.cell (j := 0) rfl
        have v1 := HX10.out.cell (j := 1) rfl
        have v2 := HX10.out.cell (j := 2) rfl
        have v3 := HX10.out.cell (j := 3) rfl
        have v4 := HX10.out.cell (j := 4) rfl
        have c0 := HZ10.out.cell (j := 0) rfl
        have c1 := HZ10.out.cell (j := 1) rfl
        have c2 := HZ10.out.cell (j := 2) rfl
        have c3 := HZ10.out.cell (j := 3) rfl
        have c4 := HZ10.out.cell (j := 4) rfl
        have f0 := HZ10.out.free 0
        have f1 := HZ10.out.free 1
        have f2 := HZ10.out.free 2
        have f3 := HZ10.out.free 3
        have f4 := HZ10.out.free 4
        go_wp2_with fail
        have hz5 := stored5 (HZ10.out) rfl (⟨n1, n2, n3, a4, ld⟩ : PaperT)
        have hb5 := below5 (HB10.out) (Nat.le_refl _) (.int .i64 n1) (.int .i64 n2) (.int .i64 n3) (.string a4) (.bool ld)
        clear c0 f0 c1 f1 c2 f2 c3 f3 c4 f4
        simp only at hz5
        generalize (((((w10.setCell ⟨w.heap.size, 0, none⟩ (.int .i64 n1)).setCell ⟨w.heap.size, 1, none⟩ (.int .i64 n2)).setCell ⟨w.heap.size, 2, none⟩ (.int .i64 n3)).setCell ⟨w.heap.size, 3, none⟩ (.string a4)).setCell ⟨w.heap.size, 4, none⟩ (.bool ld)) = w99 at *
        have d0 := hz5.cell (j := 0) rfl
        have d1 := hz5.cell (j := 1) rfl
        have d2 := hz5.cell (j := 2) rfl
        have d3 := hz5.cell (j := 3) rfl
        have d4 := hz5.cell (j := 4) rfl
        exact bodyPost_ret (v := .tuple #[(⟨n1, n2, n3, a4, ld⟩ : PaperT).val, .bool true]) (by simp [results, Tryz.results11, go_sem, d0, d1, d2, d3, d4]) rfl ⟨by rw [HF.out]; first | done | rfl, hb5⟩
      · have HF : Hid (finP s (specP s [x0, x1, x2, a3, a4]) = (paper0, false)) := Lib.hid (by rw [HSQ.out, finP, if_neg (fun h => hts h.2)])
        have hbq := str_bne hts
        clear hst hts
        generalize pt3 ⟨n1, n2, n3, a4, ld⟩ = tx at *
        go_wp2_with fail
        refine (HX0.out _).mono ?_
        rintro e w10 ⟨rfl, hb⟩
        have HX10 := Lib.hid (HX8.out.below hb)
        have HZ10 := Lib.hid (HZ8.out.below hb)
        have HB10 := Lib.hid (HB8.out.trans (hb.mono HB8.out.size))
        clear hb v0 v1 v2 v3 v4
        have v0 := HX10.out.cell (j := 0) rfl
        have v1 := HX10.out.cell (j := 1) rfl
        have v2 := HX10.out.cell (j := 2) rfl
        have v3 := HX10.out.cell (j := 3) rfl
        have v4 := HX10.out.cell (j := 4) rfl
        have c0 := HZ10.out.cell (j := 0) rfl
        have c1 := HZ10.out.cell (j := 1) rfl
        have c2 := HZ10.out.cell (j := 2) rfl
        have c3 := HZ10.out.cell (j := 3) rfl
        have c4 := HZ10.out.cell (j := 4) rfl
        have f0 := HZ10.out.free 0
        have f1 := HZ10.out.free 1
        have f2 := HZ10.out.free 2
        have f3 := HZ10.out.free 3
        have f4 := HZ10.out.free 4
        go_wp2_with fail
        have hz5 := stored5 (HZ10.out) rfl (⟨0, 0, 0, ⟨#[]⟩, false⟩ : PaperT)
        have hb5 := below5 (HB10.out) (Nat.le_refl _) (.int .i64 0) (.int .i64 0) (.int .i64 0) (.string ⟨#[]⟩) (.bool false)
        clear c0 f0 c1 f1 c2 f2 c3 f3 c4 f4
        simp only at hz5
        generalize (((((w10.setCell ⟨w.heap.size, 0, none⟩ (.int .i64 0)).setCell ⟨w.heap.size, 1, none⟩ (.int .i64 0)).setCell ⟨w.heap.size, 2, none⟩ (.int .i64 0)).setCell ⟨w.heap.size, 3, none⟩ (.string ⟨#[]⟩)).setCell ⟨w.heap.size, 4, none⟩ (.bool false)) = w99 at *
        have d0 := hz5.cell (j := 0) rfl
        have d1 := hz5.cell (j := 1) rfl
        have d2 := hz5.cell (j := 2) rfl
        have d3 := hz5.cell (j := 3) rfl
        have d4 := hz5.cell (j := 4) rfl
        exact bodyPost_ret (v := .tuple #[(⟨0, 0, 0, ⟨#[]⟩, false⟩ : PaperT).val, .bool false]) (by simp [results, Tryz.results11, go_sem, d0, d1, d2, d3, d4]) rfl ⟨by rw [HF.out]; first | done | rfl, hb5⟩
  · skip
    obtain rfl : n = 6 := by simpa using hrl
    have HIN := Lib.hid (show ∀ w : World, Calls Tryz.prog 44 #[.int .i64 6, .int .i64 3, .int .i64 6] w (fun e w' => e = .returned (.bool true) ∧ w = w') from fun w => l1In_any 6 3 6 w)
    obtain ⟨ld, hld⟩ : ∃ ld : Bool, ld = (a3.toList == laid4.toList) := ⟨_, rfl⟩
    have hlq : (a3.toList == [108, 97, 105, 100]) = ld := by rw [hld, Lib.toList_data laid4]
    have HSQ : Hid (specP s [x0, x1, x2, a3, a4, a5] = some ⟨n1, n2, n3, a5, ld⟩) := Lib.hid (HSP.out _ _ rfl (by rw [hld]; rfl))
    have HMZ : Hid (a5.size ≤ maxLen) := Lib.hid (by have := sz_split (z := a5) (s := s) (c := 32) (by rw [← HPS.out]; simp); unfold maxLen; omega)
    clear HSP hrl hld
    go_enter Tryz.func11, Tryz.ntmps11
    go_wp2_with fail
    generalize w.alloc (.cells #[.int .i64 0, .int .i64 0, .int .i64 0, .string ⟨#[]⟩, .bool false] 25) = w0 at *
    refine (HS.out _).mono ?_
    rintro e w1 ⟨ad, cp, rfl, hown, hb⟩
    have HB1 := Lib.hid hb
    obtain ⟨g, rfl, hgb, hgg⟩ := own_form hown (by omega)
    have k0 : w1.cell? ⟨g, 0, none⟩ = _ := hown.cellAt 0 (by omega)
    have k1 : w1.cell? ⟨g, 1, none⟩ = _ := hown.cellAt 1 (by omega)
    have k2 : w1.cell? ⟨g, 2, none⟩ = _ := hown.cellAt 2 (by omega)
    have k3 : w1.cell? ⟨g, 3, none⟩ = _ := hown.cellAt 3 (by omega)
    have k4 : w1.cell? ⟨g, 4, none⟩ = _ := hown.cellAt 4 (by omega)
    have k5 : w1.cell? ⟨g, 5, none⟩ = _ := hown.cellAt 5 (by omega)
    simp only [strs, List.map_cons, List.getElem?_cons_zero, List.getElem?_cons_succ] at k0 k1 k2 k3 k4 k5
    clear hb hown
    have HG := Lib.hid hgg
    have HGN : Hid (g ≠ w1.heap.size) := Lib.hid (by omega)
    have HK := Lib.hid (show w1.cell? ⟨g, 0, none⟩ = some (.string x0) ∧ w1.cell? ⟨g, 1, none⟩ = some (.string x1) ∧ w1.cell? ⟨g, 2, none⟩ = some (.string x2) ∧ w1.cell? ⟨g, 3, none⟩ = some (.string a3) ∧ w1.cell? ⟨g, 4, none⟩ = some (.string a4) ∧ w1.cell? ⟨g, 5, none⟩ = some (.string a5) from ⟨k0, k1, k2, k3, k4, k5⟩)
    have hbx : RowIs (w1.alloc (.cells #[.int .i64 0, .int .i64 0, .int .i64 0, .string ⟨#[]⟩, .bool ld] 25)) w1.heap.size 25 (⟨0, 0, 0, .empty, ld⟩ : PaperT).cells := RowIs.new w1 25 (⟨0, 0, 0, .empty, ld⟩ : PaperT).cells
    have HBX := Lib.hid hbx
    have HBN := Lib.hid (below_new w1 (.cells #[.int .i64 0, .int .i64 0, .int .i64 0, .string ⟨#[]⟩, .bool ld] 25))
    have HZ1 := Lib.hid ((BX.out.below HB1.out).alloc (.cells #[.int .i64 0, .int .i64 0, .int .i64 0, .string ⟨#[]⟩, .bool ld] 25))
    have HBW : Hid (Below w.heap.size w (w1.alloc (.cells #[.int .i64 0, .int .i64 0, .int .i64 0, .string ⟨#[]⟩, .bool ld] 25))) := Lib.hid ((B0.out.trans (HB1.out.mono B0.out.size)).alloc (show w.heap.size ≤ w1.heap.size by have := B0.out.size; have := HB1.out.size; omega) _)
    have hne : w.heap.size ≠ w1.heap.size := by have := B0.out.size; have := HB1.out.size; omega
    have hle1 : w.heap.size ≤ w1.heap.size := by have := B0.out.size; have := HB1.out.size; omega
    have m0 : (w1.alloc (.cells #[.int .i64 0, .int .i64 0, .int .i64 0, .string ⟨#[]⟩, .bool ld] 25)).cell? ⟨g, 0, none⟩ = some (.string x0) := cell_later HBN.out k0
    have m5 : (w1.alloc (.cells #[.int .i64 0, .int .i64 0, .int .i64 0, .string ⟨#[]⟩, .bool ld] 25)).cell? ⟨g, 5, none⟩ = some (.string a5) := cell_later HBN.out k5
    have m0b : ((w1.alloc (.cells #[.int .i64 0, .int .i64 0, .int .i64 0, .string ⟨#[]⟩, .bool ld] 25)).setCell ⟨w1.heap.size, 3, none⟩ (.string a5)).cell? ⟨g, 0, none⟩ = some (.string x0) := cell_later (HBN.out.setCell (p := ⟨w1.heap.size, 3, none⟩) (Nat.le_refl _) _) k0
    clear hbx
    go_wp2_with fail
    refine (HIN.out _).mono ?_
    rintro e _ ⟨rfl, rfl⟩
    go_wp2_with fail
    have HX2 : Hid (RowIs (w1.alloc (.cells #[.int .i64 0, .int .i64 0, .int .i64 0, .string a5, .bool ld] 25)) w1.heap.size 25 (⟨0, 0, 0, a5, ld⟩ : PaperT).cells) := Lib.hid (RowIs.new w1 25 (⟨0, 0, 0, a5, ld⟩ : PaperT).cells)
    have HW2 : Hid (Below w1.heap.size w1 (w1.alloc (.cells #[.int .i64 0, .int .i64 0, .int .i64 0, .string a5, .bool ld] 25))) := Lib.hid (below_new w1 _)
    have HZ2 : Hid (RowIs (w1.alloc (.cells #[.int .i64 0, .int .i64 0, .int .i64 0, .string a5, .bool ld] 25)) w.heap.size 25 paper0.cells) := Lib.hid ((BX.out.below HB1.out).alloc _)
    have HB2 : Hid (Below w.heap.size w (w1.alloc (.cells #[.int .i64 0, .int .i64 0, .int .i64 0, .string a5, .bool ld] 25))) := Lib.hid ((B0.out.trans (HB1.out.mono B0.out.size)).alloc (show w.heap.size ≤ w1.heap.size by have := B0.out.size; have := HB1.out.size; omega) _)
    clear k0 k1 k2 k3 k4 k5 m0 m5 m0b
    generalize (w1.alloc (.cells #[.int .i64 0, .int .i64 0, .int .i64 0, .string a5, .bool ld] 25)) = w2 at *
    refine (HR1.out _).mono ?_
    rintro e w3 ⟨rfl, hd⟩
    have HX3 := Lib.hid (HX2.out.below (hd.below _))
    have HW3 := Lib.hid (HW2.out.trans (hd.below _))
    have HZ3 := Lib.hid (HZ2.out.below (hd.below _))
    have HB3 := Lib.hid (HB2.out.trans (hd.below _))
    have q0 := HX3.out.cell (j := 0) rfl
    have q0f := HX3.out.free 0
    clear hd
    go_wp2_with fail
    have HX4 : Hid (RowIs (w3.setCell ⟨w1.heap.size, 0, none⟩ (.int .i64 n1)) w1.heap.size 25 (⟨n1, 0, 0, a5, ld⟩ : PaperT).cells) := Lib.hid (HX3.out.set 0 (.int .i64 n1))
    have HW4 : Hid (Below w1.heap.size w1 (w3.setCell ⟨w1.heap.size, 0, none⟩ (.int .i64 n1))) := Lib.hid (HW3.out.setCell (p := ⟨w1.heap.size, 0, none⟩) (Nat.le_refl _) _)
    have HZ4 : Hid (RowIs (w3.setCell ⟨w1.heap.size, 0, none⟩ (.int .i64 n1)) w.heap.size 25 paper0.cells) := Lib.hid (HZ3.out.far (p := ⟨w1.heap.size, 0, none⟩) hne _)
    have HB4 : Hid (Below w.heap.size w (w3.setCell ⟨w1.heap.size, 0, none⟩ (.int .i64 n1))) := Lib.hid (HB3.out.setCell hle1 _)
    clear q0 q0f
    generalize (w3.setCell ⟨w1.heap.size, 0, none⟩ (.int .i64 n1)) = w4 at *
    have k1 : w4.cell? ⟨g, 1, none⟩ = some (.string x1) := cell_later HW4.out HK.out.2.1
    obtain ⟨t1, t2, t3, t4, t5, t6⟩ := HT.out
    go_region_held3 (fun w' => w'.cell? ⟨g, 1, none⟩ = some (.string x1))
      (first | exact k1 | exact cell_later (HW4.out.drew.trans (hd.below _)) HK.out.2.1 | exact cell_later ((HW4.out.drew.trans (hd.below _)).setCell (p := ⟨w1.heap.size, 1, none⟩) (Nat.le_refl _) _) HK.out.2.1)
      ((go_at_call 45; refine (HR2.out _).mono ?_; rintro e w5 ⟨rfl, hd⟩; have q1 := (RowIs.below (w := w4.drew) HX4.out (hd.below _)).cell (j := 1) rfl; have q1f := (RowIs.below (w := w4.drew) HX4.out (hd.below _)).free 1))
    have HX5 := Lib.hid (RowIs.below (w := w4.drew) HX4.out (hd.below _))
    have HW5 := Lib.hid (HW4.out.drew.trans (hd.below _))
    have HZ5 := Lib.hid (RowIs.below (w := w4.drew) HZ4.out (hd.below _))
    have HB5 := Lib.hid (HB4.out.drew.trans (hd.below _))
    clear k1 t1 t2 t3 t4 t5 t6 hd
    have k2 : (w5.setCell ⟨w1.heap.size, 1, none⟩ (.int .i64 n2)).cell? ⟨g, 2, none⟩ = some (.string x2) := cell_later (HW5.out.setCell (p := ⟨w1.heap.size, 1, none⟩) (Nat.le_refl _) _) HK.out.2.2.1
    have HX6 : Hid (RowIs (w5.setCell ⟨w1.heap.size, 1, none⟩ (.int .i64 n2)) w1.heap.size 25 (⟨n1, n2, 0, a5, ld⟩ : PaperT).cells) := Lib.hid (HX5.out.set 1 (.int .i64 n2))
    have HZ6 : Hid (RowIs (w5.setCell ⟨w1.heap.size, 1, none⟩ (.int .i64 n2)) w.heap.size 25 paper0.cells) := Lib.hid (HZ5.out.far (p := ⟨w1.heap.size, 1, none⟩) hne _)
    have HB6 : Hid (Below w.heap.size w (w5.setCell ⟨w1.heap.size, 1, none⟩ (.int .i64 n2))) := Lib.hid (HB5.out.setCell hle1 _)
    go_wp2_with fail
    clear k2 q1 q1f
    generalize (w5.setCell ⟨w1.heap.size, 1, none⟩ (.int .i64 n2)) = w6 at *
    first
    | refine (HR3.out _).mono ?_
    | (rw [← HS2.out]; refine (HR3.out _).mono ?_)
    rintro e w7 ⟨rfl, hd⟩
    have HX7 := Lib.hid (HX6.out.below (hd.below _))
    have HZ7 := Lib.hid (HZ6.out.below (hd.below _))
    have HB7 := Lib.hid (HB6.out.trans (hd.below _))
    have q2 := HX7.out.cell (j := 2) rfl
    have q2f := HX7.out.free 2
    clear hd
    have hx8 : RowIs (w7.setCell ⟨w1.heap.size, 2, none⟩ (.int .i64 n3)) w1.heap.size 25 (⟨n1, n2, n3, a5, ld⟩ : PaperT).cells := HX7.out.set 2 (.int .i64 n3)
    have HX := Lib.hid hx8
    have HZ : Hid (RowIs (w7.setCell ⟨w1.heap.size, 2, none⟩ (.int .i64 n3)) w.heap.size 25 paper0.cells) := Lib.hid (HZ7.out.far (p := ⟨w1.heap.size, 2, none⟩) hne _)
    have HB : Hid (Below w.heap.size w (w7.setCell ⟨w1.heap.size, 2, none⟩ (.int .i64 n3))) := Lib.hid (HB7.out.setCell hle1 _)
    have a20 := hx8.cell (j := 0) rfl
    have a21 := hx8.cell (j := 1) rfl
    have a22 := hx8.cell (j := 2) rfl
    have a23 := hx8.cell (j := 3) rfl
    have a24 := hx8.cell (j := 4) rfl
    clear hx8 HX2 HX3 HX4 HX5 HX6 HX7 HZ1 HZ2 HZ3 HZ4 HZ5 HZ6 HZ7 HB2 HB3 HB4 HB5 HB6 HB7 HW2 HW3 HW4 HW5 HBX HBN HBW HR1 HR2 HR3 HT HS HIN
    go_wp2_with fail
    clear q2 q2f a20 a21 a22 a23 a24
    generalize (w7.setCell ⟨w1.heap.size, 2, none⟩ (.int .i64 n3)) = w8 at *
    have hI := fun w => l3One_any ⟨n1, n2, n3, a5, ld⟩ w HMZ.out
    cases hst : paperOk ⟨n1, n2, n3, a5, ld⟩
    · rw [hst] at hI
      have HF : Hid (finP s (specP s [x0, x1, x2, a3, a4, a5]) = (paper0, false)) := Lib.hid (by rw [HSQ.out, finP, if_neg (by rw [hst]; simp)])
      clear hst
      refine (hI _).mono ?_
      rintro e w9 ⟨rfl, hb⟩
      clear hI
      have HZ8 := Lib.hid (HZ.out.below hb)
      have HB8 := Lib.hid (HB.out.trans (hb.mono HB.out.size))
      clear hb
      have c0 := HZ8.out.cell (j := 0) rfl
      have c1 := HZ8.out.cell (j := 1) rfl
      have c2 := HZ8.out.cell (j := 2) rfl
      have c3 := HZ8.out.cell (j := 3) rfl
      have c4 := HZ8.out.cell (j := 4) rfl
      have f0 := HZ8.out.free 0
      have f1 := HZ8.out.free 1
      have f2 := HZ8.out.free 2
      have f3 := HZ8.out.free 3
      have f4 := HZ8.out.free 4
      go_wp2_with fail
      have hz5 := stored5 (HZ8.out) rfl (⟨0, 0, 0, ⟨#[]⟩, false⟩ : PaperT)
      have hb5 := below5 (HB8.out) (Nat.le_refl _) (.int .i64 0) (.int .i64 0) (.int .i64 0) (.string ⟨#[]⟩) (.bool false)
      clear c0 f0 c1 f1 c2 f2 c3 f3 c4 f4
      simp only at hz5
      generalize (((((w9.setCell ⟨w.heap.size, 0, none⟩ (.int .i64 0)).setCell ⟨w.heap.size, 1, none⟩ (.int .i64 0)).setCell ⟨w.heap.size, 2, none⟩ (.int .i64 0)).setCell ⟨w.heap.size, 3, none⟩ (.string ⟨#[]⟩)).setCell ⟨w.heap.size, 4, none⟩ (.bool false)) = w99 at *
      have d0 := hz5.cell (j := 0) rfl
      have d1 := hz5.cell (j := 1) rfl
      have d2 := hz5.cell (j := 2) rfl
      have d3 := hz5.cell (j := 3) rfl
      have d4 := hz5.cell (j := 4) rfl
      exact bodyPost_ret (v := .tuple #[(⟨0, 0, 0, ⟨#[]⟩, false⟩ : PaperT).val, .bool false]) (by simp [results, Tryz.results11, go_sem, d0, d1, d2, d3, d4]) rfl ⟨by rw [HF.out]; first | done | rfl, hb5⟩
    · rw [hst] at hI
      have HX0 := Lib.hid (fun w => l3Text_any ⟨n1, n2, n3, a5, ld⟩ hst w)
      refine (hI _).mono ?_
      rintro e w9 ⟨rfl, hb⟩
      clear hI
      have HX8 := Lib.hid (HX.out.below hb)
      have HZ8 := Lib.hid (HZ.out.below hb)
      have HB8 := Lib.hid (HB.out.trans (hb.mono HB.out.size))
      clear hb
      have v0 := HX8.out.cell (j := 0) rfl
      have v1 := HX8.out.cell (j := 1) rfl
      have v2 := HX8.out.cell (j := 2) rfl
      have v3 := HX8.out.cell (j := 3) rfl
      have v4 := HX8.out.cell (j := 4) rfl
      by_cases hts : pt3 ⟨n1, n2, n3, a5, ld⟩ = s
      · have HF : Hid (finP s (specP s [x0, x1, x2, a3, a4, a5]) = (⟨n1, n2, n3, a5, ld⟩, true)) := Lib.hid (by rw [HSQ.out, finP, if_pos ⟨hst, hts⟩])
        have hbq := str_beq hts
        clear hst hts
        generalize pt3 ⟨n1, n2, n3, a5, ld⟩ = tx at *
        go_wp2_with fail
        refine (HX0.out _).mono ?_
        rintro e w10 ⟨rfl, hb⟩
        have HX10 := Lib.hid (HX8.out.below hb)
        have HZ10 := Lib.hid (HZ8.out.below hb)
        have HB10 := Lib.hid (HB8.out.trans (hb.mono HB8.out.size))
        clear hb v0 v1 v2 v3 v4
        have v0 := HX10.out.cell (j := 0) rfl
        have v1 := HX10.out.cell (j := 1) rfl
        have v2 := HX10.out.cell (j := 2) rfl
        have v3 := HX10.out.cell (j := 3) rfl
        have v4 := HX10.out.cell (j := 4) rfl
        have c0 := HZ10.out.cell (j := 0) rfl
        have c1 := HZ10.out.cell (j := 1) rfl
        have c2 := HZ10.out.cell (j := 2) rfl
        have c3 := HZ10.out.cell (j := 3) rfl
        have c4 := HZ10.out.cell (j := 4) rfl
        have f0 := HZ10.out.free 0
        have f1 := HZ10.out.free 1
        have f2 := HZ10.out.free 2
        have f3 := HZ10.out.free 3
        have f4 := HZ10.out.free 4
        go_wp2_with fail
        have hz5 := stored5 (HZ10.out) rfl (⟨n1, n2, n3, a5, ld⟩ : PaperT)
        have hb5 := below5 (HB10.out) (Nat.le_refl _) (.int .i64 n1) (.int .i64 n2) (.int .i64 n3) (.string a5) (.bool ld)
        clear c0 f0 c1 f1 c2 f2 c3 f3 c4 f4
        simp only at hz5
        generalize (((((w10.setCell ⟨w.heap.size, 0, none⟩ (.int .i64 n1)).setCell ⟨w.heap.size, 1, none⟩ (.int .i64 n2)).setCell ⟨w.heap.size, 2, none⟩ (.int .i64 n3)).setCell ⟨w.heap.size, 3, none⟩ (.string a5)).setCell ⟨w.heap.size, 4, none⟩ (.bool ld)) = w99 at *
        have d0 := hz5.cell (j := 0) rfl
        have d1 := hz5.cell (j := 1) rfl
        have d2 := hz5.cell (j := 2) rfl
        have d3 := hz5.cell (j := 3) rfl
        have d4 := hz5.cell (j := 4) rfl
        exact bodyPost_ret (v := .tuple #[(⟨n1, n2, n3, a5, ld⟩ : PaperT).val, .bool true]) (by simp [results, Tryz.results11, go_sem, d0, d1, d2, d3, d4]) rfl ⟨by rw [HF.out]; first | done | rfl, hb5⟩
      · have HF : Hid (finP s (specP s [x0, x1, x2, a3, a4, a5]) = (paper0, false)) := Lib.hid (by rw [HSQ.out, finP, if_neg (fun h => hts h.2)])
        have hbq := str_bne hts
        clear hst hts
        generalize pt3 ⟨n1, n2, n3, a5, ld⟩ = tx at *
        go_wp2_with fail
        refine (HX0.out _).mono ?_
        rintro e w10 ⟨rfl, hb⟩
        have HX10 := Lib.hid (HX8.out.below hb)
        have HZ10 := Lib.hid (HZ8.out.below hb)
        have HB10 := Lib.hid (HB8.out.trans (hb.mono HB8.out.size))
        clear hb v0 v1 v2 v3 v4
        have v0 := HX10.out.cell (j := 0) rfl
        have v1 := HX10.out.cell (j := 1) rfl
        have v2 := HX10.out.cell (j := 2) rfl
        have v3 := HX10.out.cell (j := 3) rfl
        have v4 := HX10.out.cell (j := 4) rfl
        have c0 := HZ10.out.cell (j := 0) rfl
        have c1 := HZ10.out.cell (j := 1) rfl
        have c2 := HZ10.out.cell (j := 2) rfl
        have c3 := HZ10.out.cell (j := 3) rfl
        have c4 := HZ10.out.cell (j := 4) rfl
        have f0 := HZ10.out.free 0
        have f1 := HZ10.out.free 1
        have f2 := HZ10.out.free 2
        have f3 := HZ10.out.free 3
        have f4 := HZ10.out.free 4
        go_wp2_with fail
        have hz5 := stored5 (HZ10.out) rfl (⟨0, 0, 0, ⟨#[]⟩, false⟩ : PaperT)
        have hb5 := below5 (HB10.out) (Nat.le_refl _) (.int .i64 0) (.int .i64 0) (.int .i64 0) (.string ⟨#[]⟩) (.bool false)
        clear c0 f0 c1 f1 c2 f2 c3 f3 c4 f4
        simp only at hz5
        generalize (((((w10.setCell ⟨w.heap.size, 0, none⟩ (.int .i64 0)).setCell ⟨w.heap.size, 1, none⟩ (.int .i64 0)).setCell ⟨w.heap.size, 2, none⟩ (.int .i64 0)).setCell ⟨w.heap.size, 3, none⟩ (.string ⟨#[]⟩)).setCell ⟨w.heap.size, 4, none⟩ (.bool false)) = w99 at *
        have d0 := hz5.cell (j := 0) rfl
        have d1 := hz5.cell (j := 1) rfl
        have d2 := hz5.cell (j := 2) rfl
        have d3 := hz5.cell (j := 3) rfl
        have d4 := hz5.cell (j := 4) rfl
        exact bodyPost_ret (v := .tuple #[(⟨0, 0, 0, ⟨#[]⟩, false⟩ : PaperT).val, .bool false]) (by simp [results, Tryz.results11, go_sem, d0, d1, d2, d3, d4]) rfl ⟨by rw [HF.out]; first | done | rfl, hb5⟩
  · simp at hrl; omega
end Go.Proofs.YtmnlkcclcnnhmaaGreatDoor
