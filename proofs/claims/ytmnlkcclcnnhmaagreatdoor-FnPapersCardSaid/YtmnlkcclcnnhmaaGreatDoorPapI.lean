/- ParsePaper: the program's walk, at any text but three words with wmk in the middle. -/
import Derived.Test.YtmnlkcclcnnhmaaGreatDoorPapP
import Derived.Test.YtmnlkcclcnnhmaaGreatDoorPapD
import Derived.Test.YtmnlkcclcnnhmaaGreatDoorCutS
import Derived.Test.YtmnlkcclcnnhmaaGreatDoorPaperL
namespace Go.Proofs.YtmnlkcclcnnhmaaGreatDoor
open Go.RowKit

theorem below_new (w : World) (o : Obj) : Below w.heap.size w (w.alloc o) := Go.Joins.below_alloc1 w o
theorem implP_short {l : List ByteArray} (h : l.length < 3) : implP l = none := by
  match l, h with
  | [], _ => rfl
  | [_], _ => rfl
  | [_, _], _ => rfl
  | _ :: _ :: _ :: _, h => simp at h; omega
theorem cut3 {l : List ByteArray} (h : 3 ≤ l.length) : ∃ a b c r, l = a :: b :: c :: r := by
  match l, h with
  | a :: b :: c :: r, _ => exact ⟨a, b, c, r, rfl⟩
theorem getD_lt {zs : List ByteArray} {k : Nat} (h : k < zs.length) : zs.getD k ByteArray.empty = zs[k] := by simp [List.getD, h]
theorem row_strs {w : World} {g : Nat} {zs : List ByteArray} (h : RowIs w g 9 (strs zs)) (j : Nat) (hj : j < zs.length) : w.cell? ⟨g, j, none⟩ = some (.string (zs.getD j ByteArray.empty)) := by
  rw [show zs.getD j ByteArray.empty = zs[j] by simp [List.getD, hj]]
  exact h.cell (strs_get hj)
theorem trimU_any (s : ByteArray) (w : World) (hm : s.size ≤ 1048576) : Calls Tryz.prog 35 #[.string s, .string ⟨#[117, 109]⟩] w fun e w' => e = .returned (.string (trimU s)) ∧ w = w' :=
  (Tryz.strings_TrimSuffix s ⟨#[117, 109]⟩ w (by omega)).mono fun _ _ ⟨he, hw⟩ => ⟨he, hw.symm⟩
theorem trimT_any (s : ByteArray) (w : World) : Calls Tryz.prog 36 #[.string s, .string ⟨#[116]⟩] w fun e w' => e = .returned (.string (trimT s)) ∧ w = w' :=
  (Tryz.strings_TrimPrefix s ⟨#[116]⟩ w).mono fun _ _ ⟨he, hw⟩ => ⟨he, hw.symm⟩
theorem containsP_any (g m c : Nat) (x0 x1 x2 : ByteArray) (r : List ByteArray) (w : World) (hr : RowIs w g 9 (strs (x0 :: x1 :: x2 :: r))) (hm : m = r.length) (hl : r.length ≤ 2097152) :
    Calls Tryz.prog 37 #[.slice (some ⟨g, 3, none⟩) m c, .string ⟨#[108, 97, 105, 100]⟩] w fun e w' => e = .returned (.bool (Lib.containsS r laid4)) ∧ w = w' := by
  subst hm
  have h := Tryz.slices_Contains_string g 3 r.length c r laid4 w (Nat.le_refl _) (by omega) (fun j hj => by
    have := row_strs hr (3 + j) (by simp; omega)
    rw [this, show 3 + j = j + 1 + 1 + 1 by omega]
    simp)
  rw [List.take_of_length_le (Nat.le_refl _)] at h
  exact h.mono fun _ _ ⟨he, hw⟩ => ⟨he, hw.symm⟩
theorem indexP_any (g c : Nat) (l : List ByteArray) (n : Nat) (w : World) (hr : RowIs w g 9 (strs l)) (hn : n = l.length) (hl : n ≤ 2097152) :
    Calls Tryz.prog 38 #[.slice (some ⟨g, 0, none⟩) n c, .string ⟨#[119, 109, 107]⟩] w fun e w' => e = .returned (.int .i64 (Lib.idxOfS l wmk3)) ∧ w = w' := by
  subst hn
  have h := Tryz.slices_Index_string g 0 l.length c l wmk3 w (Nat.le_refl _) (by omega) (fun j hj => by
    rw [Nat.zero_add]; exact row_strs hr j hj)
  rw [List.take_of_length_le (Nat.le_refl _)] at h
  exact h.mono fun _ _ ⟨he, hw⟩ => ⟨he, hw.symm⟩
theorem idxFrom_bd (x : ByteArray) : ∀ (l : List ByteArray) (i : Nat), Lib.idxFromS l x i = -1 ∨ ∃ k, k < l.length ∧ Lib.idxFromS l x i = ((i + k : Nat) : Int) ∧ l[k]? = some x
  | [], _ => .inl rfl
  | z :: l, i => by
    by_cases h : z = x
    · subst h
      right
      exact ⟨0, by simp, idx_at _ _ _, by simp⟩
    · rw [idx_no h]
      rcases idxFrom_bd x l (i + 1) with h1 | ⟨k, h1, h2, h3⟩
      · exact .inl h1
      · exact .inr ⟨k + 1, by simp; omega, by rw [h2]; congr 1; omega, by simpa using h3⟩
theorem idx_bd (x : ByteArray) (l : List ByteArray) : Lib.idxOfS l x = -1 ∨ ∃ k : Nat, k < l.length ∧ Lib.idxOfS l x = (k : Int) ∧ l[k]? = some x := by
  rcases idxFrom_bd x l 0 with h | ⟨k, h1, h2, h3⟩
  · exact .inl h
  · exact .inr ⟨k, h1, by rw [Lib.idxOfS, h2]; congr 1; omega, h3⟩
/-- where a watermark is named there are four words at least -/
theorem mark_four {s : ByteArray} {x0 x1 x2 : ByteArray} {r : List ByteArray} (hs : splitF s 32 = x0 :: x1 :: x2 :: r) (hb : ¬ Bad s) (h : markB (x0 :: x1 :: x2 :: r) = true) : 0 < r.length ∧ Lib.idxOfS (x0 :: x1 :: x2 :: r) wmk3 = ((r.length + 1 : Nat) : Int) := by
  simp only [markB, Bool.and_eq_true, decide_eq_true_eq, List.length_cons] at h
  obtain ⟨h0, h1⟩ := h
  refine ⟨?_, by omega⟩
  rcases Nat.eq_zero_or_pos r.length with h2 | h2
  · exfalso
    have hr : r = [] := List.eq_nil_of_length_eq_zero h2
    subst hr
    rcases idx_bd wmk3 [x0, x1, x2] with h3 | ⟨k, h3, h4, h5⟩
    · omega
    · have : k = 1 := by simp at h1; omega
      subst this
      simp at h5
      exact hb ⟨x0, x2, by rw [hs, h5]⟩
  · exact h2
theorem mark_no {l : List ByteArray} {n : Nat} (hn : n = l.length) (h : markB l = false) : decide (0 ≤ Lib.idxOfS l wmk3) = false ∨ (decide (0 ≤ Lib.idxOfS l wmk3) = true ∧ (Lib.idxOfS l wmk3 == (n : Int) - 2) = false) := by
  subst hn
  simp only [markB] at h
  cases h0 : decide (0 ≤ Lib.idxOfS l wmk3)
  · exact .inl rfl
  · right
    rw [h0] at h
    refine ⟨rfl, ?_⟩
    rw [beq_eq_false_iff_ne]
    simpa using h
set_option maxHeartbeats 8000000 in
set_option maxRecDepth 100000 in
theorem implParseP_any (s : ByteArray) (w : World) (hm : s.size ≤ 1048576) (ht : Tabs w) (hnb : ¬ Bad s) : Calls Tryz.prog 9 #[.string s] w fun e w' => e = .returned (.tuple #[(finP s (implP (splitF s 32))).1.val, .bool (finP s (implP (splitF s 32))).2]) ∧ Below w.heap.size w w' := by
  have BX := Lib.hid (RowIs.new w 25 paper0.cells)
  have B0 := Lib.hid (below_new w (.cells paper0.cells.toArray 25))
  have hg : w.heap.size < (w.alloc (.cells paper0.cells.toArray 25)).heap.size := BX.out.lt
  have e0 : (w.alloc (.cells paper0.cells.toArray 25)) = w.alloc (.cells #[.int .i64 0, .int .i64 0, .int .i64 0, .string ⟨#[]⟩, .bool false] 25) := rfl
  rw [e0] at BX B0 hg
  have HT00 := Lib.hid ht
  have HT := Lib.hid (ht.below B0.out)
  have hS := fun w hx => split_any s 32 w hm hx
  have hle := splitF_le s 32
  obtain ⟨ps, hps⟩ : ∃ ps, ps = splitF s 32 := ⟨_, rfl⟩
  rw [← hps] at hS hle ⊢
  have HPS := Lib.hid hps
  clear hps ht e0
  obtain ⟨n, hn⟩ : ∃ n, n = ps.length := ⟨_, rfl⟩
  rw [← hn] at hS hle
  have HN := Lib.hid hn
  have HS := Lib.hid hS
  clear hS
  by_cases h3 : 3 ≤ n
  rotate_left
  · have hfin : Hid (finP s (implP ps) = (paper0, false)) := Lib.hid (by rw [implP_short (by omega)]; rfl)
    have hb3 : decide ((n : Int) < 3) = true := by simp; omega
    clear hn h3 hnb
    go_enter Tryz.func9, Tryz.ntmps9
    go_wp2_with fail
    generalize w.alloc (.cells #[.int .i64 0, .int .i64 0, .int .i64 0, .string ⟨#[]⟩, .bool false] 25) = w0 at *
    refine (HS.out _ HT.out.mx).mono ?_
    rintro e w1 ⟨rfl, _, hb⟩
    have HB1 := Lib.hid hb
    have HZ := Lib.hid (BX.out.below HB1.out)
    clear hb
    have c0 := HZ.out.cell (j := 0) rfl
    have c1 := HZ.out.cell (j := 1) rfl
    have c2 := HZ.out.cell (j := 2) rfl
    have c3 := HZ.out.cell (j := 3) rfl
    have c4 := HZ.out.cell (j := 4) rfl
    have f0 := HZ.out.free 0
    have f1 := HZ.out.free 1
    have f2 := HZ.out.free 2
    have f3 := HZ.out.free 3
    have f4 := HZ.out.free 4
    go_wp2_with fail
    have hz5 := stored5 (HZ.out) rfl (⟨0, 0, 0, ⟨#[]⟩, false⟩ : PaperT)
    have hb5 := below5 (B0.out.trans (HB1.out.mono B0.out.size)) (Nat.le_refl _) (.int .i64 0) (.int .i64 0) (.int .i64 0) (.string ⟨#[]⟩) (.bool false)
    clear c0 f0 c1 f1 c2 f2 c3 f3 c4 f4
    simp only at hz5
    generalize (((((w1.setCell ⟨w.heap.size, 0, none⟩ (.int .i64 0)).setCell ⟨w.heap.size, 1, none⟩ (.int .i64 0)).setCell ⟨w.heap.size, 2, none⟩ (.int .i64 0)).setCell ⟨w.heap.size, 3, none⟩ (.string ⟨#[]⟩)).setCell ⟨w.heap.size, 4, none⟩ (.bool false)) = w99 at *
    have d0 := hz5.cell (j := 0) rfl
    have d1 := hz5.cell (j := 1) rfl
    have d2 := hz5.cell (j := 2) rfl
    have d3 := hz5.cell (j := 3) rfl
    have d4 := hz5.cell (j := 4) rfl
    exact bodyPost_ret (v := .tuple #[(⟨0, 0, 0, ⟨#[]⟩, false⟩ : PaperT).val, .bool false]) (by simp [results, Tryz.results9, go_sem, d0, d1, d2, d3, d4]) rfl ⟨by rw [hfin.out]; first | done | rfl, hb5⟩
  obtain ⟨x0, x1, x2, r, rfl⟩ := cut3 (l := ps) (by omega)
  have y0 : x0.size ≤ 1048576 := by have := sz_split (z := x0) (s := s) (c := 32) (by rw [← HPS.out]; simp); omega
  have y1 : x1.size ≤ 1048576 := by have := sz_split (z := x1) (s := s) (c := 32) (by rw [← HPS.out]; simp); omega
  have y2 : x2.size ≤ 1048576 := by have := sz_split (z := x2) (s := s) (c := 32) (by rw [← HPS.out]; simp); omega
  have hrl : n = r.length + 3 := by simpa using hn
  have HPS2 := Lib.hid HPS.out.symm
  have HM4 := Lib.hid (mark_four HPS2.out hnb)
  have hP1 := fun w a b c => implParse_any x0 w y0 a b c
  have hP2 := fun w a b c => implParse_any (trimU x1) w (Nat.le_trans (trimU_le x1) y1) a b c
  have hP3 := fun w a b c => implParse_any (trimT x2) w (Nat.le_trans (trimT_le x2) y2) a b c
  have HTU := Lib.hid (fun w => trimU_any x1 w y1)
  have HTT := Lib.hid (fun w => trimT_any x2 w)
  have himp : implP (x0 :: x1 :: x2 :: r) = if (readR x0).2 = true ∧ (readR (trimU x1)).2 = true ∧ (readR (trimT x2)).2 = true then some ⟨(readR x0).1, (readR (trimU x1)).1, (readR (trimT x2)).1, if markB (x0 :: x1 :: x2 :: r) = true then r.getD (r.length - 1) .empty else .empty, if markB (x0 :: x1 :: x2 :: r) = true then (r.getD 0 .empty).toList == laid4.toList else Lib.containsS r laid4⟩ else none := rfl
  generalize trimU x1 = u1 at *
  generalize trimT x2 = u2 at *
  obtain ⟨r1, hr1⟩ : ∃ r1, r1 = readR x0 := ⟨_, rfl⟩
  obtain ⟨r2, hr2⟩ : ∃ r2, r2 = readR u1 := ⟨_, rfl⟩
  obtain ⟨r3, hr3⟩ : ∃ r3, r3 = readR u2 := ⟨_, rfl⟩
  rw [← hr1] at hP1 himp
  rw [← hr2] at hP2 himp
  rw [← hr3] at hP3 himp
  obtain ⟨n1, b1⟩ := r1
  obtain ⟨n2, b2⟩ := r2
  obtain ⟨n3, b3⟩ := r3
  simp only at hP1 hP2 hP3 himp
  have HP1 := Lib.hid hP1
  have HP2 := Lib.hid hP2
  have HP3 := Lib.hid hP3
  have HI := Lib.hid (fun w g c h => indexP_any g c (x0 :: x1 :: x2 :: r) n w h hn (by omega))
  have HMN := Lib.hid (mark_no (n := n) hn)
  clear hP1 hP2 hP3 hr1 hr2 hr3 y0 y1 y2 hn hnb
  -- what the last regions do, from any state of the paper
  have HFIN : Hid (∀ mk ld, implP (x0 :: x1 :: x2 :: r) = (if b1 = true ∧ b2 = true ∧ b3 = true then some ⟨n1, n2, n3, mk, ld⟩ else none) → (b1 = false → finP s (implP (x0 :: x1 :: x2 :: r)) = (paper0, false)) ∧ (b2 = false → finP s (implP (x0 :: x1 :: x2 :: r)) = (paper0, false)) ∧ (b3 = false → finP s (implP (x0 :: x1 :: x2 :: r)) = (paper0, false)) ∧ (b1 = true → b2 = true → b3 = true → finP s (implP (x0 :: x1 :: x2 :: r)) = finP s (some ⟨n1, n2, n3, mk, ld⟩))) := Lib.hid (fun mk ld h => ⟨fun e => by rw [h, if_neg (by rw [e]; simp)]; rfl, fun e => by rw [h, if_neg (by rw [e]; simp)]; rfl, fun e => by rw [h, if_neg (by rw [e]; simp)]; rfl, fun e1 e2 e3 => by rw [h, if_pos ⟨e1, e2, e3⟩]⟩)
  rcases Nat.eq_zero_or_pos r.length with h0 | h0
  · obtain rfl : r = [] := List.eq_nil_of_length_eq_zero h0
    obtain rfl : n = 3 := by simpa using hrl
    have HC : Hid (∀ (w : World) (a : Option Addr) (c : Nat), Calls Tryz.prog 37 #[.slice a 0 c, .string ⟨#[108, 97, 105, 100]⟩] w fun e w' => e = .returned (.bool false) ∧ w = w') := Lib.hid (fun w a c => (Tryz.slices_Contains_string_empty a c laid4 w).mono fun _ _ ⟨he, hw⟩ => ⟨he, hw.symm⟩)
    have hmb : markB [x0, x1, x2] = false := by
      cases h : markB [x0, x1, x2]
      · rfl
      · exact absurd (HM4.out h).1 (by simp)
    have hcb0 : Lib.containsS [] laid4 = false := by decide
    rw [hcb0] at himp
    obtain ⟨cb, hcb⟩ : ∃ cb, cb = false := ⟨_, rfl⟩
    rw [← hcb] at himp HC
    obtain ⟨ix, hix⟩ : ∃ ix, ix = Lib.idxOfS [x0, x1, x2] wmk3 := ⟨_, rfl⟩
    rw [← hix] at HI HM4 HMN
    have HMN : Hid (markB [x0, x1, x2] = false → decide (0 ≤ ix) = false ∨ (decide (0 ≤ ix) = true ∧ (ix == 1) = false)) := Lib.hid (fun h => (HMN.out h).imp id (fun h => ⟨h.1, h.2⟩))
    have HIMP := Lib.hid himp
    clear himp hix hcb hcb0 h0 hrl hle h3
    go_enter Tryz.func9, Tryz.ntmps9
    go_wp2_with fail
    generalize w.alloc (.cells #[.int .i64 0, .int .i64 0, .int .i64 0, .string ⟨#[]⟩, .bool false] 25) = w0 at *
    refine (HS.out _ HT.out.mx).mono ?_
    rintro e w1 ⟨rfl, hrow, hb⟩
    have HB1 := Lib.hid hb
    have HR1 := Lib.hid hrow
    have g1 := HR1.out.lt
    have k0 := HR1.out.cell (j := 0) rfl
    clear hrow hb
    go_wp2_with fail
    refine (HP1.out _ (HT.out.below HB1.out).pow (HT.out.below HB1.out).e1 (HT.out.below HB1.out).e2).mono ?_
    rintro e w2 ⟨rfl, hb⟩
    have HB2 := Lib.hid (HB1.out.trans (hb.mono HB1.out.size))
    have HR2 := Lib.hid (HR1.out.below hb)
    clear hb k0
    have k1 := HR2.out.cell (j := 1) rfl
    go_wp2_with fail
    refine (HTU.out _).mono ?_
    rintro e _ ⟨rfl, rfl⟩
    go_wp2_with fail
    refine (HP2.out _ (HT.out.below HB2.out).pow (HT.out.below HB2.out).e1 (HT.out.below HB2.out).e2).mono ?_
    rintro e w3 ⟨rfl, hb⟩
    have HB3 := Lib.hid (HB2.out.trans (hb.mono HB2.out.size))
    have HR3 := Lib.hid (HR2.out.below hb)
    clear hb k1
    have k2 := HR3.out.cell (j := 2) rfl
    go_wp2_with fail
    refine (HTT.out _).mono ?_
    rintro e _ ⟨rfl, rfl⟩
    go_wp2_with fail
    refine (HP3.out _ (HT.out.below HB3.out).pow (HT.out.below HB3.out).e1 (HT.out.below HB3.out).e2).mono ?_
    rintro e w4 ⟨rfl, hb⟩
    have HB4 := Lib.hid (HB3.out.trans (hb.mono HB3.out.size))
    have HR4 := Lib.hid (HR3.out.below hb)
    clear hb k2
    go_wp2_with fail
    refine (HC.out _ _ _).mono ?_
    rintro e _ ⟨rfl, rfl⟩
    have hbx : RowIs (w4.alloc (.cells #[.int .i64 n1, .int .i64 n2, .int .i64 n3, .string ⟨#[]⟩, .bool cb] 25)) w4.heap.size 25 (⟨n1, n2, n3, .empty, cb⟩ : PaperT).cells := RowIs.new w4 25 (⟨n1, n2, n3, .empty, cb⟩ : PaperT).cells
    have HX5 := Lib.hid hbx
    have HR5 := Lib.hid (HR4.out.alloc (.cells #[.int .i64 n1, .int .i64 n2, .int .i64 n3, .string ⟨#[]⟩, .bool cb] 25))
    have HZ5 := Lib.hid ((BX.out.below HB4.out).alloc (.cells #[.int .i64 n1, .int .i64 n2, .int .i64 n3, .string ⟨#[]⟩, .bool cb] 25))
    have HB5 : Hid (Below w.heap.size w (w4.alloc (.cells #[.int .i64 n1, .int .i64 n2, .int .i64 n3, .string ⟨#[]⟩, .bool cb] 25))) := Lib.hid ((B0.out.trans (HB4.out.mono B0.out.size)).alloc (show w.heap.size ≤ w4.heap.size by have := B0.out.size; have := HB4.out.size; omega) _)
    have HBO := Lib.hid (Go.Joins.below_alloc1 w4 (.cells #[.int .i64 n1, .int .i64 n2, .int .i64 n3, .string ⟨#[]⟩, .bool cb] 25))
    have HT5 : Hid (Tabs (w4.alloc (.cells #[.int .i64 n1, .int .i64 n2, .int .i64 n3, .string ⟨#[]⟩, .bool cb] 25))) := Lib.hid ((HT.out.below HB4.out).below HBO.out)
    have hne : w.heap.size ≠ w4.heap.size := by have := B0.out.size; have := HB4.out.size; omega
    have hle4 : w.heap.size ≤ w4.heap.size := by have := B0.out.size; have := HB4.out.size; omega
    have hne2 : w0.heap.size ≠ w4.heap.size := by have := HR4.out.lt; omega
    clear hbx
    go_wp2_with fail
    generalize w4.alloc (.cells #[.int .i64 n1, .int .i64 n2, .int .i64 n3, .string ⟨#[]⟩, .bool cb] 25) = w5 at *
    refine (HI.out _ _ _ HR5.out).mono ?_
    rintro e _ ⟨rfl, rfl⟩
    clear HS HC HI HP1 HP2 HP3 HTU HTT HR1 HR2 HR3 HR4 HB1 HB2 HB3 HB4 HT BX B0 HBO
    have hno := HMN.out hmb
    obtain ⟨mk, hmk⟩ : ∃ mk : ByteArray, mk = .empty := ⟨_, rfl⟩
    obtain ⟨ld, hld⟩ : ∃ ld : Bool, ld = cb := ⟨_, rfl⟩
    have HMZ : Hid (mk.size ≤ maxLen) := Lib.hid (by rw [hmk]; decide)
    have hyp : implP [x0, x1, x2] = (if b1 = true ∧ b2 = true ∧ b3 = true then some ⟨n1, n2, n3, mk, ld⟩ else none) := by rw [HIMP.out, hmb, hmk, hld]; rfl
    have HQ := Lib.hid (HFIN.out _ _ hyp)
    obtain ⟨wb, hwb⟩ : ∃ wb, wb = w5 := ⟨_, rfl⟩
    have HX := HX5
    rw [← hmk, ← hld] at HX
    have HZ := HZ5
    have HB := HB5
    have HTB := HT5
    clear hyp HMN HM4 HFIN HIMP hmb HX5 HZ5 HB5 HT5 HR5 hmk
    subst hwb hld
    rcases hno with hno | ⟨hno, hno2⟩
    all_goals
      skip
      by_cases hall : b1 = true ∧ b2 = true ∧ b3 = true
      rotate_left
      · have hall2 : b1 = false ∨ (b1 = true ∧ b2 = false) ∨ (b1 = true ∧ b2 = true ∧ b3 = false) := by revert hall; cases b1 <;> cases b2 <;> cases b3 <;> simp
        have HF : Hid (finP s (implP [x0, x1, x2]) = (paper0, false)) := Lib.hid (hall2.elim HQ.out.1 (fun h => h.elim (fun h => HQ.out.2.1 h.2) (fun h => HQ.out.2.2.1 h.2.2)))
        clear hall HQ
        have c0 := HZ.out.cell (j := 0) rfl
        have c1 := HZ.out.cell (j := 1) rfl
        have c2 := HZ.out.cell (j := 2) rfl
        have c3 := HZ.out.cell (j := 3) rfl
        have c4 := HZ.out.cell (j := 4) rfl
        have f0 := HZ.out.free 0
        have f1 := HZ.out.free 1
        have f2 := HZ.out.free 2
        have f3 := HZ.out.free 3
        have f4 := HZ.out.free 4
        rcases hall2 with rfl | ⟨rfl, rfl⟩ | ⟨rfl, rfl, rfl⟩
        all_goals
          go_wp2_with fail
          have hz5 := stored5 (HZ.out) rfl (⟨0, 0, 0, ⟨#[]⟩, false⟩ : PaperT)
          have hb5 := below5 (HB.out) (Nat.le_refl _) (.int .i64 0) (.int .i64 0) (.int .i64 0) (.string ⟨#[]⟩) (.bool false)
          clear c0 f0 c1 f1 c2 f2 c3 f3 c4 f4
          simp only at hz5
          generalize (((((wb.setCell ⟨w.heap.size, 0, none⟩ (.int .i64 0)).setCell ⟨w.heap.size, 1, none⟩ (.int .i64 0)).setCell ⟨w.heap.size, 2, none⟩ (.int .i64 0)).setCell ⟨w.heap.size, 3, none⟩ (.string ⟨#[]⟩)).setCell ⟨w.heap.size, 4, none⟩ (.bool false)) = w99 at *
          have d0 := hz5.cell (j := 0) rfl
          have d1 := hz5.cell (j := 1) rfl
          have d2 := hz5.cell (j := 2) rfl
          have d3 := hz5.cell (j := 3) rfl
          have d4 := hz5.cell (j := 4) rfl
          exact bodyPost_ret (v := .tuple #[(⟨0, 0, 0, ⟨#[]⟩, false⟩ : PaperT).val, .bool false]) (by simp [results, Tryz.results9, go_sem, d0, d1, d2, d3, d4]) rfl ⟨by rw [HF.out]; first | done | rfl, hb5⟩
      obtain ⟨rfl, rfl, rfl⟩ := hall
      have hQ4 := HQ.out.2.2.2 rfl rfl rfl
      have hI := fun w => isPaper_any ⟨n1, n2, n3, mk, ld⟩ w (HMZ.out)
      clear HQ
      cases hst : paperOk ⟨n1, n2, n3, mk, ld⟩
      · rw [hst] at hI
        have HI := Lib.hid hI
        have HF : Hid (finP s (implP [x0, x1, x2]) = (paper0, false)) := Lib.hid (by rw [hQ4, finP, if_neg (by rw [hst]; simp)])
        clear hI hst hQ4
        have a0 := HX.out.cell (j := 0) rfl
        have a1 := HX.out.cell (j := 1) rfl
        have a2 := HX.out.cell (j := 2) rfl
        have a3 := HX.out.cell (j := 3) rfl
        have a4 := HX.out.cell (j := 4) rfl
        go_wp2_with fail
        refine (HI.out _).mono ?_
        rintro e w8 ⟨rfl, hb⟩
        have HZ8 := Lib.hid (HZ.out.below hb)
        have HX8 := Lib.hid (HX.out.below hb)
        have HB8 := Lib.hid (HB.out.trans (hb.mono HB.out.size))
        clear hb a0 a1 a2 a3 a4
        have c0 := HZ8.out.cell (j := 0) rfl
        have c1 := HZ8.out.cell (j := 1) rfl
        have c2 := HZ8.out.cell (j := 2) rfl
        have c3 := HZ8.out.cell (j := 3) rfl
        have c4 := HZ8.out.cell (j := 4) rfl
        have f0 := HZ8.out.free 0
        have f1 := HZ8.out.free 1
        have f2 := HZ8.out.free 2
        have f3 := HZ8.out.free 3
        have f4 := HZ8.out.free 4
        go_wp2_with fail
        have hz5 := stored5 (HZ8.out) rfl (⟨0, 0, 0, ⟨#[]⟩, false⟩ : PaperT)
        have hb5 := below5 (HB8.out) (Nat.le_refl _) (.int .i64 0) (.int .i64 0) (.int .i64 0) (.string ⟨#[]⟩) (.bool false)
        clear c0 f0 c1 f1 c2 f2 c3 f3 c4 f4
        simp only at hz5
        generalize (((((w8.setCell ⟨w.heap.size, 0, none⟩ (.int .i64 0)).setCell ⟨w.heap.size, 1, none⟩ (.int .i64 0)).setCell ⟨w.heap.size, 2, none⟩ (.int .i64 0)).setCell ⟨w.heap.size, 3, none⟩ (.string ⟨#[]⟩)).setCell ⟨w.heap.size, 4, none⟩ (.bool false)) = w99 at *
        have d0 := hz5.cell (j := 0) rfl
        have d1 := hz5.cell (j := 1) rfl
        have d2 := hz5.cell (j := 2) rfl
        have d3 := hz5.cell (j := 3) rfl
        have d4 := hz5.cell (j := 4) rfl
        exact bodyPost_ret (v := .tuple #[(⟨0, 0, 0, ⟨#[]⟩, false⟩ : PaperT).val, .bool false]) (by simp [results, Tryz.results9, go_sem, d0, d1, d2, d3, d4]) rfl ⟨by rw [HF.out]; first | done | rfl, hb5⟩
      · have hX := fun w h => paperText_any ⟨n1, n2, n3, mk, ld⟩ hst w h
        rw [hst] at hI
        have HI := Lib.hid hI
        have HX0 := Lib.hid hX
        have a0 := HX.out.cell (j := 0) rfl
        have a1 := HX.out.cell (j := 1) rfl
        have a2 := HX.out.cell (j := 2) rfl
        have a3 := HX.out.cell (j := 3) rfl
        have a4 := HX.out.cell (j := 4) rfl
        by_cases hts : pt3 ⟨n1, n2, n3, mk, ld⟩ = s
        · have HF : Hid (finP s (implP [x0, x1, x2]) = (⟨n1, n2, n3, mk, ld⟩, true)) := Lib.hid (by rw [hQ4, finP, if_pos ⟨hst, hts⟩])
          have hbq := str_beq hts
          clear hI hX hst hts hQ4
          generalize pt3 ⟨n1, n2, n3, mk, ld⟩ = tx at *
          go_wp2_with fail
          refine (HI.out _).mono ?_
          rintro e w8 ⟨rfl, hb⟩
          have HZ8 := Lib.hid (HZ.out.below hb)
          have HX8 := Lib.hid (HX.out.below hb)
          have HB8 := Lib.hid (HB.out.trans (hb.mono HB.out.size))
          have HT8 := Lib.hid (HTB.out.below hb)
          clear hb a0 a1 a2 a3 a4
          have a0 := HX8.out.cell (j := 0) rfl
          have a1 := HX8.out.cell (j := 1) rfl
          have a2 := HX8.out.cell (j := 2) rfl
          have a3 := HX8.out.cell (j := 3) rfl
          have a4 := HX8.out.cell (j := 4) rfl
          go_wp2_with fail
          refine (HX0.out _ HT8.out.pow).mono ?_
          rintro e w10 ⟨rfl, hb⟩
          have HZ10 := Lib.hid (HZ8.out.below hb)
          have HX10 := Lib.hid (HX8.out.below hb)
          have HB10 := Lib.hid (HB8.out.trans (hb.mono HB8.out.size))
          clear hb a0 a1 a2 a3 a4
          have a0 := HX10.out.cell (j := 0) rfl
          have a1 := HX10.out.cell (j := 1) rfl
          have a2 := HX10.out.cell (j := 2) rfl
          have a3 := HX10.out.cell (j := 3) rfl
          have a4 := HX10.out.cell (j := 4) rfl
          have c0 := HZ10.out.cell (j := 0) rfl
          have c1 := HZ10.out.cell (j := 1) rfl
          have c2 := HZ10.out.cell (j := 2) rfl
          have c3 := HZ10.out.cell (j := 3) rfl
          have c4 := HZ10.out.cell (j := 4) rfl
          have f0 := HZ10.out.free 0
          have f1 := HZ10.out.free 1
          have f2 := HZ10.out.free 2
          have f3 := HZ10.out.free 3
          have f4 := HZ10.out.free 4
          go_wp2_with fail
          have hz5 := stored5 (HZ10.out) rfl (⟨n1, n2, n3, mk, ld⟩ : PaperT)
          have hb5 := below5 (HB10.out) (Nat.le_refl _) (.int .i64 n1) (.int .i64 n2) (.int .i64 n3) (.string mk) (.bool ld)
          clear c0 f0 c1 f1 c2 f2 c3 f3 c4 f4
          simp only at hz5
          generalize (((((w10.setCell ⟨w.heap.size, 0, none⟩ (.int .i64 n1)).setCell ⟨w.heap.size, 1, none⟩ (.int .i64 n2)).setCell ⟨w.heap.size, 2, none⟩ (.int .i64 n3)).setCell ⟨w.heap.size, 3, none⟩ (.string mk)).setCell ⟨w.heap.size, 4, none⟩ (.bool ld)) = w99 at *
          have d0 := hz5.cell (j := 0) rfl
          have d1 := hz5.cell (j := 1) rfl
          have d2 := hz5.cell (j := 2) rfl
          have d3 := hz5.cell (j := 3) rfl
          have d4 := hz5.cell (j := 4) rfl
          exact bodyPost_ret (v := .tuple #[(⟨n1, n2, n3, mk, ld⟩ : PaperT).val, .bool true]) (by simp [results, Tryz.results9, go_sem, d0, d1, d2, d3, d4]) rfl ⟨by rw [HF.out]; first | done | rfl, hb5⟩
        · have HF : Hid (finP s (implP [x0, x1, x2]) = (paper0, false)) := Lib.hid (by rw [hQ4, finP, if_neg (fun h => hts h.2)])
          have hbq := str_bne hts
          clear hI hX hst hts hQ4
          generalize pt3 ⟨n1, n2, n3, mk, ld⟩ = tx at *
          go_wp2_with fail
          refine (HI.out _).mono ?_
          rintro e w8 ⟨rfl, hb⟩
          have HZ8 := Lib.hid (HZ.out.below hb)
          have HX8 := Lib.hid (HX.out.below hb)
          have HB8 := Lib.hid (HB.out.trans (hb.mono HB.out.size))
          have HT8 := Lib.hid (HTB.out.below hb)
          clear hb a0 a1 a2 a3 a4
          have a0 := HX8.out.cell (j := 0) rfl
          have a1 := HX8.out.cell (j := 1) rfl
          have a2 := HX8.out.cell (j := 2) rfl
          have a3 := HX8.out.cell (j := 3) rfl
          have a4 := HX8.out.cell (j := 4) rfl
          go_wp2_with fail
          refine (HX0.out _ HT8.out.pow).mono ?_
          rintro e w10 ⟨rfl, hb⟩
          have HZ10 := Lib.hid (HZ8.out.below hb)
          have HX10 := Lib.hid (HX8.out.below hb)
          have HB10 := Lib.hid (HB8.out.trans (hb.mono HB8.out.size))
          clear hb a0 a1 a2 a3 a4
          have a0 := HX10.out.cell (j := 0) rfl
          have a1 := HX10.out.cell (j := 1) rfl
          have a2 := HX10.out.cell (j := 2) rfl
          have a3 := HX10.out.cell (j := 3) rfl
          have a4 := HX10.out.cell (j := 4) rfl
          have c0 := HZ10.out.cell (j := 0) rfl
          have c1 := HZ10.out.cell (j := 1) rfl
          have c2 := HZ10.out.cell (j := 2) rfl
          have c3 := HZ10.out.cell (j := 3) rfl
          have c4 := HZ10.out.cell (j := 4) rfl
          have f0 := HZ10.out.free 0
          have f1 := HZ10.out.free 1
          have f2 := HZ10.out.free 2
          have f3 := HZ10.out.free 3
          have f4 := HZ10.out.free 4
          go_wp2_with fail
          have hz5 := stored5 (HZ10.out) rfl (⟨0, 0, 0, ⟨#[]⟩, false⟩ : PaperT)
          have hb5 := below5 (HB10.out) (Nat.le_refl _) (.int .i64 0) (.int .i64 0) (.int .i64 0) (.string ⟨#[]⟩) (.bool false)
          clear c0 f0 c1 f1 c2 f2 c3 f3 c4 f4
          simp only at hz5
          generalize (((((w10.setCell ⟨w.heap.size, 0, none⟩ (.int .i64 0)).setCell ⟨w.heap.size, 1, none⟩ (.int .i64 0)).setCell ⟨w.heap.size, 2, none⟩ (.int .i64 0)).setCell ⟨w.heap.size, 3, none⟩ (.string ⟨#[]⟩)).setCell ⟨w.heap.size, 4, none⟩ (.bool false)) = w99 at *
          have d0 := hz5.cell (j := 0) rfl
          have d1 := hz5.cell (j := 1) rfl
          have d2 := hz5.cell (j := 2) rfl
          have d3 := hz5.cell (j := 3) rfl
          have d4 := hz5.cell (j := 4) rfl
          exact bodyPost_ret (v := .tuple #[(⟨0, 0, 0, ⟨#[]⟩, false⟩ : PaperT).val, .bool false]) (by simp [results, Tryz.results9, go_sem, d0, d1, d2, d3, d4]) rfl ⟨by rw [HF.out]; first | done | rfl, hb5⟩
  · have HC := Lib.hid (fun w g c h => containsP_any g (n - 3) c x0 x1 x2 r w h (by omega) (by omega))
    obtain ⟨cb, hcb⟩ : ∃ cb, cb = Lib.containsS r laid4 := ⟨_, rfl⟩
    obtain ⟨ix, hix⟩ : ∃ ix, ix = Lib.idxOfS (x0 :: x1 :: x2 :: r) wmk3 := ⟨_, rfl⟩
    rw [← hcb] at himp HC
    rw [← hix] at HI HM4 HMN
    have HIMP := Lib.hid himp
    have HRL := Lib.hid hrl
    have n0 : (0 : Int) < (n : Int) := by omega
    have n0b : (1 : Int) < (n : Int) := by omega
    have n0c : (2 : Int) < (n : Int) := by omega
    have n3b : (3 : Int) ≤ (n : Int) := by omega
    have n3c : (3 : Int) < (n : Int) := by omega
    have n3d : 3 < n := by omega
    have hb3 : decide ((n : Int) < 3) = false := by simp; omega
    clear himp hix hcb h0 hrl
    go_enter Tryz.func9, Tryz.ntmps9
    go_wp2_with fail
    generalize w.alloc (.cells #[.int .i64 0, .int .i64 0, .int .i64 0, .string ⟨#[]⟩, .bool false] 25) = w0 at *
    refine (HS.out _ HT.out.mx).mono ?_
    rintro e w1 ⟨rfl, hrow, hb⟩
    have HB1 := Lib.hid hb
    have HR1 := Lib.hid hrow
    have g1 := HR1.out.lt
    have k0 := HR1.out.cell (j := 0) rfl
    clear hrow hb
    go_wp2_with fail
    refine (HP1.out _ (HT.out.below HB1.out).pow (HT.out.below HB1.out).e1 (HT.out.below HB1.out).e2).mono ?_
    rintro e w2 ⟨rfl, hb⟩
    have HB2 := Lib.hid (HB1.out.trans (hb.mono HB1.out.size))
    have HR2 := Lib.hid (HR1.out.below hb)
    clear hb k0
    have k1 := HR2.out.cell (j := 1) rfl
    go_wp2_with fail
    refine (HTU.out _).mono ?_
    rintro e _ ⟨rfl, rfl⟩
    go_wp2_with fail
    refine (HP2.out _ (HT.out.below HB2.out).pow (HT.out.below HB2.out).e1 (HT.out.below HB2.out).e2).mono ?_
    rintro e w3 ⟨rfl, hb⟩
    have HB3 := Lib.hid (HB2.out.trans (hb.mono HB2.out.size))
    have HR3 := Lib.hid (HR2.out.below hb)
    clear hb k1
    have k2 := HR3.out.cell (j := 2) rfl
    go_wp2_with fail
    refine (HTT.out _).mono ?_
    rintro e _ ⟨rfl, rfl⟩
    go_wp2_with fail
    refine (HP3.out _ (HT.out.below HB3.out).pow (HT.out.below HB3.out).e1 (HT.out.below HB3.out).e2).mono ?_
    rintro e w4 ⟨rfl, hb⟩
    have HB4 := Lib.hid (HB3.out.trans (hb.mono HB3.out.size))
    have HR4 := Lib.hid (HR3.out.below hb)
    clear hb k2
    go_wp2_with fail
    refine (HC.out _ _ _ HR4.out).mono ?_
    rintro e _ ⟨rfl, rfl⟩
    have hbx : RowIs (w4.alloc (.cells #[.int .i64 n1, .int .i64 n2, .int .i64 n3, .string ⟨#[]⟩, .bool cb] 25)) w4.heap.size 25 (⟨n1, n2, n3, .empty, cb⟩ : PaperT).cells := RowIs.new w4 25 (⟨n1, n2, n3, .empty, cb⟩ : PaperT).cells
    have HX5 := Lib.hid hbx
    have HR5 := Lib.hid (HR4.out.alloc (.cells #[.int .i64 n1, .int .i64 n2, .int .i64 n3, .string ⟨#[]⟩, .bool cb] 25))
    have HZ5 := Lib.hid ((BX.out.below HB4.out).alloc (.cells #[.int .i64 n1, .int .i64 n2, .int .i64 n3, .string ⟨#[]⟩, .bool cb] 25))
    have HB5 : Hid (Below w.heap.size w (w4.alloc (.cells #[.int .i64 n1, .int .i64 n2, .int .i64 n3, .string ⟨#[]⟩, .bool cb] 25))) := Lib.hid ((B0.out.trans (HB4.out.mono B0.out.size)).alloc (show w.heap.size ≤ w4.heap.size by have := B0.out.size; have := HB4.out.size; omega) _)
    have HBO := Lib.hid (Go.Joins.below_alloc1 w4 (.cells #[.int .i64 n1, .int .i64 n2, .int .i64 n3, .string ⟨#[]⟩, .bool cb] 25))
    have HT5 : Hid (Tabs (w4.alloc (.cells #[.int .i64 n1, .int .i64 n2, .int .i64 n3, .string ⟨#[]⟩, .bool cb] 25))) := Lib.hid ((HT.out.below HB4.out).below HBO.out)
    have hne : w.heap.size ≠ w4.heap.size := by have := B0.out.size; have := HB4.out.size; omega
    have hle4 : w.heap.size ≤ w4.heap.size := by have := B0.out.size; have := HB4.out.size; omega
    have hne2 : w0.heap.size ≠ w4.heap.size := by have := HR4.out.lt; omega
    clear hbx
    go_wp2_with fail
    generalize w4.alloc (.cells #[.int .i64 n1, .int .i64 n2, .int .i64 n3, .string ⟨#[]⟩, .bool cb] 25) = w5 at *
    refine (HI.out _ _ _ HR5.out).mono ?_
    rintro e _ ⟨rfl, rfl⟩
    clear HS HC HI HP1 HP2 HP3 HTU HTT HR1 HR2 HR3 HR4 HB1 HB2 HB3 HB4 HT BX B0 HBO
    cases hmb : markB (x0 :: x1 :: x2 :: r)
    · skip
      have hno := HMN.out hmb
      obtain ⟨mk, hmk⟩ : ∃ mk : ByteArray, mk = .empty := ⟨_, rfl⟩
      obtain ⟨ld, hld⟩ : ∃ ld : Bool, ld = cb := ⟨_, rfl⟩
      have HMZ : Hid (mk.size ≤ maxLen) := Lib.hid (by rw [hmk]; decide)
      have hyp : implP (x0 :: x1 :: x2 :: r) = (if b1 = true ∧ b2 = true ∧ b3 = true then some ⟨n1, n2, n3, mk, ld⟩ else none) := by rw [HIMP.out, hmb, hmk, hld]; rfl
      have HQ := Lib.hid (HFIN.out _ _ hyp)
      obtain ⟨wb, hwb⟩ : ∃ wb, wb = w5 := ⟨_, rfl⟩
      have HX := HX5
      rw [← hmk, ← hld] at HX
      have HZ := HZ5
      have HB := HB5
      have HTB := HT5
      clear hyp HMN HM4 HFIN HIMP hmb HX5 HZ5 HB5 HT5 HR5 hmk
      subst hwb hld
      rcases hno with hno | ⟨hno, hno2⟩
      all_goals
        have hw2 : IntKind.i64.wrap ((n : Int) - 2) = (n : Int) - 2 := IntWalk.i64_in _ (by omega)
        by_cases hall : b1 = true ∧ b2 = true ∧ b3 = true
        rotate_left
        · have hall2 : b1 = false ∨ (b1 = true ∧ b2 = false) ∨ (b1 = true ∧ b2 = true ∧ b3 = false) := by revert hall; cases b1 <;> cases b2 <;> cases b3 <;> simp
          have HF : Hid (finP s (implP (x0 :: x1 :: x2 :: r)) = (paper0, false)) := Lib.hid (hall2.elim HQ.out.1 (fun h => h.elim (fun h => HQ.out.2.1 h.2) (fun h => HQ.out.2.2.1 h.2.2)))
          clear hall HQ
          have c0 := HZ.out.cell (j := 0) rfl
          have c1 := HZ.out.cell (j := 1) rfl
          have c2 := HZ.out.cell (j := 2) rfl
          have c3 := HZ.out.cell (j := 3) rfl
          have c4 := HZ.out.cell (j := 4) rfl
          have f0 := HZ.out.free 0
          have f1 := HZ.out.free 1
          have f2 := HZ.out.free 2
          have f3 := HZ.out.free 3
          have f4 := HZ.out.free 4
          rcases hall2 with rfl | ⟨rfl, rfl⟩ | ⟨rfl, rfl, rfl⟩
          all_goals
            go_wp2_with fail
            have hz5 := stored5 (HZ.out) rfl (⟨0, 0, 0, ⟨#[]⟩, false⟩ : PaperT)
            have hb5 := below5 (HB.out) (Nat.le_refl _) (.int .i64 0) (.int .i64 0) (.int .i64 0) (.string ⟨#[]⟩) (.bool false)
            clear c0 f0 c1 f1 c2 f2 c3 f3 c4 f4
            simp only at hz5
            generalize (((((wb.setCell ⟨w.heap.size, 0, none⟩ (.int .i64 0)).setCell ⟨w.heap.size, 1, none⟩ (.int .i64 0)).setCell ⟨w.heap.size, 2, none⟩ (.int .i64 0)).setCell ⟨w.heap.size, 3, none⟩ (.string ⟨#[]⟩)).setCell ⟨w.heap.size, 4, none⟩ (.bool false)) = w99 at *
            have d0 := hz5.cell (j := 0) rfl
            have d1 := hz5.cell (j := 1) rfl
            have d2 := hz5.cell (j := 2) rfl
            have d3 := hz5.cell (j := 3) rfl
            have d4 := hz5.cell (j := 4) rfl
            exact bodyPost_ret (v := .tuple #[(⟨0, 0, 0, ⟨#[]⟩, false⟩ : PaperT).val, .bool false]) (by simp [results, Tryz.results9, go_sem, d0, d1, d2, d3, d4]) rfl ⟨by rw [HF.out]; first | done | rfl, hb5⟩
        obtain ⟨rfl, rfl, rfl⟩ := hall
        have hQ4 := HQ.out.2.2.2 rfl rfl rfl
        have hI := fun w => isPaper_any ⟨n1, n2, n3, mk, ld⟩ w (HMZ.out)
        clear HQ
        cases hst : paperOk ⟨n1, n2, n3, mk, ld⟩
        · rw [hst] at hI
          have HI := Lib.hid hI
          have HF : Hid (finP s (implP (x0 :: x1 :: x2 :: r)) = (paper0, false)) := Lib.hid (by rw [hQ4, finP, if_neg (by rw [hst]; simp)])
          clear hI hst hQ4
          have a0 := HX.out.cell (j := 0) rfl
          have a1 := HX.out.cell (j := 1) rfl
          have a2 := HX.out.cell (j := 2) rfl
          have a3 := HX.out.cell (j := 3) rfl
          have a4 := HX.out.cell (j := 4) rfl
          go_wp2_with fail
          refine (HI.out _).mono ?_
          rintro e w8 ⟨rfl, hb⟩
          have HZ8 := Lib.hid (HZ.out.below hb)
          have HX8 := Lib.hid (HX.out.below hb)
          have HB8 := Lib.hid (HB.out.trans (hb.mono HB.out.size))
          clear hb a0 a1 a2 a3 a4
          have c0 := HZ8.out.cell (j := 0) rfl
          have c1 := HZ8.out.cell (j := 1) rfl
          have c2 := HZ8.out.cell (j := 2) rfl
          have c3 := HZ8.out.cell (j := 3) rfl
          have c4 := HZ8.out.cell (j := 4) rfl
          have f0 := HZ8.out.free 0
          have f1 := HZ8.out.free 1
          have f2 := HZ8.out.free 2
          have f3 := HZ8.out.free 3
          have f4 := HZ8.out.free 4
          go_wp2_with fail
          have hz5 := stored5 (HZ8.out) rfl (⟨0, 0, 0, ⟨#[]⟩, false⟩ : PaperT)
          have hb5 := below5 (HB8.out) (Nat.le_refl _) (.int .i64 0) (.int .i64 0) (.int .i64 0) (.string ⟨#[]⟩) (.bool false)
          clear c0 f0 c1 f1 c2 f2 c3 f3 c4 f4
          simp only at hz5
          generalize (((((w8.setCell ⟨w.heap.size, 0, none⟩ (.int .i64 0)).setCell ⟨w.heap.size, 1, none⟩ (.int .i64 0)).setCell ⟨w.heap.size, 2, none⟩ (.int .i64 0)).setCell ⟨w.heap.size, 3, none⟩ (.string ⟨#[]⟩)).setCell ⟨w.heap.size, 4, none⟩ (.bool false)) = w99 at *
          have d0 := hz5.cell (j := 0) rfl
          have d1 := hz5.cell (j := 1) rfl
          have d2 := hz5.cell (j := 2) rfl
          have d3 := hz5.cell (j := 3) rfl
          have d4 := hz5.cell (j := 4) rfl
          exact bodyPost_ret (v := .tuple #[(⟨0, 0, 0, ⟨#[]⟩, false⟩ : PaperT).val, .bool false]) (by simp [results, Tryz.results9, go_sem, d0, d1, d2, d3, d4]) rfl ⟨by rw [HF.out]; first | done | rfl, hb5⟩
        · have hX := fun w h => paperText_any ⟨n1, n2, n3, mk, ld⟩ hst w h
          rw [hst] at hI
          have HI := Lib.hid hI
          have HX0 := Lib.hid hX
          have a0 := HX.out.cell (j := 0) rfl
          have a1 := HX.out.cell (j := 1) rfl
          have a2 := HX.out.cell (j := 2) rfl
          have a3 := HX.out.cell (j := 3) rfl
          have a4 := HX.out.cell (j := 4) rfl
          by_cases hts : pt3 ⟨n1, n2, n3, mk, ld⟩ = s
          · have HF : Hid (finP s (implP (x0 :: x1 :: x2 :: r)) = (⟨n1, n2, n3, mk, ld⟩, true)) := Lib.hid (by rw [hQ4, finP, if_pos ⟨hst, hts⟩])
            have hbq := str_beq hts
            clear hI hX hst hts hQ4
            generalize pt3 ⟨n1, n2, n3, mk, ld⟩ = tx at *
            go_wp2_with fail
            refine (HI.out _).mono ?_
            rintro e w8 ⟨rfl, hb⟩
            have HZ8 := Lib.hid (HZ.out.below hb)
            have HX8 := Lib.hid (HX.out.below hb)
            have HB8 := Lib.hid (HB.out.trans (hb.mono HB.out.size))
            have HT8 := Lib.hid (HTB.out.below hb)
            clear hb a0 a1 a2 a3 a4
            have a0 := HX8.out.cell (j := 0) rfl
            have a1 := HX8.out.cell (j := 1) rfl
            have a2 := HX8.out.cell (j := 2) rfl
            have a3 := HX8.out.cell (j := 3) rfl
            have a4 := HX8.out.cell (j := 4) rfl
            go_wp2_with fail
            refine (HX0.out _ HT8.out.pow).mono ?_
            rintro e w10 ⟨rfl, hb⟩
            have HZ10 := Lib.hid (HZ8.out.below hb)
            have HX10 := Lib.hid (HX8.out.below hb)
            have HB10 := Lib.hid (HB8.out.trans (hb.mono HB8.out.size))
            clear hb a0 a1 a2 a3 a4
            have a0 := HX10.out.cell (j := 0) rfl
            have a1 := HX10.out.cell (j := 1) rfl
            have a2 := HX10.out.cell (j := 2) rfl
            have a3 := HX10.out.cell (j := 3) rfl
            have a4 := HX10.out.cell (j := 4) rfl
            have c0 := HZ10.out.cell (j := 0) rfl
            have c1 := HZ10.out.cell (j := 1) rfl
            have c2 := HZ10.out.cell (j := 2) rfl
            have c3 := HZ10.out.cell (j := 3) rfl
            have c4 := HZ10.out.cell (j := 4) rfl
            have f0 := HZ10.out.free 0
            have f1 := HZ10.out.free 1
            have f2 := HZ10.out.free 2
            have f3 := HZ10.out.free 3
            have f4 := HZ10.out.free 4
            go_wp2_with fail
            have hz5 := stored5 (HZ10.out) rfl (⟨n1, n2, n3, mk, ld⟩ : PaperT)
            have hb5 := below5 (HB10.out) (Nat.le_refl _) (.int .i64 n1) (.int .i64 n2) (.int .i64 n3) (.string mk) (.bool ld)
            clear c0 f0 c1 f1 c2 f2 c3 f3 c4 f4
            simp only at hz5
            generalize (((((w10.setCell ⟨w.heap.size, 0, none⟩ (.int .i64 n1)).setCell ⟨w.heap.size, 1, none⟩ (.int .i64 n2)).setCell ⟨w.heap.size, 2, none⟩ (.int .i64 n3)).setCell ⟨w.heap.size, 3, none⟩ (.string mk)).setCell ⟨w.heap.size, 4, none⟩ (.bool ld)) = w99 at *
            have d0 := hz5.cell (j := 0) rfl
            have d1 := hz5.cell (j := 1) rfl
            have d2 := hz5.cell (j := 2) rfl
            have d3 := hz5.cell (j := 3) rfl
            have d4 := hz5.cell (j := 4) rfl
            exact bodyPost_ret (v := .tuple #[(⟨n1, n2, n3, mk, ld⟩ : PaperT).val, .bool true]) (by simp [results, Tryz.results9, go_sem, d0, d1, d2, d3, d4]) rfl ⟨by rw [HF.out]; first | done | rfl, hb5⟩
          · have HF : Hid (finP s (implP (x0 :: x1 :: x2 :: r)) = (paper0, false)) := Lib.hid (by rw [hQ4, finP, if_neg (fun h => hts h.2)])
            have hbq := str_bne hts
            clear hI hX hst hts hQ4
            generalize pt3 ⟨n1, n2, n3, mk, ld⟩ = tx at *
            go_wp2_with fail
            refine (HI.out _).mono ?_
            rintro e w8 ⟨rfl, hb⟩
            have HZ8 := Lib.hid (HZ.out.below hb)
            have HX8 := Lib.hid (HX.out.below hb)
            have HB8 := Lib.hid (HB.out.trans (hb.mono HB.out.size))
            have HT8 := Lib.hid (HTB.out.below hb)
            clear hb a0 a1 a2 a3 a4
            have a0 := HX8.out.cell (j := 0) rfl
            have a1 := HX8.out.cell (j := 1) rfl
            have a2 := HX8.out.cell (j := 2) rfl
            have a3 := HX8.out.cell (j := 3) rfl
            have a4 := HX8.out.cell (j := 4) rfl
            go_wp2_with fail
            refine (HX0.out _ HT8.out.pow).mono ?_
            rintro e w10 ⟨rfl, hb⟩
            have HZ10 := Lib.hid (HZ8.out.below hb)
            have HX10 := Lib.hid (HX8.out.below hb)
            have HB10 := Lib.hid (HB8.out.trans (hb.mono HB8.out.size))
            clear hb a0 a1 a2 a3 a4
            have a0 := HX10.out.cell (j := 0) rfl
            have a1 := HX10.out.cell (j := 1) rfl
            have a2 := HX10.out.cell (j := 2) rfl
            have a3 := HX10.out.cell (j := 3) rfl
            have a4 := HX10.out.cell (j := 4) rfl
            have c0 := HZ10.out.cell (j := 0) rfl
            have c1 := HZ10.out.cell (j := 1) rfl
            have c2 := HZ10.out.cell (j := 2) rfl
            have c3 := HZ10.out.cell (j := 3) rfl
            have c4 := HZ10.out.cell (j := 4) rfl
            have f0 := HZ10.out.free 0
            have f1 := HZ10.out.free 1
            have f2 := HZ10.out.free 2
            have f3 := HZ10.out.free 3
            have f4 := HZ10.out.free 4
            go_wp2_with fail
            have hz5 := stored5 (HZ10.out) rfl (⟨0, 0, 0, ⟨#[]⟩, false⟩ : PaperT)
            have hb5 := below5 (HB10.out) (Nat.le_refl _) (.int .i64 0) (.int .i64 0) (.int .i64 0) (.string ⟨#[]⟩) (.bool false)
            clear c0 f0 c1 f1 c2 f2 c3 f3 c4 f4
            simp only at hz5
            generalize (((((w10.setCell ⟨w.heap.size, 0, none⟩ (.int .i64 0)).setCell ⟨w.heap.size, 1, none⟩ (.int .i64 0)).setCell ⟨w.heap.size, 2, none⟩ (.int .i64 0)).setCell ⟨w.heap.size, 3, none⟩ (.string ⟨#[]⟩)).setCell ⟨w.heap.size, 4, none⟩ (.bool false)) = w99 at *
            have d0 := hz5.cell (j := 0) rfl
            have d1 := hz5.cell (j := 1) rfl
            have d2 := hz5.cell (j := 2) rfl
            have d3 := hz5.cell (j := 3) rfl
            have d4 := hz5.cell (j := 4) rfl
            exact bodyPost_ret (v := .tuple #[(⟨0, 0, 0, ⟨#[]⟩, false⟩ : PaperT).val, .bool false]) (by simp [results, Tryz.results9, go_sem, d0, d1, d2, d3, d4]) rfl ⟨by rw [HF.out]; first | done | rfl, hb5⟩
    · obtain ⟨hr0, hix⟩ := HM4.out hmb
      obtain ⟨at1, hat⟩ : ∃ at1 : Nat, at1 = r.length + 1 := ⟨_, rfl⟩
      rw [← hat] at hix
      subst hix
      have hrl := HRL.out
      have i1 : decide ((0 : Int) ≤ (at1 : Int)) = true := by simp
      have i2 : ((at1 : Int) == (n : Int) - 2) = true := by rw [beq_iff_eq]; omega
      have i2w : IntKind.i64.wrap ((n : Int) - 2) = (n : Int) - 2 := IntWalk.i64_in _ (by omega)
      obtain ⟨mk, hmk⟩ : ∃ mk : ByteArray, mk = r.getD (r.length - 1) .empty := ⟨_, rfl⟩
      obtain ⟨wd, hwd⟩ : ∃ wd : ByteArray, wd = r.getD 0 .empty := ⟨_, rfl⟩
      obtain ⟨ld, hld⟩ : ∃ ld : Bool, ld = (wd.toList == laid4.toList) := ⟨_, rfl⟩
      have HMZ : Hid (mk.size ≤ maxLen) := Lib.hid (by
        have hin : mk ∈ x0 :: x1 :: x2 :: r := by
          rw [hmk, getD_lt (show r.length - 1 < r.length by omega)]
          exact List.mem_cons_of_mem _ (List.mem_cons_of_mem _ (List.mem_cons_of_mem _ (List.getElem_mem _)))
        have := sz_split (z := mk) (s := s) (c := 32) (by rw [HPS2.out]; exact hin)
        unfold maxLen; omega)
      have hyp : implP (x0 :: x1 :: x2 :: r) = (if b1 = true ∧ b2 = true ∧ b3 = true then some ⟨n1, n2, n3, mk, ld⟩ else none) := by rw [HIMP.out, hmb, hmk, hld, hwd]; rfl
      have HQ := Lib.hid (HFIN.out _ _ hyp)
      obtain ⟨q, hq⟩ : ∃ q : Nat, q = r.length + 2 := ⟨_, rfl⟩
      have k3 : w5.cell? ⟨w0.heap.size, q, none⟩ = some (.string mk) := by
        have := row_strs HR5.out q (by simp; omega)
        rw [this, hmk, hq]
        obtain ⟨m, hm⟩ : ∃ m, r.length = m + 1 := ⟨r.length - 1, by omega⟩
        rw [hm]; simp
      have k4 : w5.cell? ⟨w0.heap.size, 3, none⟩ = some (.string wd) := by
        have := row_strs HR5.out 3 (by simp; omega)
        rw [this, hwd]; simp
      have k4b : (w5.setCell ⟨w4.heap.size, 3, none⟩ (.string mk)).cell? ⟨w0.heap.size, 3, none⟩ = some (.string wd) := by
        have := row_strs (HR5.out.far (p := ⟨w4.heap.size, 3, none⟩) hne2 (.string mk)) 3 (by simp; omega)
        rw [this, hwd]; simp
      have j1 : (at1 : Int) + 1 = (q : Int) := by omega
      have j3 : (q : Int) < (n : Int) := by omega
      have j4 : q < n := by omega
      have p3 := HX5.out.free 3
      have p4 := HX5.out.free 4
      have v3 : w5.cell? ⟨w4.heap.size, 3, none⟩ = some (.string .empty) := HX5.out.cell (j := 3) rfl
      have v4 : (w5.setCell ⟨w4.heap.size, 3, none⟩ (.string mk)).cell? ⟨w4.heap.size, 4, none⟩ = some (.bool cb) := (HX5.out.set 3 (.string mk)).cell (j := 4) rfl
      have p4b : (w5.setCell ⟨w4.heap.size, 3, none⟩ (.string mk)).frozen? ⟨w4.heap.size, 4, none⟩ = false := (HX5.out.set 3 (.string mk)).free 4
      have hlq : (wd.toList == [108, 97, 105, 100]) = ld := by rw [hld, Lib.toList_data laid4]
      have HX : Hid (RowIs ((w5.setCell ⟨w4.heap.size, 3, none⟩ (.string mk)).setCell ⟨w4.heap.size, 4, none⟩ (.bool ld)) w4.heap.size 25 (⟨n1, n2, n3, mk, ld⟩ : PaperT).cells) := Lib.hid ((HX5.out.set 3 (.string mk)).set 4 (.bool ld))
      have HZ : Hid (RowIs ((w5.setCell ⟨w4.heap.size, 3, none⟩ (.string mk)).setCell ⟨w4.heap.size, 4, none⟩ (.bool ld)) w.heap.size 25 paper0.cells) := Lib.hid ((HZ5.out.far (p := ⟨w4.heap.size, 3, none⟩) hne _).far (p := ⟨w4.heap.size, 4, none⟩) hne _)
      have HB : Hid (Below w.heap.size w ((w5.setCell ⟨w4.heap.size, 3, none⟩ (.string mk)).setCell ⟨w4.heap.size, 4, none⟩ (.bool ld))) := Lib.hid ((HB5.out.setCell hle4 _).setCell hle4 _)
      have HTB : Hid (Tabs ((w5.setCell ⟨w4.heap.size, 3, none⟩ (.string mk)).setCell ⟨w4.heap.size, 4, none⟩ (.bool ld))) := Lib.hid (HT00.out.below HB.out)
      clear HMN HM4 HFIN HIMP hmb hrl hat hq hmk hwd hyp hr0 hld HX5 HZ5 HB5 HT5 HR5
      by_cases hall : b1 = true ∧ b2 = true ∧ b3 = true
      rotate_left
      · have hall2 : b1 = false ∨ (b1 = true ∧ b2 = false) ∨ (b1 = true ∧ b2 = true ∧ b3 = false) := by revert hall; cases b1 <;> cases b2 <;> cases b3 <;> simp
        have HF : Hid (finP s (implP (x0 :: x1 :: x2 :: r)) = (paper0, false)) := Lib.hid (hall2.elim HQ.out.1 (fun h => h.elim (fun h => HQ.out.2.1 h.2) (fun h => HQ.out.2.2.1 h.2.2)))
        clear hall HQ
        have c0 := HZ.out.cell (j := 0) rfl
        have c1 := HZ.out.cell (j := 1) rfl
        have c2 := HZ.out.cell (j := 2) rfl
        have c3 := HZ.out.cell (j := 3) rfl
        have c4 := HZ.out.cell (j := 4) rfl
        have f0 := HZ.out.free 0
        have f1 := HZ.out.free 1
        have f2 := HZ.out.free 2
        have f3 := HZ.out.free 3
        have f4 := HZ.out.free 4
        rcases hall2 with rfl | ⟨rfl, rfl⟩ | ⟨rfl, rfl, rfl⟩
        all_goals
          go_wp2_with fail
          have hz5 := stored5 (HZ.out) rfl (⟨0, 0, 0, ⟨#[]⟩, false⟩ : PaperT)
          have hb5 := below5 (HB.out) (Nat.le_refl _) (.int .i64 0) (.int .i64 0) (.int .i64 0) (.string ⟨#[]⟩) (.bool false)
          clear c0 f0 c1 f1 c2 f2 c3 f3 c4 f4
          simp only at hz5
          generalize (((((((w5.setCell ⟨w4.heap.size, 3, none⟩ (.string mk)).setCell ⟨w4.heap.size, 4, none⟩ (.bool ld)).setCell ⟨w.heap.size, 0, none⟩ (.int .i64 0)).setCell ⟨w.heap.size, 1, none⟩ (.int .i64 0)).setCell ⟨w.heap.size, 2, none⟩ (.int .i64 0)).setCell ⟨w.heap.size, 3, none⟩ (.string ⟨#[]⟩)).setCell ⟨w.heap.size, 4, none⟩ (.bool false)) = w99 at *
          have d0 := hz5.cell (j := 0) rfl
          have d1 := hz5.cell (j := 1) rfl
          have d2 := hz5.cell (j := 2) rfl
          have d3 := hz5.cell (j := 3) rfl
          have d4 := hz5.cell (j := 4) rfl
          exact bodyPost_ret (v := .tuple #[(⟨0, 0, 0, ⟨#[]⟩, false⟩ : PaperT).val, .bool false]) (by simp [results, Tryz.results9, go_sem, d0, d1, d2, d3, d4]) rfl ⟨by rw [HF.out]; first | done | rfl, hb5⟩
      obtain ⟨rfl, rfl, rfl⟩ := hall
      have hQ4 := HQ.out.2.2.2 rfl rfl rfl
      have hI := fun w => isPaper_any ⟨n1, n2, n3, mk, ld⟩ w (HMZ.out)
      clear HQ
      cases hst : paperOk ⟨n1, n2, n3, mk, ld⟩
      · rw [hst] at hI
        have HI := Lib.hid hI
        have HF : Hid (finP s (implP (x0 :: x1 :: x2 :: r)) = (paper0, false)) := Lib.hid (by rw [hQ4, finP, if_neg (by rw [hst]; simp)])
        clear hI hst hQ4
        have a0 := HX.out.cell (j := 0) rfl
        have a1 := HX.out.cell (j := 1) rfl
        have a2 := HX.out.cell (j := 2) rfl
        have a3 := HX.out.cell (j := 3) rfl
        have a4 := HX.out.cell (j := 4) rfl
        go_wp2_with fail
        refine (HI.out _).mono ?_
        rintro e w8 ⟨rfl, hb⟩
        have HZ8 := Lib.hid (HZ.out.below hb)
        have HX8 := Lib.hid (HX.out.below hb)
        have HB8 := Lib.hid (HB.out.trans (hb.mono HB.out.size))
        clear hb a0 a1 a2 a3 a4
        have c0 := HZ8.out.cell (j := 0) rfl
        have c1 := HZ8.out.cell (j := 1) rfl
        have c2 := HZ8.out.cell (j := 2) rfl
        have c3 := HZ8.out.cell (j := 3) rfl
        have c4 := HZ8.out.cell (j := 4) rfl
        have f0 := HZ8.out.free 0
        have f1 := HZ8.out.free 1
        have f2 := HZ8.out.free 2
        have f3 := HZ8.out.free 3
        have f4 := HZ8.out.free 4
        go_wp2_with fail
        have hz5 := stored5 (HZ8.out) rfl (⟨0, 0, 0, ⟨#[]⟩, false⟩ : PaperT)
        have hb5 := below5 (HB8.out) (Nat.le_refl _) (.int .i64 0) (.int .i64 0) (.int .i64 0) (.string ⟨#[]⟩) (.bool false)
        clear c0 f0 c1 f1 c2 f2 c3 f3 c4 f4
        simp only at hz5
        generalize (((((w8.setCell ⟨w.heap.size, 0, none⟩ (.int .i64 0)).setCell ⟨w.heap.size, 1, none⟩ (.int .i64 0)).setCell ⟨w.heap.size, 2, none⟩ (.int .i64 0)).setCell ⟨w.heap.size, 3, none⟩ (.string ⟨#[]⟩)).setCell ⟨w.heap.size, 4, none⟩ (.bool false)) = w99 at *
        have d0 := hz5.cell (j := 0) rfl
        have d1 := hz5.cell (j := 1) rfl
        have d2 := hz5.cell (j := 2) rfl
        have d3 := hz5.cell (j := 3) rfl
        have d4 := hz5.cell (j := 4) rfl
        exact bodyPost_ret (v := .tuple #[(⟨0, 0, 0, ⟨#[]⟩, false⟩ : PaperT).val, .bool false]) (by simp [results, Tryz.results9, go_sem, d0, d1, d2, d3, d4]) rfl ⟨by rw [HF.out]; first | done | rfl, hb5⟩
      · have hX := fun w h => paperText_any ⟨n1, n2, n3, mk, ld⟩ hst w h
        rw [hst] at hI
        have HI := Lib.hid hI
        have HX0 := Lib.hid hX
        have a0 := HX.out.cell (j := 0) rfl
        have a1 := HX.out.cell (j := 1) rfl
        have a2 := HX.out.cell (j := 2) rfl
        have a3 := HX.out.cell (j := 3) rfl
        have a4 := HX.out.cell (j := 4) rfl
        by_cases hts : pt3 ⟨n1, n2, n3, mk, ld⟩ = s
        · have HF : Hid (finP s (implP (x0 :: x1 :: x2 :: r)) = (⟨n1, n2, n3, mk, ld⟩, true)) := Lib.hid (by rw [hQ4, finP, if_pos ⟨hst, hts⟩])
          have hbq := str_beq hts
          clear hI hX hst hts hQ4
          generalize pt3 ⟨n1, n2, n3, mk, ld⟩ = tx at *
          go_wp2_with fail
          refine (HI.out _).mono ?_
          rintro e w8 ⟨rfl, hb⟩
          have HZ8 := Lib.hid (HZ.out.below hb)
          have HX8 := Lib.hid (HX.out.below hb)
          have HB8 := Lib.hid (HB.out.trans (hb.mono HB.out.size))
          have HT8 := Lib.hid (HTB.out.below hb)
          clear hb a0 a1 a2 a3 a4
          have a0 := HX8.out.cell (j := 0) rfl
          have a1 := HX8.out.cell (j := 1) rfl
          have a2 := HX8.out.cell (j := 2) rfl
          have a3 := HX8.out.cell (j := 3) rfl
          have a4 := HX8.out.cell (j := 4) rfl
          go_wp2_with fail
          refine (HX0.out _ HT8.out.pow).mono ?_
          rintro e w10 ⟨rfl, hb⟩
          have HZ10 := Lib.hid (HZ8.out.below hb)
          have HX10 := Lib.hid (HX8.out.below hb)
          have HB10 := Lib.hid (HB8.out.trans (hb.mono HB8.out.size))
          clear hb a0 a1 a2 a3 a4
          have a0 := HX10.out.cell (j := 0) rfl
          have a1 := HX10.out.cell (j := 1) rfl
          have a2 := HX10.out.cell (j := 2) rfl
          have a3 := HX10.out.cell (j := 3) rfl
          have a4 := HX10.out.cell (j := 4) rfl
          have c0 := HZ10.out.cell (j := 0) rfl
          have c1 := HZ10.out.cell (j := 1) rfl
          have c2 := HZ10.out.cell (j := 2) rfl
          have c3 := HZ10.out.cell (j := 3) rfl
          have c4 := HZ10.out.cell (j := 4) rfl
          have f0 := HZ10.out.free 0
          have f1 := HZ10.out.free 1
          have f2 := HZ10.out.free 2
          have f3 := HZ10.out.free 3
          have f4 := HZ10.out.free 4
          go_wp2_with fail
          have hz5 := stored5 (HZ10.out) rfl (⟨n1, n2, n3, mk, ld⟩ : PaperT)
          have hb5 := below5 (HB10.out) (Nat.le_refl _) (.int .i64 n1) (.int .i64 n2) (.int .i64 n3) (.string mk) (.bool ld)
          clear c0 f0 c1 f1 c2 f2 c3 f3 c4 f4
          simp only at hz5
          generalize (((((w10.setCell ⟨w.heap.size, 0, none⟩ (.int .i64 n1)).setCell ⟨w.heap.size, 1, none⟩ (.int .i64 n2)).setCell ⟨w.heap.size, 2, none⟩ (.int .i64 n3)).setCell ⟨w.heap.size, 3, none⟩ (.string mk)).setCell ⟨w.heap.size, 4, none⟩ (.bool ld)) = w99 at *
          have d0 := hz5.cell (j := 0) rfl
          have d1 := hz5.cell (j := 1) rfl
          have d2 := hz5.cell (j := 2) rfl
          have d3 := hz5.cell (j := 3) rfl
          have d4 := hz5.cell (j := 4) rfl
          exact bodyPost_ret (v := .tuple #[(⟨n1, n2, n3, mk, ld⟩ : PaperT).val, .bool true]) (by simp [results, Tryz.results9, go_sem, d0, d1, d2, d3, d4]) rfl ⟨by rw [HF.out]; first | done | rfl, hb5⟩
        · have HF : Hid (finP s (implP (x0 :: x1 :: x2 :: r)) = (paper0, false)) := Lib.hid (by rw [hQ4, finP, if_neg (fun h => hts h.2)])
          have hbq := str_bne hts
          clear hI hX hst hts hQ4
          generalize pt3 ⟨n1, n2, n3, mk, ld⟩ = tx at *
          go_wp2_with fail
          refine (HI.out _).mono ?_
          rintro e w8 ⟨rfl, hb⟩
          have HZ8 := Lib.hid (HZ.out.below hb)
          have HX8 := Lib.hid (HX.out.below hb)
          have HB8 := Lib.hid (HB.out.trans (hb.mono HB.out.size))
          have HT8 := Lib.hid (HTB.out.below hb)
          clear hb a0 a1 a2 a3 a4
          have a0 := HX8.out.cell (j := 0) rfl
          have a1 := HX8.out.cell (j := 1) rfl
          have a2 := HX8.out.cell (j := 2) rfl
          have a3 := HX8.out.cell (j := 3) rfl
          have a4 := HX8.out.cell (j := 4) rfl
          go_wp2_with fail
          refine (HX0.out _ HT8.out.pow).mono ?_
          rintro e w10 ⟨rfl, hb⟩
          have HZ10 := Lib.hid (HZ8.out.below hb)
          have HX10 := Lib.hid (HX8.out.below hb)
          have HB10 := Lib.hid (HB8.out.trans (hb.mono HB8.out.size))
          clear hb a0 a1 a2 a3 a4
          have a0 := HX10.out.cell (j := 0) rfl
          have a1 := HX10.out.cell (j := 1) rfl
          have a2 := HX10.out.cell (j := 2) rfl
          have a3 := HX10.out.cell (j := 3) rfl
          have a4 := HX10.out.cell (j := 4) rfl
          have c0 := HZ10.out.cell (j := 0) rfl
          have c1 := HZ10.out.cell (j := 1) rfl
          have c2 := HZ10.out.cell (j := 2) rfl
          have c3 := HZ10.out.cell (j := 3) rfl
          have c4 := HZ10.out.cell (j := 4) rfl
          have f0 := HZ10.out.free 0
          have f1 := HZ10.out.free 1
          have f2 := HZ10.out.free 2
          have f3 := HZ10.out.free 3
          have f4 := HZ10.out.free 4
          go_wp2_with fail
          have hz5 := stored5 (HZ10.out) rfl (⟨0, 0, 0, ⟨#[]⟩, false⟩ : PaperT)
          have hb5 := below5 (HB10.out) (Nat.le_refl _) (.int .i64 0) (.int .i64 0) (.int .i64 0) (.string ⟨#[]⟩) (.bool false)
          clear c0 f0 c1 f1 c2 f2 c3 f3 c4 f4
          simp only at hz5
          generalize (((((w10.setCell ⟨w.heap.size, 0, none⟩ (.int .i64 0)).setCell ⟨w.heap.size, 1, none⟩ (.int .i64 0)).setCell ⟨w.heap.size, 2, none⟩ (.int .i64 0)).setCell ⟨w.heap.size, 3, none⟩ (.string ⟨#[]⟩)).setCell ⟨w.heap.size, 4, none⟩ (.bool false)) = w99 at *
          have d0 := hz5.cell (j := 0) rfl
          have d1 := hz5.cell (j := 1) rfl
          have d2 := hz5.cell (j := 2) rfl
          have d3 := hz5.cell (j := 3) rfl
          have d4 := hz5.cell (j := 4) rfl
          exact bodyPost_ret (v := .tuple #[(⟨0, 0, 0, ⟨#[]⟩, false⟩ : PaperT).val, .bool false]) (by simp [results, Tryz.results9, go_sem, d0, d1, d2, d3, d4]) rfl ⟨by rw [HF.out]; first | done | rfl, hb5⟩
end Go.Proofs.YtmnlkcclcnnhmaaGreatDoor
