/- PapC, PapL, PapG in one text. -/
import Derived.Test.YtmnlkcclcnnhmaaGreatDoorCurA
import Derived.Test.YtmnlkcclcnnhmaaGreatDoorPaperS
import Derived.Test.YtmnlkcclcnnhmaaGreatDoorPaperC
namespace Go.Proofs.YtmnlkcclcnnhmaaGreatDoor
section
open Go.RowKit

/-- a paper stored over another -/
theorem stored5 {w : World} {g : Nat} {xs : List Value} (h : RowIs w g 25 xs) (hl : xs.length = 5) (c : PaperT) :
    RowIs (((((w.setCell ⟨g, 0, none⟩ (.int .i64 c.id)).setCell ⟨g, 1, none⟩ (.int .i64 c.thick)).setCell ⟨g, 2, none⟩ (.int .i64 c.tint)).setCell ⟨g, 3, none⟩ (.string c.mark)).setCell ⟨g, 4, none⟩ (.bool c.laid)) g 25 c.cells := by
  have := ((((h.set 0 (.int .i64 c.id)).set 1 (.int .i64 c.thick)).set 2 (.int .i64 c.tint)).set 3 (.string c.mark)).set 4 (.bool c.laid)
  match xs, hl with
  | [a, b, d, e, f], _ => exact this
theorem below5 {B : Nat} {w w' : World} {g : Nat} (h : Below B w w') (hg : B ≤ g) (u0 u1 u2 u3 u4 : Value) : Below B w (((((w'.setCell ⟨g, 0, none⟩ u0).setCell ⟨g, 1, none⟩ u1).setCell ⟨g, 2, none⟩ u2).setCell ⟨g, 3, none⟩ u3).setCell ⟨g, 4, none⟩ u4) :=
  ((((h.setCell hg _).setCell hg _).setCell hg _).setCell hg _).setCell hg _
abbrev mk1L : List ByteArray := [⟨#[]⟩, ⟨#[]⟩, ⟨#[99, 114, 111, 119, 110]⟩, ⟨#[115, 116, 97, 114]⟩, ⟨#[108, 97, 105, 100]⟩, ⟨#[97, 110, 99, 104, 111, 114]⟩]
abbrev mk2L : List ByteArray := [⟨#[83, 116, 97, 114]⟩, ⟨#[97, 98, 99, 100, 101, 102, 103, 104, 105, 106, 107]⟩, ⟨#[97, 32, 98]⟩]
theorem mk1L_size : ∀ z ∈ mk1L, z.size ≤ 16 := by decide +kernel
theorem mk2L_size : ∀ z ∈ mk2L, z.size ≤ 16 := by decide +kernel
/-- a drawn paper, and the cursor behind it -/
def DrawnP (w : World) (g n : Nat) (e : Ending) (w' : World) : Prop := ∃ c : PaperT, e = .returned c.val ∧ c.mark.size ≤ 16 ∧ Cur w' g n ∧ w.grownBy w' (some g)
set_option maxRecDepth 100000 in
set_option maxHeartbeats 2000000 in
theorem paper3_any (g n : Nat) (id : Int) (w : World) (h : Cur w g n) (hn : n ≤ 1048000) : Calls Tryz.prog 39 #[.pointer (some ⟨g, 0, none⟩), .int .i64 id] w (DrawnP w g (n + 12)) := by
  have hg := h.lt
  have BX := Lib.hid (RowIs.new w 25 paper0.cells)
  have e0 : (w.alloc (.cells paper0.cells.toArray 25)) = w.alloc (.cells #[.int .i64 0, .int .i64 0, .int .i64 0, .string ⟨#[]⟩, .bool false] 25) := rfl
  rw [e0] at BX
  have HC0 := Lib.hid (h.alloc (.cells #[.int .i64 0, .int .i64 0, .int .i64 0, .string ⟨#[]⟩, .bool false] 25))
  have HG0 := Lib.hid (World.grownBy_alloc w (.cells #[.int .i64 0, .int .i64 0, .int .i64 0, .string ⟨#[]⟩, .bool false] 25) (some g))
  have HP := Lib.hid (fun w g n m h hn h1 h2 => pick_any g n m w h hn h1 h2)
  have HO1 := Lib.hid (fun w g n m h hn h1 h2 => one_any g n m w h hn h1 h2)
  have H1 := Lib.hid (fun w n h hn => among_lit g n [1, 60, 80, 85, 100, 300] w h hn (by simp) (by simp) #[.int .i64 1, .int .i64 60, .int .i64 80, .int .i64 85, .int .i64 100, .int .i64 300] rfl 6 rfl)
  have H2 := Lib.hid (fun w n h hn => among_lit g n [0, 0, 3, 9] w h hn (by simp) (by simp) #[.int .i64 0, .int .i64 0, .int .i64 3, .int .i64 9] rfl 4 rfl)
  have H3 := Lib.hid (fun w n h hn => of_lit g n mk1L w h hn (by decide) (by decide) #[.string ⟨#[]⟩, .string ⟨#[]⟩, .string ⟨#[99, 114, 111, 119, 110]⟩, .string ⟨#[115, 116, 97, 114]⟩, .string ⟨#[108, 97, 105, 100]⟩, .string ⟨#[97, 110, 99, 104, 111, 114]⟩] rfl 6 rfl)
  have K0 := Lib.hid (fun w n h hn => among_lit g n [0, 99, 100] w h hn (by simp) (by simp) #[.int .i64 0, .int .i64 99, .int .i64 100] rfl 3 rfl)
  have K1 := Lib.hid (fun w n h hn => among_lit g n [0, 301] w h hn (by simp) (by simp) #[.int .i64 0, .int .i64 301] rfl 2 rfl)
  have K2 := Lib.hid (fun w n h hn => among_lit g n [-1, 10] w h hn (by simp) (by simp) #[.int .i64 (-1), .int .i64 10] rfl 2 rfl)
  have K3 := Lib.hid (fun w n h hn => of_lit g n mk2L w h hn (by decide) (by decide) #[.string ⟨#[83, 116, 97, 114]⟩, .string ⟨#[97, 98, 99, 100, 101, 102, 103, 104, 105, 106, 107]⟩, .string ⟨#[97, 32, 98]⟩] rfl 3 rfl)
  clear h e0
  go_enter Tryz.func39, Tryz.ntmps39
  go_wp2_with fail
  have hs0 : (w.alloc (.cells #[.int .i64 0, .int .i64 0, .int .i64 0, .string ⟨#[]⟩, .bool false] 25)).heap.size = w.heap.size + 1 := by simp
  generalize w.alloc (.cells #[.int .i64 0, .int .i64 0, .int .i64 0, .string ⟨#[]⟩, .bool false] 25) = w0 at *
  rw [← hs0]
  refine (H1.out _ _ HC0.out (by omega)).mono ?_
  rintro e w1 ⟨f, rfl, _, hc1, hg1⟩
  have HC1 := Lib.hid hc1
  have HG1 := Lib.hid (grownBy_trans HG0.out hg1)
  have BX1 := Lib.hid (BX.out.grown hg1 (by intro e; injection e with e; omega))
  clear hc1 hg1
  go_wp2_with fail
  refine (H2.out _ _ HC1.out (by omega)).mono ?_
  rintro e w2 ⟨k, rfl, _, hc2, hg2⟩
  have HC2 := Lib.hid hc2
  have HG2 := Lib.hid (grownBy_trans HG1.out hg2)
  have BX2 := Lib.hid (BX1.out.grown hg2 (by intro e; injection e with e; omega))
  clear hc2 hg2
  go_wp2_with fail
  refine (H3.out _ _ HC2.out (by omega)).mono ?_
  rintro e w3 ⟨mk, rfl, hmk0, hc3, hg3⟩
  have hmk := mk1L_size mk hmk0
  have HC3 := Lib.hid hc3
  have HG3 := Lib.hid (grownBy_trans HG2.out hg3)
  have BX3 := Lib.hid (BX2.out.grown hg3 (by intro e; injection e with e; omega))
  clear hc3 hg3 hmk0
  go_wp2_with fail
  refine (HO1.out _ _ _ 3 HC3.out (by omega) (by omega) (by omega)).mono ?_
  rintro e w4 ⟨ld, rfl, hc4, hg4⟩
  have hgl := BX3.out.lt
  have HC5 := Lib.hid (hc4.alloc (.cells #[.int .i64 id, .int .i64 f, .int .i64 k, .string mk, .bool ld] 25))
  have HG5 := Lib.hid (grown_alloc (grownBy_trans HG3.out hg4) (.cells #[.int .i64 id, .int .i64 f, .int .i64 k, .string mk, .bool ld] 25))
  have BX5 := Lib.hid ((BX3.out.grown hg4 (by intro e; injection e with e; omega)).alloc (.cells #[.int .i64 id, .int .i64 f, .int .i64 k, .string mk, .bool ld] 25))
  have BY5 : Hid (RowIs (w4.alloc (.cells #[.int .i64 id, .int .i64 f, .int .i64 k, .string mk, .bool ld] 25)) w4.heap.size 25 [.int .i64 id, .int .i64 f, .int .i64 k, .string mk, .bool ld]) := Lib.hid (RowIs.new w4 25 [.int .i64 id, .int .i64 f, .int .i64 k, .string mk, .bool ld])
  have hwb : w.heap.size < w4.heap.size := by have := hg4.size; omega
  clear hc4 hg4
  go_wp2_with fail
  generalize w4.alloc (.cells #[.int .i64 id, .int .i64 f, .int .i64 k, .string mk, .bool ld] 25) = w5 at *
  refine (HP.out _ _ _ 80 HC5.out (by omega) (by omega) (by omega)).mono ?_
  rintro e w6 ⟨x, rfl, ⟨x1, x2⟩, hc6, hg6⟩
  have HC6 := Lib.hid hc6
  have HG6 := Lib.hid (grownBy_trans HG5.out hg6)
  have BX6 := Lib.hid (BX5.out.grown hg6 (by intro e; injection e with e; omega))
  have BY6 := Lib.hid (BY5.out.grown hg6 (by intro e; injection e with e; omega))
  clear hc6 hg6
  have fin : ∀ (w7 : World) (c : PaperT), c.mark.size ≤ 16 → Cur w7 g (n + 12) → w.grownBy w7 (some g) → RowIs w7 w.heap.size 25 paper0.cells → (DrawnP w g (n + 12) (.returned c.val) (((((w7.setCell ⟨w.heap.size, 0, none⟩ (.int .i64 c.id)).setCell ⟨w.heap.size, 1, none⟩ (.int .i64 c.thick)).setCell ⟨w.heap.size, 2, none⟩ (.int .i64 c.tint)).setCell ⟨w.heap.size, 3, none⟩ (.string c.mark)).setCell ⟨w.heap.size, 4, none⟩ (.bool c.laid))) ∧
      RowIs (((((w7.setCell ⟨w.heap.size, 0, none⟩ (.int .i64 c.id)).setCell ⟨w.heap.size, 1, none⟩ (.int .i64 c.thick)).setCell ⟨w.heap.size, 2, none⟩ (.int .i64 c.tint)).setCell ⟨w.heap.size, 3, none⟩ (.string c.mark)).setCell ⟨w.heap.size, 4, none⟩ (.bool c.laid)) w.heap.size 25 c.cells := fun w7 c hmz hc hgw hb =>
    ⟨⟨c, rfl, hmz, ((((hc.set (p := ⟨w.heap.size, 0, none⟩) hg _).set (p := ⟨w.heap.size, 1, none⟩) hg _).set (p := ⟨w.heap.size, 2, none⟩) hg _).set (p := ⟨w.heap.size, 3, none⟩) hg _).set (p := ⟨w.heap.size, 4, none⟩) hg _, grown_set (grown_set (grown_set (grown_set (grown_set hgw (Nat.le_refl _) _) (Nat.le_refl _) _) (Nat.le_refl _) _) (Nat.le_refl _) _) (Nat.le_refl _) _⟩, stored5 hb rfl c⟩
  have HFIN := Lib.hid fin
  clear fin HP HO1 H1 H2 H3 BX BX1 BX2 BX3 BX5 BY5 HC0 HC1 HC2 HC3 HC5 HG0 HG1 HG2 HG3 HG5
  rcases (show x = 0 ∨ x = 1 ∨ x = 2 ∨ x = 3 ∨ 4 ≤ x by omega) with rfl | rfl | rfl | rfl | hx
  · have q0 : ((0 : Int) == 0) = true := rfl
    go_wp2_with fail
    refine (K0.out _ _ HC6.out (by omega)).mono ?_
    rintro e w7 ⟨v, rfl, _, hc7, hg7⟩
    have HC7 := Lib.hid (hc7.mono (show _ ≤ n + 12 by omega))
    have HG7 := Lib.hid (grownBy_trans HG6.out hg7)
    have BX7 := Lib.hid (BX6.out.grown hg7 (by intro e; injection e with e; omega))
    have BY7 := Lib.hid (BY6.out.grown hg7 (by intro e; injection e with e; omega))
    have hl7 := BY7.out.lt
    clear hc7 hg7
    have y0 := BY7.out.cell (j := 0) rfl
    have y1 := BY7.out.cell (j := 1) rfl
    have y2 := BY7.out.cell (j := 2) rfl
    have y3 := BY7.out.cell (j := 3) rfl
    have y4 := BY7.out.cell (j := 4) rfl
    have yf := BY7.out.free 0
    have c0 := BX7.out.cell (j := 0) rfl
    have c1 := BX7.out.cell (j := 1) rfl
    have c2 := BX7.out.cell (j := 2) rfl
    have c3 := BX7.out.cell (j := 3) rfl
    have c4 := BX7.out.cell (j := 4) rfl
    have f0 := BX7.out.free 0
    have f1 := BX7.out.free 1
    have f2 := BX7.out.free 2
    have f3 := BX7.out.free 3
    have f4 := BX7.out.free 4
    go_wp2_with fail
    obtain ⟨F1, F2⟩ := HFIN.out (w7.setCell ⟨w4.heap.size, 0, none⟩ (.int .i64 v)) ⟨v, f, k, mk, ld⟩ hmk (HC7.out.set (p := ⟨w4.heap.size, 0, none⟩) (by show g < w4.heap.size; omega) _) (grown_set HG7.out (by show w.heap.size ≤ w4.heap.size; omega) _) (BX7.out.far (by show w.heap.size ≠ w4.heap.size; omega) _)
    clear c0 f0 y0 c1 f1 y1 c2 f2 y2 c3 f3 y3 c4 f4 y4 yf
    simp only at F1 F2
    generalize ((((((w7.setCell ⟨w4.heap.size, 0, none⟩ (.int .i64 v)).setCell ⟨w.heap.size, 0, none⟩ (.int .i64 v)).setCell ⟨w.heap.size, 1, none⟩ (.int .i64 f)).setCell ⟨w.heap.size, 2, none⟩ (.int .i64 k)).setCell ⟨w.heap.size, 3, none⟩ (.string mk)).setCell ⟨w.heap.size, 4, none⟩ (.bool ld)) = w99 at *
    have d0 := F2.cell (j := 0) rfl
    have d1 := F2.cell (j := 1) rfl
    have d2 := F2.cell (j := 2) rfl
    have d3 := F2.cell (j := 3) rfl
    have d4 := F2.cell (j := 4) rfl
    exact bodyPost_ret (v := (⟨v, f, k, mk, ld⟩ : PaperT).val) (by simp [results, Tryz.results39, go_sem, d0, d1, d2, d3, d4]) rfl F1
  · have q1 : ((1 : Int) == 1) = true := rfl
    have q0 : ((1 : Int) == 0) = false := rfl
    go_wp2_with fail
    refine (K1.out _ _ HC6.out (by omega)).mono ?_
    rintro e w7 ⟨v, rfl, _, hc7, hg7⟩
    have HC7 := Lib.hid (hc7.mono (show _ ≤ n + 12 by omega))
    have HG7 := Lib.hid (grownBy_trans HG6.out hg7)
    have BX7 := Lib.hid (BX6.out.grown hg7 (by intro e; injection e with e; omega))
    have BY7 := Lib.hid (BY6.out.grown hg7 (by intro e; injection e with e; omega))
    have hl7 := BY7.out.lt
    clear hc7 hg7
    have y0 := BY7.out.cell (j := 0) rfl
    have y1 := BY7.out.cell (j := 1) rfl
    have y2 := BY7.out.cell (j := 2) rfl
    have y3 := BY7.out.cell (j := 3) rfl
    have y4 := BY7.out.cell (j := 4) rfl
    have yf := BY7.out.free 1
    have c0 := BX7.out.cell (j := 0) rfl
    have c1 := BX7.out.cell (j := 1) rfl
    have c2 := BX7.out.cell (j := 2) rfl
    have c3 := BX7.out.cell (j := 3) rfl
    have c4 := BX7.out.cell (j := 4) rfl
    have f0 := BX7.out.free 0
    have f1 := BX7.out.free 1
    have f2 := BX7.out.free 2
    have f3 := BX7.out.free 3
    have f4 := BX7.out.free 4
    go_wp2_with fail
    obtain ⟨F1, F2⟩ := HFIN.out (w7.setCell ⟨w4.heap.size, 1, none⟩ (.int .i64 v)) ⟨id, v, k, mk, ld⟩ hmk (HC7.out.set (p := ⟨w4.heap.size, 1, none⟩) (by show g < w4.heap.size; omega) _) (grown_set HG7.out (by show w.heap.size ≤ w4.heap.size; omega) _) (BX7.out.far (by show w.heap.size ≠ w4.heap.size; omega) _)
    clear c0 f0 y0 c1 f1 y1 c2 f2 y2 c3 f3 y3 c4 f4 y4 yf
    simp only at F1 F2
    generalize ((((((w7.setCell ⟨w4.heap.size, 1, none⟩ (.int .i64 v)).setCell ⟨w.heap.size, 0, none⟩ (.int .i64 id)).setCell ⟨w.heap.size, 1, none⟩ (.int .i64 v)).setCell ⟨w.heap.size, 2, none⟩ (.int .i64 k)).setCell ⟨w.heap.size, 3, none⟩ (.string mk)).setCell ⟨w.heap.size, 4, none⟩ (.bool ld)) = w99 at *
    have d0 := F2.cell (j := 0) rfl
    have d1 := F2.cell (j := 1) rfl
    have d2 := F2.cell (j := 2) rfl
    have d3 := F2.cell (j := 3) rfl
    have d4 := F2.cell (j := 4) rfl
    exact bodyPost_ret (v := (⟨id, v, k, mk, ld⟩ : PaperT).val) (by simp [results, Tryz.results39, go_sem, d0, d1, d2, d3, d4]) rfl F1
  · have q2 : ((2 : Int) == 2) = true := rfl
    have q0 : ((2 : Int) == 0) = false := rfl
    have q1 : ((2 : Int) == 1) = false := rfl
    go_wp2_with fail
    refine (K2.out _ _ HC6.out (by omega)).mono ?_
    rintro e w7 ⟨v, rfl, _, hc7, hg7⟩
    have HC7 := Lib.hid (hc7.mono (show _ ≤ n + 12 by omega))
    have HG7 := Lib.hid (grownBy_trans HG6.out hg7)
    have BX7 := Lib.hid (BX6.out.grown hg7 (by intro e; injection e with e; omega))
    have BY7 := Lib.hid (BY6.out.grown hg7 (by intro e; injection e with e; omega))
    have hl7 := BY7.out.lt
    clear hc7 hg7
    have y0 := BY7.out.cell (j := 0) rfl
    have y1 := BY7.out.cell (j := 1) rfl
    have y2 := BY7.out.cell (j := 2) rfl
    have y3 := BY7.out.cell (j := 3) rfl
    have y4 := BY7.out.cell (j := 4) rfl
    have yf := BY7.out.free 2
    have c0 := BX7.out.cell (j := 0) rfl
    have c1 := BX7.out.cell (j := 1) rfl
    have c2 := BX7.out.cell (j := 2) rfl
    have c3 := BX7.out.cell (j := 3) rfl
    have c4 := BX7.out.cell (j := 4) rfl
    have f0 := BX7.out.free 0
    have f1 := BX7.out.free 1
    have f2 := BX7.out.free 2
    have f3 := BX7.out.free 3
    have f4 := BX7.out.free 4
    go_wp2_with fail
    obtain ⟨F1, F2⟩ := HFIN.out (w7.setCell ⟨w4.heap.size, 2, none⟩ (.int .i64 v)) ⟨id, f, v, mk, ld⟩ hmk (HC7.out.set (p := ⟨w4.heap.size, 2, none⟩) (by show g < w4.heap.size; omega) _) (grown_set HG7.out (by show w.heap.size ≤ w4.heap.size; omega) _) (BX7.out.far (by show w.heap.size ≠ w4.heap.size; omega) _)
    clear c0 f0 y0 c1 f1 y1 c2 f2 y2 c3 f3 y3 c4 f4 y4 yf
    simp only at F1 F2
    generalize ((((((w7.setCell ⟨w4.heap.size, 2, none⟩ (.int .i64 v)).setCell ⟨w.heap.size, 0, none⟩ (.int .i64 id)).setCell ⟨w.heap.size, 1, none⟩ (.int .i64 f)).setCell ⟨w.heap.size, 2, none⟩ (.int .i64 v)).setCell ⟨w.heap.size, 3, none⟩ (.string mk)).setCell ⟨w.heap.size, 4, none⟩ (.bool ld)) = w99 at *
    have d0 := F2.cell (j := 0) rfl
    have d1 := F2.cell (j := 1) rfl
    have d2 := F2.cell (j := 2) rfl
    have d3 := F2.cell (j := 3) rfl
    have d4 := F2.cell (j := 4) rfl
    exact bodyPost_ret (v := (⟨id, f, v, mk, ld⟩ : PaperT).val) (by simp [results, Tryz.results39, go_sem, d0, d1, d2, d3, d4]) rfl F1
  · have q3 : ((3 : Int) == 3) = true := rfl
    have q0 : ((3 : Int) == 0) = false := rfl
    have q1 : ((3 : Int) == 1) = false := rfl
    have q2 : ((3 : Int) == 2) = false := rfl
    go_wp2_with fail
    refine (K3.out _ _ HC6.out (by omega)).mono ?_
    rintro e w7 ⟨v, rfl, hv0, hc7, hg7⟩
    have hv := mk2L_size v hv0
    clear hv0
    have HC7 := Lib.hid (hc7.mono (show _ ≤ n + 12 by omega))
    have HG7 := Lib.hid (grownBy_trans HG6.out hg7)
    have BX7 := Lib.hid (BX6.out.grown hg7 (by intro e; injection e with e; omega))
    have BY7 := Lib.hid (BY6.out.grown hg7 (by intro e; injection e with e; omega))
    have hl7 := BY7.out.lt
    clear hc7 hg7
    have y0 := BY7.out.cell (j := 0) rfl
    have y1 := BY7.out.cell (j := 1) rfl
    have y2 := BY7.out.cell (j := 2) rfl
    have y3 := BY7.out.cell (j := 3) rfl
    have y4 := BY7.out.cell (j := 4) rfl
    have yf := BY7.out.free 3
    have c0 := BX7.out.cell (j := 0) rfl
    have c1 := BX7.out.cell (j := 1) rfl
    have c2 := BX7.out.cell (j := 2) rfl
    have c3 := BX7.out.cell (j := 3) rfl
    have c4 := BX7.out.cell (j := 4) rfl
    have f0 := BX7.out.free 0
    have f1 := BX7.out.free 1
    have f2 := BX7.out.free 2
    have f3 := BX7.out.free 3
    have f4 := BX7.out.free 4
    go_wp2_with fail
    obtain ⟨F1, F2⟩ := HFIN.out (w7.setCell ⟨w4.heap.size, 3, none⟩ (.string v)) ⟨id, f, k, v, ld⟩ hv (HC7.out.set (p := ⟨w4.heap.size, 3, none⟩) (by show g < w4.heap.size; omega) _) (grown_set HG7.out (by show w.heap.size ≤ w4.heap.size; omega) _) (BX7.out.far (by show w.heap.size ≠ w4.heap.size; omega) _)
    clear c0 f0 y0 c1 f1 y1 c2 f2 y2 c3 f3 y3 c4 f4 y4 yf
    simp only at F1 F2
    generalize ((((((w7.setCell ⟨w4.heap.size, 3, none⟩ (.string v)).setCell ⟨w.heap.size, 0, none⟩ (.int .i64 id)).setCell ⟨w.heap.size, 1, none⟩ (.int .i64 f)).setCell ⟨w.heap.size, 2, none⟩ (.int .i64 k)).setCell ⟨w.heap.size, 3, none⟩ (.string v)).setCell ⟨w.heap.size, 4, none⟩ (.bool ld)) = w99 at *
    have d0 := F2.cell (j := 0) rfl
    have d1 := F2.cell (j := 1) rfl
    have d2 := F2.cell (j := 2) rfl
    have d3 := F2.cell (j := 3) rfl
    have d4 := F2.cell (j := 4) rfl
    exact bodyPost_ret (v := (⟨id, f, k, v, ld⟩ : PaperT).val) (by simp [results, Tryz.results39, go_sem, d0, d1, d2, d3, d4]) rfl F1
  · have q0 : (x == 0) = false := by rw [beq_eq_false_iff_ne]; omega
    have q1 : (x == 1) = false := by rw [beq_eq_false_iff_ne]; omega
    have q2 : (x == 2) = false := by rw [beq_eq_false_iff_ne]; omega
    have q3 : (x == 3) = false := by rw [beq_eq_false_iff_ne]; omega
    have y0 := BY6.out.cell (j := 0) rfl
    have y1 := BY6.out.cell (j := 1) rfl
    have y2 := BY6.out.cell (j := 2) rfl
    have y3 := BY6.out.cell (j := 3) rfl
    have y4 := BY6.out.cell (j := 4) rfl
    have c0 := BX6.out.cell (j := 0) rfl
    have c1 := BX6.out.cell (j := 1) rfl
    have c2 := BX6.out.cell (j := 2) rfl
    have c3 := BX6.out.cell (j := 3) rfl
    have c4 := BX6.out.cell (j := 4) rfl
    have f0 := BX6.out.free 0
    have f1 := BX6.out.free 1
    have f2 := BX6.out.free 2
    have f3 := BX6.out.free 3
    have f4 := BX6.out.free 4
    go_wp2_with fail
    obtain ⟨F1, F2⟩ := HFIN.out w6 ⟨id, f, k, mk, ld⟩ hmk (HC6.out.mono (by omega)) HG6.out BX6.out
    clear c0 f0 y0 c1 f1 y1 c2 f2 y2 c3 f3 y3 c4 f4 y4
    simp only at F1 F2
    generalize (((((w6.setCell ⟨w.heap.size, 0, none⟩ (.int .i64 id)).setCell ⟨w.heap.size, 1, none⟩ (.int .i64 f)).setCell ⟨w.heap.size, 2, none⟩ (.int .i64 k)).setCell ⟨w.heap.size, 3, none⟩ (.string mk)).setCell ⟨w.heap.size, 4, none⟩ (.bool ld)) = w99 at *
    have d0 := F2.cell (j := 0) rfl
    have d1 := F2.cell (j := 1) rfl
    have d2 := F2.cell (j := 2) rfl
    have d3 := F2.cell (j := 3) rfl
    have d4 := F2.cell (j := 4) rfl
    exact bodyPost_ret (v := (⟨id, f, k, mk, ld⟩ : PaperT).val) (by simp [results, Tryz.results39, go_sem, d0, d1, d2, d3, d4]) rfl F1
end
section
open Go.RowKit

theorem grown_new {w w1 w2 : World} {g : Nat} {row : Option Nat} (h : w.grownBy w1 (some g)) (h2 : w1.grownBy w2 row) (hr : ∀ q, row = some q → w.heap.size ≤ q) : w.grownBy w2 (some g) :=
  ⟨h2.os.trans h.os, h2.tape.trans h.tape, h2.output.trans h.output, Nat.le_trans h.size h2.size, fun k hk hne => (h2.block k (Nat.lt_of_lt_of_le hk h.size) (fun e => by have := hr k e.symm; omega)).trans (h.block k hk hne)⟩
theorem len_snocS (zs : List PaperT) (c : PaperT) : (zs ++ [c]).length = zs.length + 1 := by simp
def lenOf : Value → Nat
  | .slice _ n _ => n
  | _ => 0
/-- a list of the draw's own, and the cursor -/
structure Ls (w wr : World) (g n : Nat) (v : Value) (zs : List PaperT) : Prop where
  form : ∃ ad cp, v = .slice ad zs.length cp
  own : wr.ownsRow w.heap.size 25 5 v zs.length (papers zs)
  cur : Cur wr g n
  low : g < w.heap.size
  grown : w.grownBy wr (some g)
theorem Ls.step {w wr w2 : World} {g n m : Nat} {v : Value} {zs : List PaperT} (h : Ls w wr g n v zs) (hc : Cur w2 g m) (hg : wr.grownBy w2 (some g)) : Ls w w2 g m v zs :=
  ⟨h.form, own_kept h.own hg (fun q hq e => by have := (h.own.lt q hq).1; have := h.low; injection e with e; omega), hc, h.low, grownBy_trans h.grown hg⟩
theorem Ls.app {w w2 w3 : World} {g n : Nat} {v v' : Value} {zs : List PaperT} {c : PaperT} {o : Obj} (h : Ls w w2 g n v zs) (ho : w3.ownsRow w.heap.size 25 5 v' (zs.length + 1) (papers zs ++ c.cells))
    (hg : (w2.alloc o).grownBy w3 v.ownBlock) : Ls w w3 g n v' (zs ++ [c]) := by
  have hq : ∀ q, v.ownBlock = some q → w.heap.size ≤ q := fun q hq => (h.own.lt q hq).1
  obtain ⟨g3, c3, hv⟩ := Go.Joins.ownsRow_form ho (by omega)
  refine ⟨⟨some ⟨g3, 0, none⟩, c3, by rw [hv]; simp⟩, by simpa [papers] using ho, (h.cur.alloc o).kept hg (fun q e => by have := hq q e; have := h.low; omega), h.low, grown_new (grown_alloc h.grown o) hg hq⟩
theorem Ls.mono {w wr : World} {g n m : Nat} {v : Value} {zs : List PaperT} (h : Ls w wr g n v zs) (hm : n ≤ m) : Ls w wr g m v zs := ⟨h.form, h.own, h.cur.mono hm, h.low, h.grown⟩
theorem Ls.new {w : World} {g n : Nat} (h : Cur w g n) : Ls w (w.alloc (.cells #[] 25)) g n (.slice (some ⟨w.heap.size, 0, none⟩) 0 0) [] :=
  ⟨⟨_, _, rfl⟩, RowIs.owns (RowIs.new w 25 ([] : List Value)) (n := 0) (sz := 5) rfl (by unfold maxLen; omega) (Nat.le_refl _), h.alloc _, h.lt, World.grownBy_alloc w _ _⟩
theorem Ls.fresh {w wr : World} {g n : Nat} {v : Value} {zs : List PaperT} (h : Ls w wr g n v zs) : Ls w (wr.alloc (.cells #[] 25)) g n (.slice (some ⟨wr.heap.size, 0, none⟩) 0 0) [] :=
  ⟨⟨_, _, rfl⟩, RowIs.owns (RowIs.new wr 25 ([] : List Value)) (n := 0) (sz := 5) rfl (by unfold maxLen; omega) h.grown.size, h.cur.alloc _, h.low, grown_alloc h.grown _⟩
def FitP (zs : List PaperT) : Prop := ∀ z ∈ zs, z.mark.size ≤ 16
theorem FitP.nil : FitP [] := by intro z hz; cases hz
theorem FitP.snoc {zs : List PaperT} {c : PaperT} (h : FitP zs) (hc : c.mark.size ≤ 16) : FitP (zs ++ [c]) := by
  intro z hz
  rcases List.mem_append.1 hz with e | e
  · exact h z e
  · rw [List.mem_singleton.1 e]; exact hc
/-- drawn papers, and the cursor behind them -/
def DrawnL (w : World) (g m : Nat) (e : Ending) (w' : World) : Prop := ∃ (ad : Option Addr) (cp : Nat) (zs : List PaperT), e = .returned (.slice ad zs.length cp) ∧ zs.length ≤ 13 ∧ FitP zs ∧
  w'.ownsRow w.heap.size 25 5 (.slice ad zs.length cp) zs.length (papers zs) ∧ Cur w' g m ∧ w.grownBy w' (some g)
abbrev mk3L : List ByteArray := [⟨#[]⟩, ⟨#[115, 116, 97, 114]⟩]
theorem mk3L_size : ∀ z ∈ mk3L, z.size ≤ 16 := by decide +kernel
set_option maxRecDepth 100000 in
set_option maxHeartbeats 2000000 in
theorem papers3_any (g n : Nat) (w : World) (h : Cur w g n) (hn : n ≤ 1040000) : Calls Tryz.prog 46 #[.pointer (some ⟨g, 0, none⟩)] w (DrawnL w g (n + 200)) := by
  obtain ⟨i0, hi, hz0, hz1, hz2⟩ := info_parts info_paper
  have HP := Lib.hid (fun w n m h hn h1 h2 => pick_any g n m w h hn h1 h2)
  have HB1 := Lib.hid (fun w n m h hn h1 h2 => one_any g n m w h hn h1 h2)
  have HO := Lib.hid (fun w n h hn => of_lit g n mk3L w h hn (by decide) (by decide) #[.string ⟨#[]⟩, .string ⟨#[115, 116, 97, 114]⟩] rfl 2 rfl)
  have HS := Lib.hid (fun w n id h hn => paper3_any g n id w h hn)
  have HL0 := Lib.hid (Ls.new h)
  clear h
  go_enter Tryz.func46, Tryz.ntmps46
  go_wp2_with fail
  have hs0 : (w.alloc (.cells #[] 25)).heap.size = w.heap.size + 1 := by simp
  refine (HP.out _ _ 7 HL0.out.cur (by omega) (by omega) (by omega)).mono ?_
  rintro e w1 ⟨x, rfl, ⟨x1, x2⟩, hc1, hg1⟩
  have HL1 := Lib.hid (HL0.out.step hc1 hg1)
  clear hc1 hg1 hs0
  obtain ⟨X, rfl⟩ : ∃ X : Nat, x = (X : Int) := ⟨x.toNat, by omega⟩
  have hX : X ≤ 6 := by omega
  clear x1 x2
  go_wp2_with fail
  go_loopw [3, 4, 5] (fun v i c wr => ∃ (k : Nat) (zs : List PaperT) (idv : Int), k ≤ 6 ∧ c = .int .i64 (k : Int) ∧ i = .int .i64 idv ∧ 0 ≤ idv ∧ idv + 4 * (k : Int) ≤ 40 ∧ zs.length + k ≤ 6 ∧ FitP zs ∧ Ls w wr g (n + 2 + 16 * (6 - k)) v zs) (fun _ _ c _ => (intOf c).toNat)
  case atStart => exact ⟨X, [], 0, hX, rfl, rfl, by omega, by omega, by simp; omega, FitP.nil, HL1.out.mono (by omega)⟩
  case round =>
    obtain ⟨k, zs, idv, hk, rfl, rfl, hi1, hi2, hlen, hfp, hls⟩ := hrel
    obtain ⟨ad, cp, rfl⟩ := hls.form
    have HL := Lib.hid hls
    have HFP := Lib.hid hfp
    clear hls hfp
    by_cases hlt : 0 < k
    · have hd : decide ((0 : Int) < (k : Int)) = true := by simp; omega
      go_wp2_with fail
      refine (HP.out _ _ 3 HL.out.cur (by omega) (by omega) (by omega)).mono ?_
      rintro e w2 ⟨x, rfl, ⟨x1, x2⟩, hc2, hg2⟩
      have HL2 := Lib.hid (HL.out.step hc2 hg2)
      clear hc2 hg2
      go_wp2_with fail
      refine (HP.out _ _ 150 HL2.out.cur (by omega) (by omega) (by omega)).mono ?_
      rintro e w3 ⟨y, rfl, ⟨y1, y2⟩, hc3, hg3⟩
      have HL3 := Lib.hid (HL2.out.step hc3 hg3)
      clear hc3 hg3
      obtain ⟨q, hq⟩ : ∃ q : Int, y / 149 = q := ⟨_, rfl⟩
      have hq1 : 0 ≤ q ∧ q ≤ 1 := by omega
      go_wp2_with fail
      obtain ⟨id2, hid2⟩ : ∃ id2 : Int, id2 = idv + 1 + x - q := ⟨_, rfl⟩
      first | rw [← hid2] | skip
      refine (HS.out _ _ _ HL3.out.cur (by omega)).mono ?_
      rintro e w4 ⟨c, rfl, hcm, hc4, hg4⟩
      have HL4 := Lib.hid (HL3.out.step hc4 hg4)
      clear hc4 hg4
      go_wp2_with (at_builtin; go_must (refine wpList_append_own _ rfl _ _ 33 rfl w.heap.size 25 i0 _ 5 48 Tryz.underlying33 hi hz0 hz1 hz2 rfl (by decide) _ _ _ rfl (HL4.out.own.alloc _) ⟨w4.heap.size, 0, none⟩ 1 1 c.cells rfl rfl (World.news_of_block (cs := c.cells.toArray) (t := 25) (fr := (0, 0)) (heap_alloc_new _ _)) (by simp [PaperT.cells, Value.oneCell']) (by show zs.length + 1 ≤ maxLen; unfold maxLen; omega) (show (zs.length + 1) * 48 ≤ 140737488355328 by omega) (Nat.le_trans HL4.out.grown.size (by simp)) ?_))
      intro v' w5 hown5 hgrow5 _
      have HL5 := Lib.hid (HL4.out.app hown5 hgrow5)
      obtain ⟨ad5, cp5, hv⟩ := HL5.out.form
      rw [len_snocS] at hv
      have HL6 := Lib.hid (hv ▸ HL5.out)
      rw [hv]
      have HF6 := Lib.hid (HFP.out.snoc hcm)
      clear hown5 hgrow5 hv HL5
      go_wp2_with fail
      go_roundw
      case rel => exact ⟨k - 1, zs ++ [c], _, by omega, by go_num, rfl, by omega, by omega, by simp; omega, HF6.out, HL6.out.mono (by omega)⟩
      case measure => simp [intOf]; omega
    · obtain rfl : k = 0 := by omega
      go_wp2_with fail
      refine (HB1.out _ _ 24 HL.out.cur (by omega) (by omega) (by omega)).mono ?_
      rintro e w2 ⟨b, rfl, hc2, hg2⟩
      have HL2 := Lib.hid (HL.out.step hc2 hg2)
      clear hc2 hg2
      cases b
      · go_wp2_with fail
        go_ret
        exact ⟨ad, cp, zs, rfl, by omega, HFP.out, HL2.out.own, HL2.out.cur.mono (by omega), HL2.out.grown⟩
      · have HL3 := Lib.hid HL2.out.fresh
        go_wp2_with fail
        go_loopw [3, 6] (fun v i wr => ∃ zs : List PaperT, zs.length ≤ 12 ∧ i = .int .i64 (zs.length : Int) ∧ FitP zs ∧ Ls w wr g (n + 100 + 4 * zs.length) v zs) (fun _ i _ => 13 - (intOf i).toNat)
        case atStart => exact ⟨[], by simp, rfl, FitP.nil, HL3.out.mono (by simp)⟩
        case round =>
          obtain ⟨zs2, hlen2, rfl, hfp2, hls2⟩ := hrel
          obtain ⟨ad2, cp2, rfl⟩ := hls2.form
          have HM := Lib.hid hls2
          have HFP2 := Lib.hid hfp2
          clear hls2 HL HL2 HL3 hfp2
          go_wp2_with fail
          refine (HP.out _ _ 2 HM.out.cur (by omega) (by omega) (by omega)).mono ?_
          rintro e w3 ⟨y, rfl, ⟨y1, y2⟩, hc3, hg3⟩
          have HL3 := Lib.hid (HM.out.step hc3 hg3)
          clear hc3 hg3
          by_cases hlt2 : (zs2.length : Int) < 10 + y
          · have hd2 : decide ((zs2.length : Int) < 10 + y) = true := by simpa using hlt2
            go_wp2_with fail
            refine (HO.out _ _ HL3.out.cur (by omega)).mono ?_
            rintro e w4 ⟨mk, rfl, hmk, hc4, hg4⟩
            have HL4 := Lib.hid (HL3.out.step hc4 hg4)
            have hmz := mk3L_size mk hmk
            clear hc4 hg4 hmk
            go_wp2_with (at_builtin; go_must (refine wpList_append_own _ rfl _ _ 33 rfl w.heap.size 25 i0 _ 5 48 Tryz.underlying33 hi hz0 hz1 hz2 rfl (by decide) _ _ _ rfl (HL4.out.own.alloc _) ⟨w4.heap.size, 0, none⟩ 1 1 (⟨(zs2.length : Int) + 1, 60 + (zs2.length : Int), 0, mk, false⟩ : PaperT).cells rfl rfl (World.news_of_block (cs := #[.int .i64 ((zs2.length : Int) + 1), .int .i64 (60 + (zs2.length : Int)), .int .i64 0, .string mk, .bool false]) (t := 25) (fr := (0, 0)) (heap_alloc_new _ _)) (by simp [PaperT.cells, Value.oneCell']) (by show zs2.length + 1 ≤ maxLen; unfold maxLen; omega) (show (zs2.length + 1) * 48 ≤ 140737488355328 by omega) (Nat.le_trans HL4.out.grown.size (by simp)) ?_))
            intro v' w5 hown5 hgrow5 _
            have HL5 := Lib.hid (HL4.out.app hown5 hgrow5)
            obtain ⟨ad5, cp5, hv⟩ := HL5.out.form
            rw [len_snocS] at hv
            have HL6 := Lib.hid (hv ▸ HL5.out)
            have HLN := Lib.hid (len_snocS zs2 ⟨(zs2.length : Int) + 1, 60 + (zs2.length : Int), 0, mk, false⟩)
            have HF6 := Lib.hid (HFP2.out.snoc (c := ⟨(zs2.length : Int) + 1, 60 + (zs2.length : Int), 0, mk, false⟩) hmz)
            rw [hv]
            clear hown5 hgrow5 hv HL5
            go_wp2_with fail
            go_roundw
            case rel => exact ⟨zs2 ++ [⟨(zs2.length : Int) + 1, 60 + (zs2.length : Int), 0, mk, false⟩], by rw [HLN.out]; omega, by rw [HLN.out]; go_num, HF6.out, HL6.out.mono (by rw [HLN.out]; omega)⟩
            case measure => simp [intOf]; omega
          · have hd2 : decide ((zs2.length : Int) < 10 + y) = false := by simpa using hlt2
            go_wp2_with fail
            go_ret
            exact ⟨ad2, cp2, zs2, rfl, by omega, HFP2.out, HL3.out.own, HL3.out.cur.mono (by omega), HL3.out.grown⟩
end
section
open Go.RowKit

theorem cur_below {w w0 w' : World} {g : Nat} (hb : Below w.heap.size w w0) (hg : w0.grownBy w' (some g)) (hl : w.heap.size ≤ g) : Below w.heap.size w w' := hb.grown hg hb.size (fun q hq => by injection hq with hq; omega)
theorem own_base5 {w : World} {b b' n : Nat} {e : TypeId} {v : Value} {xs : List Value} (h : w.ownsRow b e 5 v n xs) (hb : b' ≤ b) : w.ownsRow b' e 5 v n xs := by
  rcases h with ⟨hl, h0 | ⟨g, c, cur, e1, e2, e3⟩⟩
  · exact ⟨hl, .inl h0⟩
  · exact ⟨hl, .inr ⟨g, c, cur, e1, Nat.le_trans hb e2, e3⟩⟩
/-- among the first m numbers of a list that lies in a block -/
theorem among_cut (g n bl c m : Nat) (zs : List Int) (w : World) (h : Cur w g n) (hn : n ≤ 1048570) (h1 : 2 ≤ m) (h2 : m ≤ zs.length) (h3 : zs.length ≤ 200) (hr : RowIs w bl 3 (ints zs)) (hne : bl ≠ g) :
    Calls Tryz.prog 40 #[.pointer (some ⟨g, 0, none⟩), .slice (some ⟨bl, 0, none⟩) m c] w (Drawn w g (n + 2) (fun t => t ∈ zs)) := by
  have hl : (zs.take m).length = m := by simp; omega
  have hrd : Reads w (some ⟨bl, 0, none⟩) (ints (zs.take m)) := by
    rcases hr.reads with h0 | ⟨b, off, e1, e2, e3⟩
    · have : zs = [] := by simpa [ints] using h0
      subst this
      exact .inl (by simp [ints])
    · exact .inr ⟨b, off, e1, e2, fun j u hu => e3 j u (by
        rw [ints, List.map_take, List.getElem?_take] at hu
        split at hu
        · exact hu
        · cases hu)⟩
  have H := among_any g n c (some ⟨bl, 0, none⟩) (zs.take m) w h hn (by omega) (by omega) hrd (fun q hq => by injection hq with hq; rw [← hq]; exact hne)
  rw [hl] at H
  exact H.mono fun _ _ ⟨t, e, ht, hc, hg⟩ => ⟨t, e, List.mem_of_mem_take ht, hc, hg⟩
set_option maxHeartbeats 1000000 in
set_option maxRecDepth 100000 in
theorem thick3_any (g n : Nat) (w : World) (h : Cur w g n) (hn : n ≤ 1048000) : Calls Tryz.prog 47 #[.pointer (some ⟨g, 0, none⟩)] w (Drawn w g (n + 4) (fun _ => True)) := by
  have hlt := h.lt
  have HC := Lib.hid (h.alloc (.cells #[.int .i64 1, .int .i64 60, .int .i64 75, .int .i64 82, .int .i64 90, .int .i64 300, .int .i64 0, .int .i64 301] 3))
  have HG := Lib.hid (World.grownBy_alloc w (.cells #[.int .i64 1, .int .i64 60, .int .i64 75, .int .i64 82, .int .i64 90, .int .i64 300, .int .i64 0, .int .i64 301] 3) (some g))
  have HROW : Hid (RowIs (w.alloc (.cells #[.int .i64 1, .int .i64 60, .int .i64 75, .int .i64 82, .int .i64 90, .int .i64 300, .int .i64 0, .int .i64 301] 3)) w.heap.size 3 (ints [1, 60, 75, 82, 90, 300, 0, 301])) := Lib.hid (RowIs.new w 3 (ints [1, 60, 75, 82, 90, 300, 0, 301]))
  have HP := Lib.hid (fun w n h hn => pick_any g n 24 w h hn (by omega) (by omega))
  clear h
  go_enter Tryz.func47, Tryz.ntmps47
  go_wp2_with fail
  generalize w.alloc (.cells #[.int .i64 1, .int .i64 60, .int .i64 75, .int .i64 82, .int .i64 90, .int .i64 300, .int .i64 0, .int .i64 301] 3) = w0 at *
  refine (HP.out _ _ HC.out (by omega)).mono ?_
  rintro e w1 ⟨x, rfl, ⟨x1, x2⟩, hc1, hg1⟩
  have HC1 := Lib.hid hc1
  have HG1 := Lib.hid (grownBy_trans HG.out hg1)
  have HR1 := Lib.hid (HROW.out.grown hg1 (by intro e; injection e with e; omega))
  clear hg1 hc1 HG HC
  rcases (show x / 11 = 0 ∨ x / 11 = 1 ∨ x / 11 = 2 by omega) with hx | hx | hx
  · go_wp2_with fail
    refine (among_cut g _ _ _ 6 [1, 60, 75, 82, 90, 300, 0, 301] _ HC1.out (by omega) (by omega) (by simp) (by simp) HR1.out (by omega)).mono ?_
    rintro e w2 ⟨y, rfl, _, hc2, hg2⟩
    have HC2 := Lib.hid hc2
    have HG2 := Lib.hid (grownBy_trans HG1.out hg2)
    clear hc2 hg2
    go_wp2_with fail
    go_ret
    exact ⟨_, rfl, trivial, HC2.out, HG2.out⟩
  · go_wp2_with fail
    refine (among_cut g _ _ _ 7 [1, 60, 75, 82, 90, 300, 0, 301] _ HC1.out (by omega) (by omega) (by simp) (by simp) HR1.out (by omega)).mono ?_
    rintro e w2 ⟨y, rfl, _, hc2, hg2⟩
    have HC2 := Lib.hid hc2
    have HG2 := Lib.hid (grownBy_trans HG1.out hg2)
    clear hc2 hg2
    go_wp2_with fail
    go_ret
    exact ⟨_, rfl, trivial, HC2.out, HG2.out⟩
  · go_wp2_with fail
    refine (among_cut g _ _ _ 8 [1, 60, 75, 82, 90, 300, 0, 301] _ HC1.out (by omega) (by omega) (by simp) (by simp) HR1.out (by omega)).mono ?_
    rintro e w2 ⟨y, rfl, _, hc2, hg2⟩
    have HC2 := Lib.hid hc2
    have HG2 := Lib.hid (grownBy_trans HG1.out hg2)
    clear hc2 hg2
    go_wp2_with fail
    go_ret
    exact ⟨_, rfl, trivial, HC2.out, HG2.out⟩
set_option maxHeartbeats 1000000 in
set_option maxRecDepth 100000 in
theorem drawIsPaper_any (a : Option Addr) (cap : Nat) (cs : List Int) (w : World) (hm : cs.length ≤ maxLen) (hr : Reads w a (bytesV cs)) (hz : ∀ z ∈ cs, 0 ≤ z ∧ z ≤ 255) :
    Calls Tryz.prog 28 #[.slice a cs.length cap] w fun e w' => ∃ c : PaperT, e = .returned c.val ∧ c.mark.size ≤ 16 ∧ Below w.heap.size w w' := by
  have B1 := Go.Joins.below_alloc1 w (.cells #[.int .i64 0, .int .i64 0, .int .i64 0, .string ⟨#[]⟩, .bool false] 25)
  have hs1 : (w.alloc (.cells #[.int .i64 0, .int .i64 0, .int .i64 0, .string ⟨#[]⟩, .bool false] 25)).heap.size = w.heap.size + 1 := by simp
  have hc0 := cur_newT cap hm (hr.below B1) hz
  have BX : RowIs (w.alloc (.cells #[.int .i64 0, .int .i64 0, .int .i64 0, .string ⟨#[]⟩, .bool false] 25)) w.heap.size 25 paper0.cells := RowIs.new w 25 paper0.cells
  have BX0 := Lib.hid (BX.alloc (.cells #[.slice a cs.length cap, .int .i64 0, .int .u64 0] 63))
  have HB0 := Lib.hid (B1.alloc B1.size (.cells #[.slice a cs.length cap, .int .i64 0, .int .u64 0] 63))
  rw [hs1] at hc0
  have HC0 := Lib.hid hc0
  have HS := Lib.hid (fun w g n id h hn => paper3_any g n id w h hn)
  have HA := Lib.hid (fun w g n h hn => among_lit g n [1, 42, 99] w h hn (by simp) (by simp) #[.int .i64 1, .int .i64 42, .int .i64 99] rfl 3 rfl)
  clear hr hz B1 BX hc0
  go_enter Tryz.func28, Tryz.ntmps28
  go_wp2_with fail
  have hs2 : ((w.alloc (.cells #[.int .i64 0, .int .i64 0, .int .i64 0, .string ⟨#[]⟩, .bool false] 25)).alloc (.cells #[.slice a cs.length cap, .int .i64 0, .int .u64 0] 63)).heap.size = w.heap.size + 2 := by simp
  generalize (w.alloc (.cells #[.int .i64 0, .int .i64 0, .int .i64 0, .string ⟨#[]⟩, .bool false] 25)).alloc (.cells #[.slice a cs.length cap, .int .i64 0, .int .u64 0] 63) = w0 at *
  rw [← hs2]
  refine (HA.out _ _ 0 HC0.out (by omega)).mono ?_
  rintro e w1 ⟨y, rfl, _, hc1, hg1⟩
  have HC1 := Lib.hid hc1
  have HG1 := Lib.hid hg1
  clear hc1 hg1
  go_wp2_with fail
  refine (HS.out _ _ _ _ HC1.out (by omega)).mono ?_
  rintro e w2 ⟨c, rfl, hcm, hc2, hg2⟩
  have hg := grownBy_trans HG1.out hg2
  have HB2 := Lib.hid (cur_below HB0.out hg (by omega))
  have BX2 := Lib.hid (BX0.out.grown hg (by intro e; injection e with e; omega))
  clear hc2 hg2 hg
  have f0 := BX2.out.free 0
  have f1 := BX2.out.free 1
  have f2 := BX2.out.free 2
  have f3 := BX2.out.free 3
  have f4 := BX2.out.free 4
  have c0 := BX2.out.cell (j := 0) rfl
  have c1 := BX2.out.cell (j := 1) rfl
  have c2 := BX2.out.cell (j := 2) rfl
  have c3 := BX2.out.cell (j := 3) rfl
  have c4 := BX2.out.cell (j := 4) rfl
  go_wp2_with fail
  have F2 := stored5 BX2.out rfl c
  have F1 := below5 HB2.out (Nat.le_refl _) (.int .i64 c.id) (.int .i64 c.thick) (.int .i64 c.tint) (.string c.mark) (.bool c.laid)
  clear f0 c0 f1 c1 f2 c2 f3 c3 f4 c4
  generalize (((((w2.setCell ⟨w.heap.size, 0, none⟩ (.int .i64 c.id)).setCell ⟨w.heap.size, 1, none⟩ (.int .i64 c.thick)).setCell ⟨w.heap.size, 2, none⟩ (.int .i64 c.tint)).setCell ⟨w.heap.size, 3, none⟩ (.string c.mark)).setCell ⟨w.heap.size, 4, none⟩ (.bool c.laid)) = w99 at *
  have d0 := F2.cell (j := 0) rfl
  have d1 := F2.cell (j := 1) rfl
  have d2 := F2.cell (j := 2) rfl
  have d3 := F2.cell (j := 3) rfl
  have d4 := F2.cell (j := 4) rfl
  exact bodyPost_ret (v := c.val) (by simp [results, Tryz.results28, go_sem, d0, d1, d2, d3, d4]) rfl ⟨c, rfl, hcm, F1⟩
set_option maxHeartbeats 1000000 in
set_option maxRecDepth 100000 in
theorem drawPaperText_any (a : Option Addr) (cap : Nat) (cs : List Int) (w : World) (hm : cs.length ≤ maxLen) (hr : Reads w a (bytesV cs)) (hz : ∀ z ∈ cs, 0 ≤ z ∧ z ≤ 255) :
    Calls Tryz.prog 5 #[.slice a cs.length cap] w fun e w' => ∃ c : PaperT, e = .returned c.val ∧ c.mark.size ≤ 16 ∧ Below w.heap.size w w' := by
  have B1 := Go.Joins.below_alloc1 w (.cells #[.int .i64 0, .int .i64 0, .int .i64 0, .string ⟨#[]⟩, .bool false] 25)
  have H := Lib.hid (drawIsPaper_any a cap cs _ hm (hr.below B1) hz)
  have BX : Hid (RowIs (w.alloc (.cells #[.int .i64 0, .int .i64 0, .int .i64 0, .string ⟨#[]⟩, .bool false] 25)) w.heap.size 25 paper0.cells) := Lib.hid (RowIs.new w 25 paper0.cells)
  have HB0 := Lib.hid B1
  clear hr hz B1
  go_enter Tryz.func5, Tryz.ntmps5
  go_wp2_with fail
  refine H.out.mono ?_
  rintro e w2 ⟨c, rfl, hcm, hb⟩
  have HB2 := Lib.hid (HB0.out.trans (hb.mono HB0.out.size))
  have BX2 := Lib.hid (BX.out.below hb)
  clear hb
  have f0 := BX2.out.free 0
  have f1 := BX2.out.free 1
  have f2 := BX2.out.free 2
  have f3 := BX2.out.free 3
  have f4 := BX2.out.free 4
  have c0 := BX2.out.cell (j := 0) rfl
  have c1 := BX2.out.cell (j := 1) rfl
  have c2 := BX2.out.cell (j := 2) rfl
  have c3 := BX2.out.cell (j := 3) rfl
  have c4 := BX2.out.cell (j := 4) rfl
  go_wp2_with fail
  have F2 := stored5 BX2.out rfl c
  have F1 := below5 HB2.out (Nat.le_refl _) (.int .i64 c.id) (.int .i64 c.thick) (.int .i64 c.tint) (.string c.mark) (.bool c.laid)
  clear f0 c0 f1 c1 f2 c2 f3 c3 f4 c4
  generalize (((((w2.setCell ⟨w.heap.size, 0, none⟩ (.int .i64 c.id)).setCell ⟨w.heap.size, 1, none⟩ (.int .i64 c.thick)).setCell ⟨w.heap.size, 2, none⟩ (.int .i64 c.tint)).setCell ⟨w.heap.size, 3, none⟩ (.string c.mark)).setCell ⟨w.heap.size, 4, none⟩ (.bool c.laid)) = w99 at *
  have d0 := F2.cell (j := 0) rfl
  have d1 := F2.cell (j := 1) rfl
  have d2 := F2.cell (j := 2) rfl
  have d3 := F2.cell (j := 3) rfl
  have d4 := F2.cell (j := 4) rfl
  exact bodyPost_ret (v := c.val) (by simp [results, Tryz.results5, go_sem, d0, d1, d2, d3, d4]) rfl ⟨c, rfl, hcm, F1⟩
/-- drawn papers, in a list of the draw's own -/
def ListD (w : World) (ad : Option Addr) (cp : Nat) (zs : List PaperT) (w' : World) : Prop := zs.length ≤ 13 ∧ FitP zs ∧ w'.ownsRow w.heap.size 25 5 (.slice ad zs.length cp) zs.length (papers zs) ∧ Below w.heap.size w w'
theorem ListD.reads {w w' : World} {ad : Option Addr} {cp : Nat} {zs : List PaperT} (h : ListD w ad cp zs w') : Reads w' ad (papers zs) := own_reads h.2.2.1
theorem ListD.fits {w w' : World} {ad : Option Addr} {cp : Nat} {zs : List PaperT} (h : ListD w ad cp zs w') : ∀ z ∈ zs, z.mark.size ≤ maxLen := fun z hz => Nat.le_trans (h.2.1 z hz) (by unfold maxLen; omega)
set_option maxHeartbeats 2000000 in
set_option maxRecDepth 100000 in
theorem drawNearestPaper_any (a : Option Addr) (cap : Nat) (cs : List Int) (w : World) (hm : cs.length ≤ maxLen) (hr : Reads w a (bytesV cs)) (hz : ∀ z ∈ cs, 0 ≤ z ∧ z ≤ 255) :
    Calls Tryz.prog 17 #[.slice a cs.length cap] w fun e w' => ∃ (ad : Option Addr) (cp : Nat) (zs : List PaperT) (th : Int), e = .returned (.tuple #[.slice ad zs.length cp, .int .i64 th]) ∧ ListD w ad cp zs w' := by
  have HC := Lib.hid (cur_newT cap hm hr hz)
  have HS := Lib.hid (fun w g n h hn => papers3_any g n w h hn)
  have HB0 := Lib.hid (Go.Joins.below_alloc1 w (.cells #[.slice a cs.length cap, .int .i64 0, .int .u64 0] 63))
  have hlt := HC.out.lt
  clear hr hz
  go_enter Tryz.func17, Tryz.ntmps17
  go_wp2_with fail
  generalize w.alloc (.cells #[.slice a cs.length cap, .int .i64 0, .int .u64 0] 63) = w0 at *
  refine (HS.out _ _ 0 HC.out (by omega)).mono ?_
  rintro e w1 ⟨ad, cp, zs, rfl, hl, hfp, ho, hc1, hg1⟩
  have HO0 := Lib.hid ho
  have HO := Lib.hid (own_base5 ho HB0.out.size)
  have HC1 := Lib.hid hc1
  have HF := Lib.hid hfp
  have HB1 := Lib.hid (cur_below HB0.out hg1 (Nat.le_refl _))
  clear ho hc1 hg1 hfp
  go_wp2_with fail
  refine (thick3_any _ _ _ HC1.out (by omega)).mono ?_
  rintro e w2 ⟨y, rfl, _, hc2, hg2⟩
  have HBE := Lib.hid (cur_below HB1.out hg2 (Nat.le_refl _))
  have HOE := Lib.hid (own_kept HO.out hg2 (fun q hq e => by have := (HO0.out.lt q hq).1; injection e with e; omega))
  clear hc2 hg2
  go_wp2_with fail
  go_ret2
  exact ⟨ad, cp, zs, _, rfl, hl, HF.out, HOE.out, HBE.out⟩
abbrev mk4L : List ByteArray := [⟨#[]⟩, ⟨#[99, 114, 111, 119, 110]⟩, ⟨#[115, 116, 97, 114]⟩, ⟨#[97, 110, 99, 104, 111, 114]⟩, ⟨#[114, 111, 115, 101]⟩, ⟨#[83, 116, 97, 114]⟩]
theorem mk4L_size : ∀ z ∈ mk4L, z.size ≤ 16 := by decide +kernel
set_option maxHeartbeats 2000000 in
set_option maxRecDepth 100000 in
theorem drawPapersWith_any (a : Option Addr) (cap : Nat) (cs : List Int) (w : World) (hm : cs.length ≤ maxLen) (hr : Reads w a (bytesV cs)) (hz : ∀ z ∈ cs, 0 ≤ z ∧ z ≤ 255) :
    Calls Tryz.prog 24 #[.slice a cs.length cap] w fun e w' => ∃ (ad : Option Addr) (cp : Nat) (zs : List PaperT) (m : ByteArray), e = .returned (.tuple #[.slice ad zs.length cp, .string m]) ∧ m.size ≤ 16 ∧ ListD w ad cp zs w' := by
  have HC := Lib.hid (cur_newT cap hm hr hz)
  have HS := Lib.hid (fun w g n h hn => papers3_any g n w h hn)
  have HB0 := Lib.hid (Go.Joins.below_alloc1 w (.cells #[.slice a cs.length cap, .int .i64 0, .int .u64 0] 63))
  have hlt := HC.out.lt
  clear hr hz
  go_enter Tryz.func24, Tryz.ntmps24
  go_wp2_with fail
  generalize w.alloc (.cells #[.slice a cs.length cap, .int .i64 0, .int .u64 0] 63) = w0 at *
  refine (HS.out _ _ 0 HC.out (by omega)).mono ?_
  rintro e w1 ⟨ad, cp, zs, rfl, hl, hfp, ho, hc1, hg1⟩
  have HO0 := Lib.hid ho
  have HO := Lib.hid (own_base5 ho HB0.out.size)
  have HC1 := Lib.hid hc1
  have HF := Lib.hid hfp
  have HB1 := Lib.hid (cur_below HB0.out hg1 (Nat.le_refl _))
  clear ho hc1 hg1 hfp
  go_wp2_with fail
  refine (of_lit _ _ mk4L _ HC1.out (by omega) (by decide) (by decide) #[.string ⟨#[]⟩, .string ⟨#[99, 114, 111, 119, 110]⟩, .string ⟨#[115, 116, 97, 114]⟩, .string ⟨#[97, 110, 99, 104, 111, 114]⟩, .string ⟨#[114, 111, 115, 101]⟩, .string ⟨#[83, 116, 97, 114]⟩] rfl 6 rfl).mono ?_
  rintro e w2 ⟨y, rfl, hy, hc2, hg2⟩
  have hyz := mk4L_size y hy
  have HBE := Lib.hid (cur_below HB1.out hg2 (Nat.le_refl _))
  have HOE := Lib.hid (own_kept HO.out hg2 (fun q hq e => by have := (HO0.out.lt q hq).1; injection e with e; omega))
  clear hc2 hg2 hy
  go_wp2_with fail
  go_ret2
  exact ⟨ad, cp, zs, _, rfl, hyz, hl, HF.out, HOE.out, HBE.out⟩
set_option maxHeartbeats 2000000 in
set_option maxRecDepth 100000 in
theorem drawMatchPapers_any (a : Option Addr) (cap : Nat) (cs : List Int) (w : World) (hm : cs.length ≤ maxLen) (hr : Reads w a (bytesV cs)) (hz : ∀ z ∈ cs, 0 ≤ z ∧ z ≤ 255) :
    Calls Tryz.prog 12 #[.slice a cs.length cap] w fun e w' => ∃ (ad : Option Addr) (cp : Nat) (zs : List PaperT) (th off tint : Int), e = .returned (.tuple #[.slice ad zs.length cp, .int .i64 th, .int .i64 off, .int .i64 tint]) ∧ ListD w ad cp zs w' := by
  have HC := Lib.hid (cur_newT cap hm hr hz)
  have HS := Lib.hid (fun w g n h hn => papers3_any g n w h hn)
  have HB0 := Lib.hid (Go.Joins.below_alloc1 w (.cells #[.slice a cs.length cap, .int .i64 0, .int .u64 0] 63))
  have hlt := HC.out.lt
  clear hr hz
  go_enter Tryz.func12, Tryz.ntmps12
  go_wp2_with fail
  generalize w.alloc (.cells #[.slice a cs.length cap, .int .i64 0, .int .u64 0] 63) = w0 at *
  refine (HS.out _ _ 0 HC.out (by omega)).mono ?_
  rintro e w1 ⟨ad, cp, zs, rfl, hl, hfp, ho, hc1, hg1⟩
  have HO0 := Lib.hid ho
  have HO := Lib.hid (own_base5 ho HB0.out.size)
  have HC1 := Lib.hid hc1
  have HF := Lib.hid hfp
  have HB1 := Lib.hid (cur_below HB0.out hg1 (Nat.le_refl _))
  clear ho hc1 hg1 hfp
  go_wp2_with fail
  refine (thick3_any _ _ _ HC1.out (by omega)).mono ?_
  rintro e w2 ⟨th, rfl, _, hc2, hg2⟩
  have HC2 := Lib.hid (hc2.alloc (.cells #[.int .i64 0, .int .i64 5, .int .i64 15, .int .i64 50, .int .i64 (-1), .int .i64 51] 3))
  have HG2 := Lib.hid (grown_alloc hg2 (.cells #[.int .i64 0, .int .i64 5, .int .i64 15, .int .i64 50, .int .i64 (-1), .int .i64 51] 3))
  have HR2 : Hid (RowIs (w2.alloc (.cells #[.int .i64 0, .int .i64 5, .int .i64 15, .int .i64 50, .int .i64 (-1), .int .i64 51] 3)) w2.heap.size 3 (ints [0, 5, 15, 50, -1, 51])) := Lib.hid (RowIs.new w2 3 (ints [0, 5, 15, 50, -1, 51]))
  have hlt2 := hc2.lt
  clear hc2 hg2
  go_wp2_with fail
  generalize w2.alloc (.cells #[.int .i64 0, .int .i64 5, .int .i64 15, .int .i64 50, .int .i64 (-1), .int .i64 51] 3) = w3 at *
  refine (pick_any _ _ 24 _ HC2.out (by omega) (by omega) (by omega)).mono ?_
  rintro e w4 ⟨x, rfl, ⟨x1, x2⟩, hc4, hg4⟩
  have HC4 := Lib.hid hc4
  have HG4 := Lib.hid (grownBy_trans HG2.out hg4)
  have HR4 := Lib.hid (HR2.out.grown hg4 (by intro e; injection e with e; omega))
  clear hc4 hg4 HR2 HC2 HG2
  rcases (show x / 11 = 0 ∨ x / 11 = 1 ∨ x / 11 = 2 by omega) with hx | hx | hx
  · go_wp2_with fail
    refine (among_cut _ _ _ _ 4 [0, 5, 15, 50, -1, 51] _ HC4.out (by omega) (by omega) (by simp) (by simp) HR4.out (by omega)).mono ?_
    rintro e w5 ⟨off, rfl, _, hc5, hg5⟩
    have HC5 := Lib.hid (hc5.alloc (.cells #[.int .i64 (-1), .int .i64 (-1), .int .i64 0, .int .i64 3, .int .i64 9, .int .i64 (-2), .int .i64 10] 3))
    have HG5 := Lib.hid (grown_alloc (grownBy_trans HG4.out hg5) (.cells #[.int .i64 (-1), .int .i64 (-1), .int .i64 0, .int .i64 3, .int .i64 9, .int .i64 (-2), .int .i64 10] 3))
    have HR5 : Hid (RowIs (w5.alloc (.cells #[.int .i64 (-1), .int .i64 (-1), .int .i64 0, .int .i64 3, .int .i64 9, .int .i64 (-2), .int .i64 10] 3)) w5.heap.size 3 (ints [-1, -1, 0, 3, 9, -2, 10])) := Lib.hid (RowIs.new w5 3 (ints [-1, -1, 0, 3, 9, -2, 10]))
    have hlt5 := hc5.lt
    clear hc5 hg5 HC4 HG4 HR4 hx x1 x2
    go_wp2_with fail
    generalize w5.alloc (.cells #[.int .i64 (-1), .int .i64 (-1), .int .i64 0, .int .i64 3, .int .i64 9, .int .i64 (-2), .int .i64 10] 3) = w6 at *
    refine (pick_any _ _ 24 _ HC5.out (by omega) (by omega) (by omega)).mono ?_
    rintro e w7 ⟨y, rfl, ⟨x1, x2⟩, hc7, hg7⟩
    have HC7 := Lib.hid hc7
    have HG7 := Lib.hid (grownBy_trans HG5.out hg7)
    have HR7 := Lib.hid (HR5.out.grown hg7 (by intro e; injection e with e; omega))
    clear hc7 hg7 HR5 HC5 HG5
    rcases (show y / 11 = 0 ∨ y / 11 = 1 ∨ y / 11 = 2 by omega) with hx | hx | hx
    · go_wp2_with fail
      refine (among_cut _ _ _ _ 5 [-1, -1, 0, 3, 9, -2, 10] _ HC7.out (by omega) (by omega) (by simp) (by simp) HR7.out (by omega)).mono ?_
      rintro e w8 ⟨tint, rfl, _, hc8, hg8⟩
      have hgx := grownBy_trans HG7.out hg8
      have HBE := Lib.hid (cur_below HB1.out hgx (Nat.le_refl _))
      have HOE := Lib.hid (own_kept HO.out hgx (fun q hq e => by have := (HO0.out.lt q hq).1; injection e with e; omega))
      clear hc8 hg8 hgx
      go_wp2_with fail
      exact bodyPost_ret (v := .tuple #[.slice ad zs.length cp, .int .i64 th, .int .i64 off, .int .i64 tint]) (by simp [results, Tryz.results12, go_sem]) rfl ⟨ad, cp, zs, _, _, _, rfl, hl, HF.out, HOE.out, HBE.out⟩
    · go_wp2_with fail
      refine (among_cut _ _ _ _ 6 [-1, -1, 0, 3, 9, -2, 10] _ HC7.out (by omega) (by omega) (by simp) (by simp) HR7.out (by omega)).mono ?_
      rintro e w8 ⟨tint, rfl, _, hc8, hg8⟩
      have hgx := grownBy_trans HG7.out hg8
      have HBE := Lib.hid (cur_below HB1.out hgx (Nat.le_refl _))
      have HOE := Lib.hid (own_kept HO.out hgx (fun q hq e => by have := (HO0.out.lt q hq).1; injection e with e; omega))
      clear hc8 hg8 hgx
      go_wp2_with fail
      exact bodyPost_ret (v := .tuple #[.slice ad zs.length cp, .int .i64 th, .int .i64 off, .int .i64 tint]) (by simp [results, Tryz.results12, go_sem]) rfl ⟨ad, cp, zs, _, _, _, rfl, hl, HF.out, HOE.out, HBE.out⟩
    · go_wp2_with fail
      refine (among_cut _ _ _ _ 7 [-1, -1, 0, 3, 9, -2, 10] _ HC7.out (by omega) (by omega) (by simp) (by simp) HR7.out (by omega)).mono ?_
      rintro e w8 ⟨tint, rfl, _, hc8, hg8⟩
      have hgx := grownBy_trans HG7.out hg8
      have HBE := Lib.hid (cur_below HB1.out hgx (Nat.le_refl _))
      have HOE := Lib.hid (own_kept HO.out hgx (fun q hq e => by have := (HO0.out.lt q hq).1; injection e with e; omega))
      clear hc8 hg8 hgx
      go_wp2_with fail
      exact bodyPost_ret (v := .tuple #[.slice ad zs.length cp, .int .i64 th, .int .i64 off, .int .i64 tint]) (by simp [results, Tryz.results12, go_sem]) rfl ⟨ad, cp, zs, _, _, _, rfl, hl, HF.out, HOE.out, HBE.out⟩
  · go_wp2_with fail
    refine (among_cut _ _ _ _ 5 [0, 5, 15, 50, -1, 51] _ HC4.out (by omega) (by omega) (by simp) (by simp) HR4.out (by omega)).mono ?_
    rintro e w5 ⟨off, rfl, _, hc5, hg5⟩
    have HC5 := Lib.hid (hc5.alloc (.cells #[.int .i64 (-1), .int .i64 (-1), .int .i64 0, .int .i64 3, .int .i64 9, .int .i64 (-2), .int .i64 10] 3))
    have HG5 := Lib.hid (grown_alloc (grownBy_trans HG4.out hg5) (.cells #[.int .i64 (-1), .int .i64 (-1), .int .i64 0, .int .i64 3, .int .i64 9, .int .i64 (-2), .int .i64 10] 3))
    have HR5 : Hid (RowIs (w5.alloc (.cells #[.int .i64 (-1), .int .i64 (-1), .int .i64 0, .int .i64 3, .int .i64 9, .int .i64 (-2), .int .i64 10] 3)) w5.heap.size 3 (ints [-1, -1, 0, 3, 9, -2, 10])) := Lib.hid (RowIs.new w5 3 (ints [-1, -1, 0, 3, 9, -2, 10]))
    have hlt5 := hc5.lt
    clear hc5 hg5 HC4 HG4 HR4 hx x1 x2
    go_wp2_with fail
    generalize w5.alloc (.cells #[.int .i64 (-1), .int .i64 (-1), .int .i64 0, .int .i64 3, .int .i64 9, .int .i64 (-2), .int .i64 10] 3) = w6 at *
    refine (pick_any _ _ 24 _ HC5.out (by omega) (by omega) (by omega)).mono ?_
    rintro e w7 ⟨y, rfl, ⟨x1, x2⟩, hc7, hg7⟩
    have HC7 := Lib.hid hc7
    have HG7 := Lib.hid (grownBy_trans HG5.out hg7)
    have HR7 := Lib.hid (HR5.out.grown hg7 (by intro e; injection e with e; omega))
    clear hc7 hg7 HR5 HC5 HG5
    rcases (show y / 11 = 0 ∨ y / 11 = 1 ∨ y / 11 = 2 by omega) with hx | hx | hx
    · go_wp2_with fail
      refine (among_cut _ _ _ _ 5 [-1, -1, 0, 3, 9, -2, 10] _ HC7.out (by omega) (by omega) (by simp) (by simp) HR7.out (by omega)).mono ?_
      rintro e w8 ⟨tint, rfl, _, hc8, hg8⟩
      have hgx := grownBy_trans HG7.out hg8
      have HBE := Lib.hid (cur_below HB1.out hgx (Nat.le_refl _))
      have HOE := Lib.hid (own_kept HO.out hgx (fun q hq e => by have := (HO0.out.lt q hq).1; injection e with e; omega))
      clear hc8 hg8 hgx
      go_wp2_with fail
      exact bodyPost_ret (v := .tuple #[.slice ad zs.length cp, .int .i64 th, .int .i64 off, .int .i64 tint]) (by simp [results, Tryz.results12, go_sem]) rfl ⟨ad, cp, zs, _, _, _, rfl, hl, HF.out, HOE.out, HBE.out⟩
    · go_wp2_with fail
      refine (among_cut _ _ _ _ 6 [-1, -1, 0, 3, 9, -2, 10] _ HC7.out (by omega) (by omega) (by simp) (by simp) HR7.out (by omega)).mono ?_
      rintro e w8 ⟨tint, rfl, _, hc8, hg8⟩
      have hgx := grownBy_trans HG7.out hg8
      have HBE := Lib.hid (cur_below HB1.out hgx (Nat.le_refl _))
      have HOE := Lib.hid (own_kept HO.out hgx (fun q hq e => by have := (HO0.out.lt q hq).1; injection e with e; omega))
      clear hc8 hg8 hgx
      go_wp2_with fail
      exact bodyPost_ret (v := .tuple #[.slice ad zs.length cp, .int .i64 th, .int .i64 off, .int .i64 tint]) (by simp [results, Tryz.results12, go_sem]) rfl ⟨ad, cp, zs, _, _, _, rfl, hl, HF.out, HOE.out, HBE.out⟩
    · go_wp2_with fail
      refine (among_cut _ _ _ _ 7 [-1, -1, 0, 3, 9, -2, 10] _ HC7.out (by omega) (by omega) (by simp) (by simp) HR7.out (by omega)).mono ?_
      rintro e w8 ⟨tint, rfl, _, hc8, hg8⟩
      have hgx := grownBy_trans HG7.out hg8
      have HBE := Lib.hid (cur_below HB1.out hgx (Nat.le_refl _))
      have HOE := Lib.hid (own_kept HO.out hgx (fun q hq e => by have := (HO0.out.lt q hq).1; injection e with e; omega))
      clear hc8 hg8 hgx
      go_wp2_with fail
      exact bodyPost_ret (v := .tuple #[.slice ad zs.length cp, .int .i64 th, .int .i64 off, .int .i64 tint]) (by simp [results, Tryz.results12, go_sem]) rfl ⟨ad, cp, zs, _, _, _, rfl, hl, HF.out, HOE.out, HBE.out⟩
  · go_wp2_with fail
    refine (among_cut _ _ _ _ 6 [0, 5, 15, 50, -1, 51] _ HC4.out (by omega) (by omega) (by simp) (by simp) HR4.out (by omega)).mono ?_
    rintro e w5 ⟨off, rfl, _, hc5, hg5⟩
    have HC5 := Lib.hid (hc5.alloc (.cells #[.int .i64 (-1), .int .i64 (-1), .int .i64 0, .int .i64 3, .int .i64 9, .int .i64 (-2), .int .i64 10] 3))
    have HG5 := Lib.hid (grown_alloc (grownBy_trans HG4.out hg5) (.cells #[.int .i64 (-1), .int .i64 (-1), .int .i64 0, .int .i64 3, .int .i64 9, .int .i64 (-2), .int .i64 10] 3))
    have HR5 : Hid (RowIs (w5.alloc (.cells #[.int .i64 (-1), .int .i64 (-1), .int .i64 0, .int .i64 3, .int .i64 9, .int .i64 (-2), .int .i64 10] 3)) w5.heap.size 3 (ints [-1, -1, 0, 3, 9, -2, 10])) := Lib.hid (RowIs.new w5 3 (ints [-1, -1, 0, 3, 9, -2, 10]))
    have hlt5 := hc5.lt
    clear hc5 hg5 HC4 HG4 HR4 hx x1 x2
    go_wp2_with fail
    generalize w5.alloc (.cells #[.int .i64 (-1), .int .i64 (-1), .int .i64 0, .int .i64 3, .int .i64 9, .int .i64 (-2), .int .i64 10] 3) = w6 at *
    refine (pick_any _ _ 24 _ HC5.out (by omega) (by omega) (by omega)).mono ?_
    rintro e w7 ⟨y, rfl, ⟨x1, x2⟩, hc7, hg7⟩
    have HC7 := Lib.hid hc7
    have HG7 := Lib.hid (grownBy_trans HG5.out hg7)
    have HR7 := Lib.hid (HR5.out.grown hg7 (by intro e; injection e with e; omega))
    clear hc7 hg7 HR5 HC5 HG5
    rcases (show y / 11 = 0 ∨ y / 11 = 1 ∨ y / 11 = 2 by omega) with hx | hx | hx
    · go_wp2_with fail
      refine (among_cut _ _ _ _ 5 [-1, -1, 0, 3, 9, -2, 10] _ HC7.out (by omega) (by omega) (by simp) (by simp) HR7.out (by omega)).mono ?_
      rintro e w8 ⟨tint, rfl, _, hc8, hg8⟩
      have hgx := grownBy_trans HG7.out hg8
      have HBE := Lib.hid (cur_below HB1.out hgx (Nat.le_refl _))
      have HOE := Lib.hid (own_kept HO.out hgx (fun q hq e => by have := (HO0.out.lt q hq).1; injection e with e; omega))
      clear hc8 hg8 hgx
      go_wp2_with fail
      exact bodyPost_ret (v := .tuple #[.slice ad zs.length cp, .int .i64 th, .int .i64 off, .int .i64 tint]) (by simp [results, Tryz.results12, go_sem]) rfl ⟨ad, cp, zs, _, _, _, rfl, hl, HF.out, HOE.out, HBE.out⟩
    · go_wp2_with fail
      refine (among_cut _ _ _ _ 6 [-1, -1, 0, 3, 9, -2, 10] _ HC7.out (by omega) (by omega) (by simp) (by simp) HR7.out (by omega)).mono ?_
      rintro e w8 ⟨tint, rfl, _, hc8, hg8⟩
      have hgx := grownBy_trans HG7.out hg8
      have HBE := Lib.hid (cur_below HB1.out hgx (Nat.le_refl _))
      have HOE := Lib.hid (own_kept HO.out hgx (fun q hq e => by have := (HO0.out.lt q hq).1; injection e with e; omega))
      clear hc8 hg8 hgx
      go_wp2_with fail
      exact bodyPost_ret (v := .tuple #[.slice ad zs.length cp, .int .i64 th, .int .i64 off, .int .i64 tint]) (by simp [results, Tryz.results12, go_sem]) rfl ⟨ad, cp, zs, _, _, _, rfl, hl, HF.out, HOE.out, HBE.out⟩
    · go_wp2_with fail
      refine (among_cut _ _ _ _ 7 [-1, -1, 0, 3, 9, -2, 10] _ HC7.out (by omega) (by omega) (by simp) (by simp) HR7.out (by omega)).mono ?_
      rintro e w8 ⟨tint, rfl, _, hc8, hg8⟩
      have hgx := grownBy_trans HG7.out hg8
      have HBE := Lib.hid (cur_below HB1.out hgx (Nat.le_refl _))
      have HOE := Lib.hid (own_kept HO.out hgx (fun q hq e => by have := (HO0.out.lt q hq).1; injection e with e; omega))
      clear hc8 hg8 hgx
      go_wp2_with fail
      exact bodyPost_ret (v := .tuple #[.slice ad zs.length cp, .int .i64 th, .int .i64 off, .int .i64 tint]) (by simp [results, Tryz.results12, go_sem]) rfl ⟨ad, cp, zs, _, _, _, rfl, hl, HF.out, HOE.out, HBE.out⟩
end
end Go.Proofs.YtmnlkcclcnnhmaaGreatDoor
