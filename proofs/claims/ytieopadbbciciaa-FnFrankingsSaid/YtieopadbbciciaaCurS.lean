/- A stamp drawn. -/
import Derived.Test.YtieopadbbciciaaCurA
import Derived.Test.YtieopadbbciciaaStampS
namespace Go.Proofs.Ytieopadbbciciaa
open Go.RowKit

theorem stored4s {w : World} {g : Nat} {xs : List Value} (h : RowIs w g 53 xs) (hl : xs.length = 4) (c : StampT) :
    RowIs ((((w.setCell ⟨g, 0, none⟩ (.int .i64 c.id)).setCell ⟨g, 1, none⟩ (.int .i64 c.face)).setCell ⟨g, 2, none⟩ (.int .i64 c.color)).setCell ⟨g, 3, none⟩ (.int .i64 c.year)) g 53 c.cells := by
  have := (((h.set 0 (.int .i64 c.id)).set 1 (.int .i64 c.face)).set 2 (.int .i64 c.color)).set 3 (.int .i64 c.year)
  match xs, hl with
  | [a, b, d, e], _ => exact this
/-- a drawn stamp, and the cursor behind it -/
def DrawnS (w : World) (g n : Nat) (e : Ending) (w' : World) : Prop := ∃ c : StampT, e = .returned c.val ∧ Cur w' g n ∧ w.grownBy w' (some g)
set_option maxRecDepth 100000 in
set_option maxHeartbeats 1500000 in
theorem stamp_any (g n : Nat) (id : Int) (w : World) (h : Cur w g n) (hn : n ≤ 1048000) : Calls Try.prog 55 #[.pointer (some ⟨g, 0, none⟩), .int .i64 id] w (DrawnS w g (n + 10)) := by
  have hg := h.lt
  have BX := Lib.hid (RowIs.new w 53 stamp0.cells)
  have e0 : (w.alloc (.cells stamp0.cells.toArray 53)) = w.alloc (.cells #[.int .i64 0, .int .i64 0, .int .i64 0, .int .i64 0] 53) := rfl
  rw [e0] at BX
  have HC0 := Lib.hid (h.alloc (.cells #[.int .i64 0, .int .i64 0, .int .i64 0, .int .i64 0] 53))
  have HG0 := Lib.hid (World.grownBy_alloc w (.cells #[.int .i64 0, .int .i64 0, .int .i64 0, .int .i64 0] 53) (some g))
  have HP := Lib.hid (fun w g n m h hn h1 h2 => pick_any g n m w h hn h1 h2)
  have H1 := Lib.hid (fun w n h hn => among_lit g n [1, 2, 3, 5, 5, 10, 12, 25, 100, 0] w h hn (by simp) (by simp) #[.int .i64 1, .int .i64 2, .int .i64 3, .int .i64 5, .int .i64 5, .int .i64 10, .int .i64 12, .int .i64 25, .int .i64 100, .int .i64 0] rfl 10 rfl)
  have H2 := Lib.hid (fun w n h hn => among_lit g n [0, 7, 7, 12, 99] w h hn (by simp) (by simp) #[.int .i64 0, .int .i64 7, .int .i64 7, .int .i64 12, .int .i64 99] rfl 5 rfl)
  have H3 := Lib.hid (fun w n h hn => among_lit g n [1840, 1858, 1858, 1900, 1925, 2100] w h hn (by simp) (by simp) #[.int .i64 1840, .int .i64 1858, .int .i64 1858, .int .i64 1900, .int .i64 1925, .int .i64 2100] rfl 6 rfl)
  have H4 := Lib.hid (fun w n h hn => among_lit g n [-1, 9999, 10000] w h hn (by simp) (by simp) #[.int .i64 (-1), .int .i64 9999, .int .i64 10000] rfl 3 rfl)
  have H5 := Lib.hid (fun w n h hn => among_lit g n [-1, 100] w h hn (by simp) (by simp) #[.int .i64 (-1), .int .i64 100] rfl 2 rfl)
  have H6 := Lib.hid (fun w n h hn => among_lit g n [1839, 2101] w h hn (by simp) (by simp) #[.int .i64 1839, .int .i64 2101] rfl 2 rfl)
  clear h e0
  go_enter Try.func55, Try.ntmps55
  go_wp2_with fail
  have hs0 : (w.alloc (.cells #[.int .i64 0, .int .i64 0, .int .i64 0, .int .i64 0] 53)).heap.size = w.heap.size + 1 := by simp
  generalize w.alloc (.cells #[.int .i64 0, .int .i64 0, .int .i64 0, .int .i64 0] 53) = w0 at *
  rw [← hs0]
  refine (H1.out _ _ HC0.out (by omega)).mono ?_
  rintro e w1 ⟨f, rfl, _, hc1, hg1⟩
  have HC1 := Lib.hid hc1
  have HG1 := Lib.hid (grownBy_trans HG0.out hg1)
  have BX1 := Lib.hid (BX.out.grown hg1 (by intro e; injection e with e; omega))
  clear hc1 hg1
  go_wp2_with fail
  refine (H2.out _ _ HC1.out (by omega)).mono ?_
  rintro e w2 ⟨k, rfl, _, hc2, hg2⟩
  have HC2 := Lib.hid hc2
  have HG2 := Lib.hid (grownBy_trans HG1.out hg2)
  have BX2 := Lib.hid (BX1.out.grown hg2 (by intro e; injection e with e; omega))
  clear hc2 hg2
  go_wp2_with fail
  refine (H3.out _ _ HC2.out (by omega)).mono ?_
  rintro e w3 ⟨y, rfl, _, hc3, hg3⟩
  have hg3' := BX2.out.lt
  have HC3 := Lib.hid (hc3.alloc (.cells #[.int .i64 id, .int .i64 f, .int .i64 k, .int .i64 y] 53))
  have HG3 := Lib.hid (grown_alloc (grownBy_trans HG2.out hg3) (.cells #[.int .i64 id, .int .i64 f, .int .i64 k, .int .i64 y] 53))
  have BX3 := Lib.hid ((BX2.out.grown hg3 (by intro e; injection e with e; omega)).alloc (.cells #[.int .i64 id, .int .i64 f, .int .i64 k, .int .i64 y] 53))
  have BY3 : Hid (RowIs (w3.alloc (.cells #[.int .i64 id, .int .i64 f, .int .i64 k, .int .i64 y] 53)) w3.heap.size 53 [.int .i64 id, .int .i64 f, .int .i64 k, .int .i64 y]) := Lib.hid (RowIs.new w3 53 [.int .i64 id, .int .i64 f, .int .i64 k, .int .i64 y])
  have hwb : w.heap.size < w3.heap.size := by have := hg3.size; omega
  clear hc3 hg3
  go_wp2_with fail
  generalize w3.alloc (.cells #[.int .i64 id, .int .i64 f, .int .i64 k, .int .i64 y] 53) = w4 at *
  refine (HP.out _ _ _ 64 HC3.out (by omega) (by omega) (by omega)).mono ?_
  rintro e w5 ⟨x, rfl, ⟨x1, x2⟩, hc5, hg5⟩
  have HC5 := Lib.hid hc5
  have HG5 := Lib.hid (grownBy_trans HG3.out hg5)
  have BX5 := Lib.hid (BX3.out.grown hg5 (by intro e; injection e with e; omega))
  have BY5 := Lib.hid (BY3.out.grown hg5 (by intro e; injection e with e; omega))
  clear hc5 hg5
  have fin : ∀ (w6 : World) (c : StampT), Cur w6 g (n + 10) → w.grownBy w6 (some g) → RowIs w6 w.heap.size 53 stamp0.cells → (DrawnS w g (n + 10) (.returned c.val) ((((w6.setCell ⟨w.heap.size, 0, none⟩ (.int .i64 c.id)).setCell ⟨w.heap.size, 1, none⟩ (.int .i64 c.face)).setCell ⟨w.heap.size, 2, none⟩ (.int .i64 c.color)).setCell ⟨w.heap.size, 3, none⟩ (.int .i64 c.year))) ∧
      RowIs ((((w6.setCell ⟨w.heap.size, 0, none⟩ (.int .i64 c.id)).setCell ⟨w.heap.size, 1, none⟩ (.int .i64 c.face)).setCell ⟨w.heap.size, 2, none⟩ (.int .i64 c.color)).setCell ⟨w.heap.size, 3, none⟩ (.int .i64 c.year)) w.heap.size 53 c.cells := fun w6 c hc hgw hb =>
    ⟨⟨c, rfl, (((hc.set (p := ⟨w.heap.size, 0, none⟩) hg _).set (p := ⟨w.heap.size, 1, none⟩) hg _).set (p := ⟨w.heap.size, 2, none⟩) hg _).set (p := ⟨w.heap.size, 3, none⟩) hg _, grown_set (grown_set (grown_set (grown_set hgw (Nat.le_refl _) _) (Nat.le_refl _) _) (Nat.le_refl _) _) (Nat.le_refl _) _⟩, stored4s hb rfl c⟩
  have HFIN := Lib.hid fin
  clear fin HP H1 H2 H3 BX BX1 BX2 BX3 BY3 HC0 HC1 HC2 HC3 HG0 HG1 HG2 HG3
  rcases (show x = 0 ∨ x = 1 ∨ x = 2 ∨ 3 ≤ x by omega) with rfl | rfl | rfl | hx
  · have q0 : ((0 : Int) == 0) = true := rfl
    go_wp2_with fail
    refine (H4.out _ _ HC5.out (by omega)).mono ?_
    rintro e w6 ⟨v, rfl, _, hc6, hg6⟩
    have HC6 := Lib.hid hc6
    have HG6 := Lib.hid (grownBy_trans HG5.out hg6)
    have BX6 := Lib.hid (BX5.out.grown hg6 (by intro e; injection e with e; omega))
    have BY6 := Lib.hid (BY5.out.grown hg6 (by intro e; injection e with e; omega))
    have hl6 := BY6.out.lt
    clear hc6 hg6
    have y0 := BY6.out.cell (j := 0) rfl
    have y1 := BY6.out.cell (j := 1) rfl
    have y2 := BY6.out.cell (j := 2) rfl
    have y3 := BY6.out.cell (j := 3) rfl
    have yf := BY6.out.free 1
    have c0 := BX6.out.cell (j := 0) rfl
    have c1 := BX6.out.cell (j := 1) rfl
    have c2 := BX6.out.cell (j := 2) rfl
    have c3 := BX6.out.cell (j := 3) rfl
    have f0 := BX6.out.free 0
    have f1 := BX6.out.free 1
    have f2 := BX6.out.free 2
    have f3 := BX6.out.free 3
    go_wp2_with fail
    obtain ⟨F1, F2⟩ := HFIN.out (w6.setCell ⟨w3.heap.size, 1, none⟩ (.int .i64 v)) ⟨id, v, k, y⟩ (HC6.out.set (p := ⟨w3.heap.size, 1, none⟩) (by show g < w3.heap.size; omega) _) (grown_set HG6.out (by show w.heap.size ≤ w3.heap.size; omega) _) (BX6.out.far (by show w.heap.size ≠ w3.heap.size; omega) _)
    clear c0 c1 c2 c3 f0 f1 f2 f3 y0 y1 y2 y3 yf
    simp only at F1 F2
    generalize ((((w6.setCell ⟨w3.heap.size, 1, none⟩ (.int .i64 v)).setCell ⟨w.heap.size, 0, none⟩ (.int .i64 id)).setCell ⟨w.heap.size, 1, none⟩ (.int .i64 v)).setCell ⟨w.heap.size, 2, none⟩ (.int .i64 k)).setCell ⟨w.heap.size, 3, none⟩ (.int .i64 y) = w99 at *
    have d0 := F2.cell (j := 0) rfl
    have d1 := F2.cell (j := 1) rfl
    have d2 := F2.cell (j := 2) rfl
    have d3 := F2.cell (j := 3) rfl
    exact bodyPost_ret (v := (⟨id, v, k, y⟩ : StampT).val) (by simp [results, Try.results55, go_sem, d0, d1, d2, d3]) rfl F1
  · have q0 : ((1 : Int) == 1) = true := rfl
    have q1 : ((1 : Int) == 0) = false := rfl
    go_wp2_with fail
    refine (H5.out _ _ HC5.out (by omega)).mono ?_
    rintro e w6 ⟨v, rfl, _, hc6, hg6⟩
    have HC6 := Lib.hid hc6
    have HG6 := Lib.hid (grownBy_trans HG5.out hg6)
    have BX6 := Lib.hid (BX5.out.grown hg6 (by intro e; injection e with e; omega))
    have BY6 := Lib.hid (BY5.out.grown hg6 (by intro e; injection e with e; omega))
    have hl6 := BY6.out.lt
    clear hc6 hg6
    have y0 := BY6.out.cell (j := 0) rfl
    have y1 := BY6.out.cell (j := 1) rfl
    have y2 := BY6.out.cell (j := 2) rfl
    have y3 := BY6.out.cell (j := 3) rfl
    have yf := BY6.out.free 2
    have c0 := BX6.out.cell (j := 0) rfl
    have c1 := BX6.out.cell (j := 1) rfl
    have c2 := BX6.out.cell (j := 2) rfl
    have c3 := BX6.out.cell (j := 3) rfl
    have f0 := BX6.out.free 0
    have f1 := BX6.out.free 1
    have f2 := BX6.out.free 2
    have f3 := BX6.out.free 3
    go_wp2_with fail
    obtain ⟨F1, F2⟩ := HFIN.out (w6.setCell ⟨w3.heap.size, 2, none⟩ (.int .i64 v)) ⟨id, f, v, y⟩ (HC6.out.set (p := ⟨w3.heap.size, 2, none⟩) (by show g < w3.heap.size; omega) _) (grown_set HG6.out (by show w.heap.size ≤ w3.heap.size; omega) _) (BX6.out.far (by show w.heap.size ≠ w3.heap.size; omega) _)
    clear c0 c1 c2 c3 f0 f1 f2 f3 y0 y1 y2 y3 yf
    simp only at F1 F2
    generalize ((((w6.setCell ⟨w3.heap.size, 2, none⟩ (.int .i64 v)).setCell ⟨w.heap.size, 0, none⟩ (.int .i64 id)).setCell ⟨w.heap.size, 1, none⟩ (.int .i64 f)).setCell ⟨w.heap.size, 2, none⟩ (.int .i64 v)).setCell ⟨w.heap.size, 3, none⟩ (.int .i64 y) = w99 at *
    have d0 := F2.cell (j := 0) rfl
    have d1 := F2.cell (j := 1) rfl
    have d2 := F2.cell (j := 2) rfl
    have d3 := F2.cell (j := 3) rfl
    exact bodyPost_ret (v := (⟨id, f, v, y⟩ : StampT).val) (by simp [results, Try.results55, go_sem, d0, d1, d2, d3]) rfl F1
  · have q0 : ((2 : Int) == 2) = true := rfl
    have q1 : ((2 : Int) == 0) = false := rfl
    have q2 : ((2 : Int) == 1) = false := rfl
    go_wp2_with fail
    refine (H6.out _ _ HC5.out (by omega)).mono ?_
    rintro e w6 ⟨v, rfl, _, hc6, hg6⟩
    have HC6 := Lib.hid hc6
    have HG6 := Lib.hid (grownBy_trans HG5.out hg6)
    have BX6 := Lib.hid (BX5.out.grown hg6 (by intro e; injection e with e; omega))
    have BY6 := Lib.hid (BY5.out.grown hg6 (by intro e; injection e with e; omega))
    have hl6 := BY6.out.lt
    clear hc6 hg6
    have y0 := BY6.out.cell (j := 0) rfl
    have y1 := BY6.out.cell (j := 1) rfl
    have y2 := BY6.out.cell (j := 2) rfl
    have y3 := BY6.out.cell (j := 3) rfl
    have yf := BY6.out.free 3
    have c0 := BX6.out.cell (j := 0) rfl
    have c1 := BX6.out.cell (j := 1) rfl
    have c2 := BX6.out.cell (j := 2) rfl
    have c3 := BX6.out.cell (j := 3) rfl
    have f0 := BX6.out.free 0
    have f1 := BX6.out.free 1
    have f2 := BX6.out.free 2
    have f3 := BX6.out.free 3
    go_wp2_with fail
    obtain ⟨F1, F2⟩ := HFIN.out (w6.setCell ⟨w3.heap.size, 3, none⟩ (.int .i64 v)) ⟨id, f, k, v⟩ (HC6.out.set (p := ⟨w3.heap.size, 3, none⟩) (by show g < w3.heap.size; omega) _) (grown_set HG6.out (by show w.heap.size ≤ w3.heap.size; omega) _) (BX6.out.far (by show w.heap.size ≠ w3.heap.size; omega) _)
    clear c0 c1 c2 c3 f0 f1 f2 f3 y0 y1 y2 y3 yf
    simp only at F1 F2
    generalize ((((w6.setCell ⟨w3.heap.size, 3, none⟩ (.int .i64 v)).setCell ⟨w.heap.size, 0, none⟩ (.int .i64 id)).setCell ⟨w.heap.size, 1, none⟩ (.int .i64 f)).setCell ⟨w.heap.size, 2, none⟩ (.int .i64 k)).setCell ⟨w.heap.size, 3, none⟩ (.int .i64 v) = w99 at *
    have d0 := F2.cell (j := 0) rfl
    have d1 := F2.cell (j := 1) rfl
    have d2 := F2.cell (j := 2) rfl
    have d3 := F2.cell (j := 3) rfl
    exact bodyPost_ret (v := (⟨id, f, k, v⟩ : StampT).val) (by simp [results, Try.results55, go_sem, d0, d1, d2, d3]) rfl F1
  · have q0 : (x == 0) = false := by rw [beq_eq_false_iff_ne]; omega
    have q1 : (x == 1) = false := by rw [beq_eq_false_iff_ne]; omega
    have q2 : (x == 2) = false := by rw [beq_eq_false_iff_ne]; omega
    have y0 := BY5.out.cell (j := 0) rfl
    have y1 := BY5.out.cell (j := 1) rfl
    have y2 := BY5.out.cell (j := 2) rfl
    have y3 := BY5.out.cell (j := 3) rfl
    have c0 := BX5.out.cell (j := 0) rfl
    have c1 := BX5.out.cell (j := 1) rfl
    have c2 := BX5.out.cell (j := 2) rfl
    have c3 := BX5.out.cell (j := 3) rfl
    have f0 := BX5.out.free 0
    have f1 := BX5.out.free 1
    have f2 := BX5.out.free 2
    have f3 := BX5.out.free 3
    go_wp2_with fail
    obtain ⟨F1, F2⟩ := HFIN.out w5 ⟨id, f, k, y⟩ (HC5.out.mono (by omega)) HG5.out BX5.out
    clear c0 c1 c2 c3 f0 f1 f2 f3 y0 y1 y2 y3
    simp only at F1 F2
    generalize (((w5.setCell ⟨w.heap.size, 0, none⟩ (.int .i64 id)).setCell ⟨w.heap.size, 1, none⟩ (.int .i64 f)).setCell ⟨w.heap.size, 2, none⟩ (.int .i64 k)).setCell ⟨w.heap.size, 3, none⟩ (.int .i64 y) = w99 at *
    have d0 := F2.cell (j := 0) rfl
    have d1 := F2.cell (j := 1) rfl
    have d2 := F2.cell (j := 2) rfl
    have d3 := F2.cell (j := 3) rfl
    exact bodyPost_ret (v := (⟨id, f, k, y⟩ : StampT).val) (by simp [results, Try.results55, go_sem, d0, d1, d2, d3]) rfl F1
end Go.Proofs.Ytieopadbbciciaa
