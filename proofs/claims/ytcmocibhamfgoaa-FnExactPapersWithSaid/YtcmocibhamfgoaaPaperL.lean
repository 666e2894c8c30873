/- The laws of IsPaper, ArePapers, walked out of the contracts. -/
import Derived.Test.YtcmocibhamfgoaaPaperA
import Derived.Test.YtcmocibhamfgoaaPaperG
import Derived.Test.YtcmocibhamfgoaaOwn
namespace Go.Proofs.Ytcmocibhamfgoaa
open Go.ChangeShapes Go.WideShapes Go.ChangeAt Go.RowKit

theorem szPaper_any (c : PaperT) (left : Int) (w : World) (h1 : 0 ≤ left) (h2 : left ≤ 1048576) (hm : c.mark.size ≤ maxLen) :
    Calls Try.prog 22 #[.agg #[.int .i64 c.id, .int .i64 c.thick, .int .i64 c.tint, .string c.mark, .bool c.laid], .int .i64 left] w fun e w' => ∃ r : Int, e = .returned (.int .i64 r) ∧ (r = -1 ∨ (0 ≤ r ∧ r ≤ left)) ∧ Below w.heap.size w w' := by
  unfold maxLen at hm
  by_cases h : left - (c.mark.size : Int) < 0
  · go_enter Try.func22, Try.ntmps22
    go_wp2
    go_ret
    exact ⟨-1, rfl, .inl rfl, Go.Joins.below_alloc1 _ _⟩
  · go_enter Try.func22, Try.ntmps22
    go_wp2
    go_ret
    exact ⟨left - (c.mark.size : Int), rfl, .inr ⟨by omega, by omega⟩, Go.Joins.below_alloc1 _ _⟩
set_option maxHeartbeats 1000000 in
theorem szPaperS_any (a : Option Addr) (cap : Nat) (zs : List PaperT) (w : World) (hm : zs.length ≤ maxLen) (hr : Reads w a (papers zs)) (hfit : ∀ z ∈ zs, z.mark.size ≤ maxLen) :
    Calls Try.prog 26 #[.slice a zs.length cap, .int .i64 1048576] w fun e w' => ∃ r : Int, e = .returned (.int .i64 r) ∧ (r = -1 ∨ (0 ≤ r ∧ r ≤ 1048576 ∧ zs.length ≤ 1048576)) ∧ Below w.heap.size w w' := by
  have HR := Lib.hid hr
  have HF := Lib.hid hfit
  clear hr hfit
  unfold maxLen at hm
  by_cases hbig : 1048576 < zs.length
  · go_enter Try.func26, Try.ntmps26
    go_wp2
    go_ret
    exact ⟨-1, rfl, .inl rfl, Below.refl _ _⟩
  · have hle : zs.length ≤ 1048576 := by omega
    clear hbig
    go_enter Try.func26, Try.ntmps26
    go_wp2
    go_loopw [1, 5] (fun q i wr => ∃ k : Nat, ∃ r : Int, k ≤ zs.length ∧ i = .int .i64 k ∧ q = .int .i64 r ∧ 0 ≤ r ∧ r ≤ 1048576 ∧ Below w.heap.size w wr) (fun _ i _ => zs.length - (intOf i).toNat)
    case atStart => exact ⟨0, _, Nat.zero_le _, rfl, rfl, by omega, by omega, Below.refl _ _⟩
    case round =>
      obtain ⟨k, r, hk, rfl, rfl, hr1, hr2, hbel⟩ := hrel
      by_cases hlt : k < zs.length
      · rcases HR.out.below hbel with h0 | ⟨b, off, rfl, hb2, hc⟩
        · have := papers_length zs; rw [h0] at this; simp at this; omega
        obtain ⟨g0, g1, g2, g3, g4⟩ := papers_get hlt
        have hc0 := hc _ _ g0
        have hc1 := hc _ _ g1
        have hc2 := hc _ _ g2
        have hc3 := hc _ _ g3
        have hc4 := hc _ _ g4
        simp only [← Nat.add_assoc] at hc1 hc2 hc3 hc4
        have HB := Lib.hid hbel
        clear hc g0 g1 g2 g3 g4 hbel
        go_wp2_with fail
        refine (szPaper_any zs[k] r _ hr1 hr2 (HF.out _ (List.getElem_mem hlt))).mono ?_
        rintro e w1 ⟨r2, rfl, hr3, hb1⟩
        have HB1 := Lib.hid (HB.out.trans (hb1.mono HB.out.size))
        clear hb1
        rcases hr3 with rfl | ⟨hr3, hr4⟩
        · go_wp2_with fail
          go_ret
          exact ⟨-1, rfl, .inl rfl, HB1.out⟩
        · go_wp2_with fail
          go_roundw
          case rel => exact ⟨k + 1, r2, by omega, by go_num, rfl, hr3, by omega, HB1.out⟩
          case measure => simp [intOf]; omega
      · go_wp2_with fail
        go_ret
        exact ⟨r, rfl, .inr ⟨hr1, hr2, hle⟩, hbel⟩
/-- one paper by value -/
theorem arg_paper {H : Type} {enc : TypeId × Value → H} {W : World} {base : Nat} {v : Value} {d : DataW H} {p : List MemPlace} (hv : Value.okWide Try.prog W .any base 30 v) (h : DataW.Trod enc Try.prog W 0 (fun _ => true) true 30 v d p) :
    ∃ c : PaperT, v = c.val ∧ c.Fits := by
  obtain ⟨fs, hfs, _⟩ := laws_paper_fields
  obtain ⟨cs, rfl, hsz⟩ := okWide_struct hfs hv
  obtain ⟨fuel, hf⟩ := h
  obtain ⟨c, hc, hfit⟩ := paper_of_trod hf
  refine ⟨c, ?_, hfit⟩
  have : cs.toList = c.cells := by simpa [Value.cells] using hc
  show Value.agg cs = Value.agg _
  congr 1
  apply Array.ext'
  rw [this]; rfl

theorem specArePapers_any (a : Option Addr) (cap : Nat) (zs : List PaperT) (w : World) (hm : zs.length ≤ maxLen) (hr : Reads w a (papers zs)) (hfit : ∀ z ∈ zs, z.mark.size ≤ maxLen) :
    Calls Try.prog 27 #[.slice a zs.length cap] w fun e w' => e = .returned (.bool (papersOk zs)) ∧ Below w.heap.size w w' := by
  have H := Lib.hid (l3Good_any a cap zs w hm hr hfit)
  clear hr hfit
  go_enter Try.func27, Try.ntmps27
  go_wp2_with fail
  refine H.out.mono ?_
  rintro e w1 ⟨rfl, hb⟩
  go_wp2_with fail
  go_ret
  exact ⟨rfl, hb⟩
theorem specIsPaper_any (c : PaperT) (w : World) (hm : c.mark.size ≤ maxLen) :
    Calls Try.prog 23 #[c.val] w fun e w' => e = .returned (.bool (paperOk c)) ∧ Below w.heap.size w w' := by
  have H := Lib.hid (fun w => l3One_any c w hm)
  go_enter Try.func23, Try.ntmps23
  go_wp2_with fail
  refine (H.out _).mono ?_
  rintro e w1 ⟨rfl, hb⟩
  have HB := Lib.hid hb
  clear hb
  go_wp2_with fail
  go_ret
  exact ⟨rfl, by first | exact HB.out | exact (Go.Joins.below_alloc1 _ _).trans (HB.out.mono (by simp))⟩
theorem implArePapers_any (a : Option Addr) (cap : Nat) (zs : List PaperT) (w : World) (hm : zs.length ≤ maxLen) (hr : Reads w a (papers zs)) (hfit : ∀ z ∈ zs, z.mark.size ≤ maxLen) :
    Calls Try.prog 29 #[.slice a zs.length cap] w fun e w' => e = .returned (.bool (papersOk zs)) ∧ Below w.heap.size w w' := by
  have H := Lib.hid (arePapers_any a cap zs w hm hr hfit)
  clear hr hfit
  go_enter Try.func29, Try.ntmps29
  go_wp2_with fail
  refine H.out.mono ?_
  rintro e w1 ⟨rfl, hb⟩
  go_wp2_with fail
  go_ret
  exact ⟨rfl, hb⟩
theorem implIsPaper_any (c : PaperT) (w : World) (hm : c.mark.size ≤ maxLen) :
    Calls Try.prog 25 #[c.val] w fun e w' => e = .returned (.bool (paperOk c)) ∧ Below w.heap.size w w' := by
  have H := Lib.hid (fun w => isPaper_any c w hm)
  go_enter Try.func25, Try.ntmps25
  go_wp2_with fail
  refine (H.out _).mono ?_
  rintro e w1 ⟨rfl, hb⟩
  have HB := Lib.hid hb
  clear hb
  go_wp2_with fail
  go_ret
  exact ⟨rfl, by first | exact HB.out | exact (Go.Joins.below_alloc1 _ _).trans (HB.out.mono (by simp))⟩
set_option maxHeartbeats 1000000 in
theorem FnExactIsPaper_walk {w : World} (c : PaperT) (h : c.Fits) : Calls Try.prog 7 #[c.val] w fun e w' => e = .returned (.bool true) ∧ Below w.heap.size w w' := by
  have hm : c.mark.size ≤ maxLen := h.2.2.2.2.2.2
  generalize hf : paperOk c = r
  have h1 := fun w => specIsPaper_any c w hm
  have h2 := fun w => implIsPaper_any c w hm
  rw [hf] at h1 h2
  have H1 := Lib.hid h1
  have H2 := Lib.hid h2
  have HM := Lib.hid hm
  clear h1 h2 hf hm h
  have hbox : ∀ wx : World, Below (w.alloc (.cells #[.int .i64 c.id, .int .i64 c.thick, .int .i64 c.tint, .string c.mark, .bool c.laid] 30)).heap.size (w.alloc (.cells #[.int .i64 c.id, .int .i64 c.thick, .int .i64 c.tint, .string c.mark, .bool c.laid] 30)) wx → wx.cell? ⟨w.heap.size, 0, none⟩ = some (.int .i64 c.id) ∧ wx.cell? ⟨w.heap.size, 1, none⟩ = some (.int .i64 c.thick) ∧ wx.cell? ⟨w.heap.size, 2, none⟩ = some (.int .i64 c.tint) ∧ wx.cell? ⟨w.heap.size, 3, none⟩ = some (.string c.mark) ∧ wx.cell? ⟨w.heap.size, 4, none⟩ = some (.bool c.laid) := fun wx hb => ⟨(hb.cell (p := ⟨w.heap.size, 0, none⟩) (by simp)).trans ((Go.Joins.cell_of_block (heap_alloc_new w _) 0).trans rfl), (hb.cell (p := ⟨w.heap.size, 1, none⟩) (by simp)).trans ((Go.Joins.cell_of_block (heap_alloc_new w _) 1).trans rfl), (hb.cell (p := ⟨w.heap.size, 2, none⟩) (by simp)).trans ((Go.Joins.cell_of_block (heap_alloc_new w _) 2).trans rfl), (hb.cell (p := ⟨w.heap.size, 3, none⟩) (by simp)).trans ((Go.Joins.cell_of_block (heap_alloc_new w _) 3).trans rfl), (hb.cell (p := ⟨w.heap.size, 4, none⟩) (by simp)).trans ((Go.Joins.cell_of_block (heap_alloc_new w _) 4).trans rfl)⟩
  have HBOX := Lib.hid hbox
  have HB0 := Lib.hid (Below.refl (w.alloc (.cells #[.int .i64 c.id, .int .i64 c.thick, .int .i64 c.tint, .string c.mark, .bool c.laid] 30)).heap.size (w.alloc (.cells #[.int .i64 c.id, .int .i64 c.thick, .int .i64 c.tint, .string c.mark, .bool c.laid] 30)))
  clear hbox
  go_enter Try.func7, Try.ntmps7
  go_wp2_with fail
  refine (szPaper_any c 1048576 _ (by omega) (by omega) HM.out).mono ?_
  rintro e w1 ⟨q, rfl, hq, hb1⟩
  have HB1 := Lib.hid (HB0.out.trans (hb1.mono HB0.out.size))
  have hk1 := HBOX.out _ HB1.out
  obtain ⟨k1_0, k1_1, k1_2, k1_3, k1_4⟩ := hk1
  clear hb1
  rcases hq with rfl | ⟨hq1, hq2⟩
  · go_wp2_with fail
    go_ret
    exact ⟨rfl, (Go.Joins.below_alloc1 _ _).trans (HB1.out.mono (by simp))⟩
  go_wp2_with fail
  refine (toPaper_any c _).mono ?_
  rintro e w2 ⟨rfl, hb2⟩
  have HB2 := Lib.hid (HB1.out.trans (hb2.mono HB1.out.size))
  have hk2 := HBOX.out _ HB2.out
  obtain ⟨k2_0, k2_1, k2_2, k2_3, k2_4⟩ := hk2
  clear hb2 k1_0 k1_1 k1_2 k1_3 k1_4
  go_wp2_with fail
  refine (H1.out _).mono ?_
  rintro e w3 ⟨rfl, hb3⟩
  have HB3 := Lib.hid (HB2.out.trans (hb3.mono HB2.out.size))
  have hk3 := HBOX.out _ HB3.out
  obtain ⟨k3_0, k3_1, k3_2, k3_3, k3_4⟩ := hk3
  clear hb3 k2_0 k2_1 k2_2 k2_3 k2_4
  go_wp2_with fail
  refine (toPaper_any c _).mono ?_
  rintro e w4 ⟨rfl, hb4⟩
  have HB4 := Lib.hid (HB3.out.trans (hb4.mono HB3.out.size))
  have hk4 := HBOX.out _ HB4.out
  obtain ⟨k4_0, k4_1, k4_2, k4_3, k4_4⟩ := hk4
  clear hb4 k3_0 k3_1 k3_2 k3_3 k3_4
  go_wp2_with fail
  refine (H2.out _).mono ?_
  rintro e w5 ⟨rfl, hb5⟩
  have HB5 := Lib.hid (HB4.out.trans (hb5.mono HB4.out.size))
  have hk5 := HBOX.out _ HB5.out
  obtain ⟨k5_0, k5_1, k5_2, k5_3, k5_4⟩ := hk5
  clear hb5 k4_0 k4_1 k4_2 k4_3 k4_4
  go_wp2_with fail
  go_ret
  exact ⟨rfl, (Go.Joins.below_alloc1 _ _).trans (HB5.out.mono (by simp))⟩
set_option maxHeartbeats 4000000 in
theorem FnExactArePapers_walk {w : World} (x : Slc × List PaperT) (h : PapersIn w x.1 x.2) : Calls Try.prog 8 #[x.1.val] w fun e w' => e = .returned (.bool true) ∧ Below w.heap.size w w' := by
  obtain ⟨⟨ad, len, cap⟩, zs⟩ := x
  obtain ⟨hs, hm, hr, hfit0⟩ := h
  simp only at hs hm hr hfit0
  subst hs
  have HR := Lib.hid hr
  have HM := Lib.hid hm
  have HF : Hid (∀ z ∈ zs, z.mark.size ≤ maxLen) := Lib.hid (fun z hz => (hfit0 z hz).2.2.2.2.2.2)
  clear hr hfit0
  generalize hf : papersOk zs = r
  have h1 := fun a c w hm hr => specArePapers_any a c zs w hm hr HF.out
  have h2 := fun a c w hm hr => implArePapers_any a c zs w hm hr HF.out
  rw [hf] at h1 h2
  have H1 := Lib.hid h1
  have H2 := Lib.hid h2
  clear h1 h2 hf
  have HS := Lib.hid (fun w hr => szPaperS_any ad cap zs w hm hr HF.out)
  unfold maxLen at hm
  have HB0 := Lib.hid (Below.refl w.heap.size w)
  go_enter Try.func8, Try.ntmps8
  go_wp2_with fail
  refine (HS.out _ (HR.out.below HB0.out)).mono ?_
  rintro e w1 ⟨q, rfl, hq, hb1⟩
  have HB1 := Lib.hid (HB0.out.trans (hb1.mono HB0.out.size))
  clear HB0  hb1
  rcases hq with rfl | ⟨hq1, hq2, hle⟩
  · go_wp2_with fail
    go_ret
    exact ⟨rfl, HB1.out⟩
  go_wp2_with fail
  refine (toPaperS_any _ _ zs _ (by omega) (HR.out.below HB1.out)).mono ?_
  rintro e w2 ⟨g1, rfl, hg2, hrow2, hb2⟩
  have ge_S := HB1.out.size
  have HB2 := Lib.hid (HB1.out.trans (hb2.mono HB1.out.size))
  clear HB1  hb2
  have S_2 := Lib.hid (hrow2.owns (base := w1.heap.size) (n := zs.length) (sz := 5) (by rw [papers_length]) (by unfold maxLen; omega) hg2)
  clear hrow2 hg2
  go_wp2_with fail
  refine (H1.out _ _ _ HM.out (own_reads S_2.out)).mono ?_
  rintro e w3 ⟨rfl, hb3⟩
  have HB3 := Lib.hid (HB2.out.trans (hb3.mono HB2.out.size))
  have S_3 := Lib.hid (own_below S_2.out hb3)
  clear HB2 S_2 hb3
  go_wp2_with fail
  refine (toPaperS_any _ _ zs _ (by omega) (HR.out.below HB3.out)).mono ?_
  rintro e w4 ⟨g2, rfl, hg4, hrow4, hb4⟩
  have lt_S_X := Lib.hid (fun q (hq : _ = some q) => (S_3.out.lt q hq).2)
  have ge_X := HB3.out.size
  have HB4 := Lib.hid (HB3.out.trans (hb4.mono HB3.out.size))
  have S_4 := Lib.hid (own_below S_3.out hb4)
  clear HB3 S_3 hb4
  have X_4 := Lib.hid (hrow4.owns (base := w3.heap.size) (n := zs.length) (sz := 5) (by rw [papers_length]) (by unfold maxLen; omega) hg4)
  clear hrow4 hg4
  go_wp2_with fail
  refine (H2.out _ _ _ HM.out (own_reads X_4.out)).mono ?_
  rintro e w5 ⟨rfl, hb5⟩
  have HB5 := Lib.hid (HB4.out.trans (hb5.mono HB4.out.size))
  have S_5 := Lib.hid (own_below S_4.out hb5)
  have X_5 := Lib.hid (own_below X_4.out hb5)
  clear HB4 S_4 X_4 hb5
  go_wp2_with fail
  refine (toPaperS_any _ _ zs _ (by omega) (HR.out.below HB5.out)).mono ?_
  rintro e w6 ⟨g3, rfl, hg6, hrow6, hb6⟩
  have lt_S_Z := Lib.hid (fun q (hq : _ = some q) => (S_5.out.lt q hq).2)
  have lt_X_Z := Lib.hid (fun q (hq : _ = some q) => (X_5.out.lt q hq).2)
  have ge_Z := HB5.out.size
  have HB6 := Lib.hid (HB5.out.trans (hb6.mono HB5.out.size))
  have S_6 := Lib.hid (own_below S_5.out hb6)
  have X_6 := Lib.hid (own_below X_5.out hb6)
  clear HB5 S_5 X_5 hb6
  have Z_6 := Lib.hid (hrow6.owns (base := w5.heap.size) (n := zs.length) (sz := 5) (by rw [papers_length]) (by unfold maxLen; omega) hg6)
  clear hrow6 hg6
  go_wp2_with fail
  refine (eqPaperS_any _ _ _ _ zs zs _ HM.out HM.out (own_reads X_6.out) (own_reads Z_6.out)).mono ?_
  rintro e w7 ⟨rfl, hb7⟩
  have HB7 := Lib.hid (HB6.out.trans (hb7.mono HB6.out.size))
  have S_7 := Lib.hid (own_below S_6.out hb7)
  have X_7 := Lib.hid (own_below X_6.out hb7)
  have Z_7 := Lib.hid (own_below Z_6.out hb7)
  clear HB6 S_6 X_6 Z_6 hb7
  simp only [decide_true]
  go_wp2_with fail
  go_ret
  exact ⟨rfl, HB7.out⟩
end Go.Proofs.Ytcmocibhamfgoaa
