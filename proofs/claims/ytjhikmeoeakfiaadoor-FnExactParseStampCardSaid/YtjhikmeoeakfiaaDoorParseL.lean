/- The law of ParseStamp, walked out of the contracts. -/
import Derived.Test.YtjhikmeoeakfiaaDoorParseR
import Derived.Test.YtjhikmeoeakfiaaDoorStampA
namespace Go.Proofs.YtjhikmeoeakfiaaDoor
open Go.ChangeShapes Go.WideShapes Go.ChangeAt Go.RowKit

theorem err_range_4 {x y z u : String × DataW Unit} {rest : List (String × DataW Unit)} {w : World} (h : laidMet Tryd.prog (x :: y :: z :: u :: ("strconv.ErrRange", Rows.laid_strconv_ErrRange) :: rest) w) : ErrVar w "strconv.ErrRange" := err_range (laidMet.tail (laidMet.tail (laidMet.tail (laidMet.tail h))))
theorem err_second_5 {x y z u v : String × DataW Unit} {rest : List (String × DataW Unit)} {w : World} (h : laidMet Tryd.prog (x :: y :: z :: u :: v :: ("strconv.ErrSyntax", Rows.laid_strconv_ErrSyntax) :: rest) w) : ErrVar w "strconv.ErrSyntax" := err_second (laidMet.tail (laidMet.tail (laidMet.tail (laidMet.tail (laidMet.tail h)))))
set_option maxHeartbeats 1000000 in
set_option maxRecDepth 100000 in
theorem FnExactParseStamp_walk {w : World} (HL : laidMet Tryd.prog Rows.fnExactParseStampRow.laid w) (hsh : w.ShapedOpen Tryd.prog) (s : ByteArray) (hm : s.size ≤ maxLen) : Calls Tryd.prog 5 #[.string s] w fun e w' => e = .returned (.bool true) ∧ Below w.heap.size w w' := by
  have HT := Lib.hid (show Tabs w from ⟨powTab_of HL, err_range_4 HL, err_second_5 HL, maxCell_of hsh⟩)
  clear HL hsh
  unfold maxLen at hm
  by_cases l1 : 1048576 < s.size
  · go_enter Tryd.func5, Tryd.ntmps5
    go_wp2_with fail
    go_ret
    exact ⟨rfl, Below.refl _ _⟩
  have h1 := fun w => specParseStamp_any s w (by omega)
  have h2 := fun w ht => implParseStamp_any s w (by omega) ht
  rw [fin_eq s] at h2
  generalize finC s (specC s) = r at h1 h2
  obtain ⟨⟨n0, n1, n2, n3⟩, b⟩ := r
  have hE := fun w => eqStamp_any ⟨n0, n1, n2, n3⟩ ⟨n0, n1, n2, n3⟩ w
  simp only [decide_true] at hE
  have H1 := Lib.hid h1
  have H2 := Lib.hid h2
  have HE := Lib.hid hE
  have HB0 := Lib.hid (Below.refl w.heap.size w)
  clear h1 h2 hE hm
  go_enter Tryd.func5, Tryd.ntmps5
  go_wp2_with fail
  refine (H1.out _).mono ?_
  rintro e w1 ⟨rfl, hb⟩
  have HB1 := Lib.hid (HB0.out.trans (hb.mono HB0.out.size))
  have HX := Lib.hid (RowIs.new w1 28 (⟨n0, n1, n2, n3⟩ : StampT).cells)
  have HB2 : Hid (Below w.heap.size w (w1.alloc (.cells #[.int .i64 n0, .int .i64 n1, .int .i64 n2, .int .i64 n3] 28))) := Lib.hid (HB1.out.alloc HB1.out.size _)
  have e0 : (w1.alloc (.cells (⟨n0, n1, n2, n3⟩ : StampT).cells.toArray 28)) = w1.alloc (.cells #[.int .i64 n0, .int .i64 n1, .int .i64 n2, .int .i64 n3] 28) := rfl
  rw [e0] at HX
  clear hb e0
  go_wp2_with fail
  generalize w1.alloc (.cells #[.int .i64 n0, .int .i64 n1, .int .i64 n2, .int .i64 n3] 28) = w2 at *
  refine (H2.out _ (HT.out.below HB2.out)).mono ?_
  rintro e w3 ⟨rfl, hb⟩
  have HB3 := Lib.hid (HB2.out.trans (hb.mono HB2.out.size))
  have hx := HX.out.below hb
  have hz := hx.alloc (.cells #[.int .i64 n0, .int .i64 n1, .int .i64 n2, .int .i64 n3] 28)
  have x0 := hz.cell (j := 0) rfl
  have x1 := hz.cell (j := 1) rfl
  have x2 := hz.cell (j := 2) rfl
  have x3 := hz.cell (j := 3) rfl
  clear hb hx hz
  go_wp2_with fail
  refine (HE.out _).mono ?_
  rintro e w4 ⟨rfl, hb⟩
  have HB4 := Lib.hid ((HB3.out.alloc HB3.out.size _).trans (hb.mono (by have := HB3.out.size; simp; omega)))
  clear hb
  go_wp2_with fail
  go_ret
  exact ⟨rfl, HB4.out⟩
end Go.Proofs.YtjhikmeoeakfiaaDoor
