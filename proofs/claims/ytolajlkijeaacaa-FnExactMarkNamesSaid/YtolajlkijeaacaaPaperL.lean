/- The laws of IsPaper, ArePapers, walked out of the contracts. -/
import Derived.Test.YtolajlkijeaacaaPaperA
import Derived.Test.YtolajlkijeaacaaPaperG
import Derived.Test.YtolajlkijeaacaaOwn
namespace Go.Proofs.Ytolajlkijeaacaa
open Go.ChangeShapes Go.WideShapes Go.ChangeAt Go.RowKit

theorem szPaper_any (c : PaperT) (left : Int) (w : World) (h1 : 0 ≤ left) (h2 : left ≤ 1048576) (hm : c.mark.size ≤ maxLen) :
    Calls Try.prog 30 #[.agg #[.int .i64 c.id, .int .i64 c.thick, .int .i64 c.tint, .string c.mark, .bool c.laid], .int .i64 left] w fun e w' => ∃ r : Int, e = .returned (.int .i64 r) ∧ (r = -1 ∨ (0 ≤ r ∧ r ≤ left)) ∧ Below w.heap.size w w' := by
  unfold maxLen at hm
  by_cases h : left - (c.mark.size : Int) < 0
  · go_enter Try.func30, Try.ntmps30
    go_wp2
    go_ret
    exact ⟨-1, rfl, .inl rfl, Go.Joins.below_alloc1 _ _⟩
  · go_enter Try.func30, Try.ntmps30
    go_wp2
    go_ret
    exact ⟨left - (c.mark.size : Int), rfl, .inr ⟨by omega, by omega⟩, Go.Joins.below_alloc1 _ _⟩
set_option maxHeartbeats 1000000 in
theorem szPaperS_any (a : Option Addr) (cap : Nat) (zs : List PaperT) (w : World) (hm : zs.length ≤ maxLen) (hr : Reads w a (papers zs)) (hfit : ∀ z ∈ zs, z.mark.size ≤ maxLen) :
    Calls Try.prog 16 #[.slice a zs.length cap, .int .i64 1048576] w fun e w' => ∃ r : Int, e = .returned (.int .i64 r) ∧ (r = -1 ∨ (0 ≤ r ∧ r ≤ 1048576 ∧ zs.length ≤ 1048576)) ∧ Below w.heap.size w w' := by
  have HR := Lib.hid hr
  have HF := Lib.hid hfit
  clear hr hfit
  unfold maxLen at hm
  by_cases hbig : 1048576 < zs.length
  · go_enter Try.func16, Try.ntmps16
    go_wp2
    go_ret
    exact ⟨-1, rfl, .inl rfl, Below.refl _ _⟩
  · have hle : zs.length ≤ 1048576 := by omega
    clear hbig
    go_enter Try.func16, Try.ntmps16
    go_wp2
    go_loopw [1, 5] (fun q i wr => ∃ k : Nat, ∃ r : Int, k ≤ zs.length ∧ i = .int .i64 k ∧ q = .int .i64 r ∧ 0 ≤ r ∧ r ≤ 1048576 ∧ Below w.heap.size w wr) (fun _ i _ => zs.length - (intOf i).toNat)
    case atStart => exact ⟨0, _, Nat.zero_le _, rfl, rfl, by omega, by omega, Below.refl _ _⟩
    case round =>
      obtain ⟨k, r, hk, rfl, rfl, hr1, hr2, hbel⟩ := hrel
      by_cases hlt : k < zs.length
      · rcases HR.out.below hbel with h0 | ⟨b, off, rfl, hb2, hc⟩
        · have := papers_length zs; rw [h0] at this; simp at this; omega
        obtain ⟨g0, g1, g2, g3, g4⟩ := papers_get hlt
        have hc0 := hc _ _ g0
        have hc1 := hc _ _ g1
        have hc2 := hc _ _ g2
        have hc3 := hc _ _ g3
        have hc4 := hc _ _ g4
        simp only [← Nat.add_assoc] at hc1 hc2 hc3 hc4
        have HB := Lib.hid hbel
        clear hc g0 g1 g2 g3 g4 hbel
        go_wp2_with fail
        refine (szPaper_any zs[k] r _ hr1 hr2 (HF.out _ (List.getElem_mem hlt))).mono ?_
        rintro e w1 ⟨r2, rfl, hr3, hb1⟩
        have HB1 := Lib.hid (HB.out.trans (hb1.mono HB.out.size))
        clear hb1
        rcases hr3 with rfl | ⟨hr3, hr4⟩
        · go_wp2_with fail
          go_ret
          exact ⟨-1, rfl, .inl rfl, HB1.out⟩
        · go_wp2_with fail
          go_roundw
          case rel => exact ⟨k + 1, r2, by omega, by go_num, rfl, hr3, by omega, HB1.out⟩
          case measure => simp [intOf]; omega
      · go_wp2_with fail
        go_ret
        exact ⟨r, rfl, .inr ⟨hr1, hr2, hle⟩, hbel⟩
/-- one paper by value -/
theorem arg_paper {H : Type} {enc : TypeId × Value → H} {W : World} {base : Nat} {v : Value} {d : DataW H} {p : List MemPlace} (hv : Value.okWide Try.prog W .any base 55 v) (h : DataW.Trod enc Try.prog W 0 (fun _ => true) true 55 v d p) :
    ∃ c : PaperT, v = c.val ∧ c.Fits := by
  obtain ⟨fs, hfs, _⟩ := laws_paper_fields
  obtain ⟨cs, rfl, hsz⟩ := okWide_struct hfs hv
  obtain ⟨fuel, hf⟩ := h
  obtain ⟨c, hc, hfit⟩ := paper_of_trod hf
  refine ⟨c, ?_, hfit⟩
  have : cs.toList = c.cells := by simpa [Value.cells] using hc
  show Value.agg cs = Value.agg _
  congr 1
  apply Array.ext'
  rw [this]; rfl

end Go.Proofs.Ytolajlkijeaacaa
