/- Blocks by value: their conversion, comparison, size and marks; IsSheet, IsBlock. -/
import Derived.Test.YtenedmkjbmbapaaGrid
import Derived.Test.YtenedmkjbmbapaaRowX
import Derived.ChangeArms
namespace Go.Proofs.Ytenedmkjbmbapaa
open Go.RowKit

set_option maxHeartbeats 1000000 in
theorem toBlock_any (a : Option Addr) (cap : Nat) (zs : List ByteArray) (w : World) (hb : zs.length ≤ 2097152) (hr : Reads w a (strs zs)) :
    Calls Try.prog 52 #[.agg #[.slice a zs.length cap]] w fun e w' => ∃ g, e = .returned (.agg #[.slice (some ⟨g, 0, none⟩) zs.length zs.length]) ∧ w.heap.size ≤ g ∧ RowIs w' g 9 (strs zs) ∧ Below w.heap.size w w' := by
  have HC := Lib.hid (fun w hr => toStringS_any a cap zs w hb hr)
  have HR := Lib.hid hr
  clear hr
  go_enter Try.func52, Try.ntmps52
  go_wp2_with fail
  refine (HC.out _ (HR.out.below (Go.Joins.below_alloc3 w _ _ _))).mono ?_
  rintro e w1 ⟨g, rfl, hg, hrow, hb1⟩
  obtain ⟨R1, R2⟩ := three_new w (.cells #[.slice a zs.length cap] 71) (.slice none 0 0) (.slice none 0 0) 45 45
  have R1' := R1.below hb1
  have R2' := R2.below hb1
  have q1 := R1'.cell (j := 0) rfl
  have q2 := R2'.cell (j := 0) rfl
  have f1 := R1'.free 0
  have f2 := R2'.free 0
  have q3 := fun v1 v2 => ((R1'.far (p := ⟨w.heap.size + 1 + 1, 0, none⟩) (by simp) v1).set 0 v2).cell (j := 0) rfl
  have HG : Hid (w.heap.size + 1 + 1 < g) := Lib.hid (by simp at hg; omega)
  have HB := Lib.hid ((Go.Joins.below_alloc3 w _ _ _).trans (hb1.mono (by simp; omega)))
  have HROW := Lib.hid hrow
  clear hb1 hrow hg R1 R2 R1' R2'
  go_wp2_with fail
  exact bodyPost_ret (v := .agg #[.slice (some ⟨g, 0, none⟩) zs.length zs.length]) (by simp [results, Try.results52, go_sem, q3]) rfl ⟨g, rfl, by have := HG.out; omega, (HROW.out.far (by have := HG.out; dsimp only; omega) _).far (by have := HG.out; dsimp only; omega) _, (HB.out.setCell (by dsimp only; omega) _).setCell (by dsimp only; omega) _⟩
set_option maxHeartbeats 1000000 in
theorem eqBlock_any (a b : Option Addr) (ca cb : Nat) (xs ys : List ByteArray) (w : World) (hm : xs.length ≤ maxLen) (hm2 : ys.length ≤ maxLen) (hx : Reads w a (strs xs)) (hy : Reads w b (strs ys)) :
    Calls Try.prog 58 #[.agg #[.slice a xs.length ca], .agg #[.slice b ys.length cb]] w fun e w' => e = .returned (.bool (decide (xs = ys))) ∧ Below w.heap.size w w' := by
  have h1 := fun w hx hy => eqStringS_any a b ca cb xs ys w hm hm2 hx hy
  generalize decide (xs = ys) = r at h1 ⊢
  have HX := Lib.hid hx
  have HY := Lib.hid hy
  clear hx hy
  cases r
  all_goals
    have H1 := Lib.hid h1
    clear h1
    go_enter Try.func58, Try.ntmps58
    go_wp2_with fail
    refine (H1.out _ (HX.out.below (Go.Joins.below_alloc2 w _ _)) (HY.out.below (Go.Joins.below_alloc2 w _ _))).mono ?_
    rintro e w1 ⟨rfl, hd⟩
    have HB := Lib.hid ((Go.Joins.below_alloc2 w _ _).trans (hd.below _))
    clear hd
    go_wp2_with fail
    go_ret
    exact ⟨rfl, HB.out⟩
theorem szBlock_big (a : Option Addr) (cap : Nat) (zs : List ByteArray) (left : Int) (w : World) (hm : zs.length ≤ maxLen) (hr : Reads w a (strs zs)) (h0 : 0 ≤ left) (h1 : left ≤ 1048576) (h : left < (totS zs : Int)) (hz : ∀ z ∈ zs, z.size ≤ maxLen) :
    Calls Try.prog 47 #[.agg #[.slice a zs.length cap], .int .i64 left] w fun e w' => e = .returned (.int .i64 (-1)) ∧ Below w.heap.size w w' := by
  have H1 := Lib.hid (fun w hr => szStringS_big a cap zs left w hm hr h0 h1 h hz)
  have HR := Lib.hid hr
  clear hr hz h
  go_enter Try.func47, Try.ntmps47
  go_wp2_with fail
  refine (H1.out _ (HR.out.below (Go.Joins.below_alloc1 w _))).mono ?_
  rintro e _ ⟨rfl, rfl⟩
  go_wp2_with fail
  go_ret
  exact ⟨rfl, Go.Joins.below_alloc1 w _⟩
theorem szBlock_ok (a : Option Addr) (cap : Nat) (zs : List ByteArray) (left : Int) (w : World) (hr : Reads w a (strs zs)) (h1 : left ≤ 1048576) (h : (totS zs : Int) ≤ left) :
    Calls Try.prog 47 #[.agg #[.slice a zs.length cap], .int .i64 left] w fun e w' => e = .returned (.int .i64 (left - (totS zs : Int))) ∧ Below w.heap.size w w' := by
  have H1 := Lib.hid (fun w hr => szStringS_ok a cap zs left w hr h1 h)
  have HR := Lib.hid hr
  have hn : 0 ≤ left - (totS zs : Int) := by omega
  clear hr
  go_enter Try.func47, Try.ntmps47
  go_wp2_with fail
  refine (H1.out _ (HR.out.below (Go.Joins.below_alloc1 w _))).mono ?_
  rintro e _ ⟨rfl, rfl⟩
  go_wp2_with fail
  go_ret
  exact ⟨rfl, Go.Joins.below_alloc1 w _⟩
theorem specIsSheet_any (a : Option Addr) (cap : Nat) (zs : List ByteArray) (w : World) (hm : zs.length ≤ maxLen) (hz : ∀ z ∈ zs, z.size ≤ maxLen) (hr : Reads w a (strs zs)) :
    Calls Try.prog 73 #[.slice a zs.length cap] w fun e w' => e = .returned (.bool (gridB zs 5)) ∧ Below w.heap.size w w' := by
  have H := Lib.hid (l4Rows_any a cap zs 5 w hm hz hr)
  clear hr
  go_enter Try.func73, Try.ntmps73
  go_wp2_with fail
  refine H.out.mono ?_
  rintro e w1 ⟨rfl, hb⟩
  go_wp2_with fail
  go_ret
  exact ⟨rfl, hb.below _⟩
theorem implIsSheet_any (a : Option Addr) (cap : Nat) (zs : List ByteArray) (w : World) (hm : zs.length ≤ maxLen) (hz : ∀ z ∈ zs, z.size ≤ maxLen) (hr : Reads w a (strs zs)) :
    Calls Try.prog 29 #[.slice a zs.length cap] w fun e w' => e = .returned (.bool (gridB zs 5)) ∧ Below w.heap.size w w' := by
  have H := Lib.hid (isGrid_any a cap zs 5 w hm hz hr)
  clear hr
  go_enter Try.func29, Try.ntmps29
  go_wp2_with fail
  refine H.out.mono ?_
  rintro e _ ⟨rfl, rfl⟩
  go_wp2_with fail
  go_ret
  exact ⟨rfl, Below.refl _ _⟩
theorem specIsBlock_any (a : Option Addr) (cap : Nat) (zs : List ByteArray) (w : World) (hm : zs.length ≤ maxLen) (hz : ∀ z ∈ zs, z.size ≤ maxLen) (hr : Reads w a (strs zs)) :
    Calls Try.prog 74 #[.agg #[.slice a zs.length cap]] w fun e w' => e = .returned (.bool (gridB zs 3)) ∧ Below w.heap.size w w' := by
  have H := Lib.hid (fun w hr => l4Rows_any a cap zs 3 w hm hz hr)
  have HR := Lib.hid hr
  clear hr
  go_enter Try.func74, Try.ntmps74
  go_wp2_with fail
  refine (H.out _ (HR.out.below (Go.Joins.below_alloc1 w _))).mono ?_
  rintro e w1 ⟨rfl, hd⟩
  have HB := Lib.hid ((Go.Joins.below_alloc1 w _).trans (hd.below _))
  clear hd
  go_wp2_with fail
  go_ret
  exact ⟨rfl, HB.out⟩
theorem isBlock_any (a : Option Addr) (cap : Nat) (zs : List ByteArray) (w : World) (hm : zs.length ≤ maxLen) (hz : ∀ z ∈ zs, z.size ≤ maxLen) (hr : Reads w a (strs zs)) :
    Calls Try.prog 71 #[.agg #[.slice a zs.length cap]] w fun e w' => e = .returned (.bool (gridB zs 3)) ∧ Below w.heap.size w w' := by
  have H := Lib.hid (fun w hr => isGrid_any a cap zs 3 w hm hz hr)
  have HR := Lib.hid hr
  clear hr
  go_enter Try.func71, Try.ntmps71
  go_wp2_with fail
  refine (H.out _ (HR.out.below (Go.Joins.below_alloc1 w _))).mono ?_
  rintro e _ ⟨rfl, rfl⟩
  go_wp2_with fail
  go_ret
  exact ⟨rfl, Go.Joins.below_alloc1 w _⟩
theorem implIsBlock_any (a : Option Addr) (cap : Nat) (zs : List ByteArray) (w : World) (hm : zs.length ≤ maxLen) (hz : ∀ z ∈ zs, z.size ≤ maxLen) (hr : Reads w a (strs zs)) :
    Calls Try.prog 30 #[.agg #[.slice a zs.length cap]] w fun e w' => e = .returned (.bool (gridB zs 3)) ∧ Below w.heap.size w w' := by
  have H := Lib.hid (fun w hr => isBlock_any a cap zs w hm hz hr)
  have HR := Lib.hid hr
  clear hr
  go_enter Try.func30, Try.ntmps30
  go_wp2_with fail
  refine (H.out _ (HR.out.below (Go.Joins.below_alloc1 w _))).mono ?_
  rintro e w1 ⟨rfl, hb⟩
  have HB := Lib.hid ((Go.Joins.below_alloc1 w _).trans (hb.mono (by simp)))
  clear hb
  go_wp2_with fail
  go_ret
  exact ⟨rfl, HB.out⟩
end Go.Proofs.Ytenedmkjbmbapaa
