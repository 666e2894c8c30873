/- Blocks by value: their conversion, comparison, size and marks; IsSheet, IsBlock. -/
import Derived.Test.YtiiifoieigmfoaaGrid
import Derived.Test.YtiiifoieigmfoaaRowX
import Derived.ChangeArms
namespace Go.Proofs.Ytiiifoieigmfoaa
open Go.RowKit

set_option maxHeartbeats 1000000 in
theorem toBlock_any (a : Option Addr) (cap : Nat) (zs : List ByteArray) (w : World) (hb : zs.length ≤ 2097152) (hr : Reads w a (strs zs)) :
    Calls Try.prog 17 #[.agg #[.slice a zs.length cap]] w fun e w' => ∃ g, e = .returned (.agg #[.slice (some ⟨g, 0, none⟩) zs.length zs.length]) ∧ w.heap.size ≤ g ∧ RowIs w' g 9 (strs zs) ∧ Below w.heap.size w w' := by
  have HC := Lib.hid (fun w hr => toStringS_any a cap zs w hb hr)
  have HR := Lib.hid hr
  clear hr
  go_enter Try.func17, Try.ntmps17
  go_wp2_with fail
  refine (HC.out _ (HR.out.below (Go.Joins.below_alloc3 w _ _ _))).mono ?_
  rintro e w1 ⟨g, rfl, hg, hrow, hb1⟩
  obtain ⟨R1, R2⟩ := three_new w (.cells #[.slice a zs.length cap] 28) (.slice none 0 0) (.slice none 0 0) 31 31
  have R1' := R1.below hb1
  have R2' := R2.below hb1
  have q1 := R1'.cell (j := 0) rfl
  have q2 := R2'.cell (j := 0) rfl
  have f1 := R1'.free 0
  have f2 := R2'.free 0
  have q3 := fun v1 v2 => ((R1'.far (p := ⟨w.heap.size + 1 + 1, 0, none⟩) (by simp) v1).set 0 v2).cell (j := 0) rfl
  have HG : Hid (w.heap.size + 1 + 1 < g) := Lib.hid (by simp at hg; omega)
  have HB := Lib.hid ((Go.Joins.below_alloc3 w _ _ _).trans (hb1.mono (by simp; omega)))
  have HROW := Lib.hid hrow
  clear hb1 hrow hg R1 R2 R1' R2'
  go_wp2_with fail
  exact bodyPost_ret (v := .agg #[.slice (some ⟨g, 0, none⟩) zs.length zs.length]) (by simp [results, Try.results17, go_sem, q3]) rfl ⟨g, rfl, by have := HG.out; omega, (HROW.out.far (by have := HG.out; dsimp only; omega) _).far (by have := HG.out; dsimp only; omega) _, (HB.out.setCell (by dsimp only; omega) _).setCell (by dsimp only; omega) _⟩
set_option maxHeartbeats 1000000 in
theorem eqBlock_any (a b : Option Addr) (ca cb : Nat) (xs ys : List ByteArray) (w : World) (hm : xs.length ≤ maxLen) (hm2 : ys.length ≤ maxLen) (hx : Reads w a (strs xs)) (hy : Reads w b (strs ys)) :
    Calls Try.prog 19 #[.agg #[.slice a xs.length ca], .agg #[.slice b ys.length cb]] w fun e w' => e = .returned (.bool (decide (xs = ys))) ∧ Below w.heap.size w w' := by
  have h1 := fun w hx hy => eqStringS_any a b ca cb xs ys w hm hm2 hx hy
  generalize decide (xs = ys) = r at h1 ⊢
  have HX := Lib.hid hx
  have HY := Lib.hid hy
  clear hx hy
  cases r
  all_goals
    have H1 := Lib.hid h1
    clear h1
    go_enter Try.func19, Try.ntmps19
    go_wp2_with fail
    refine (H1.out _ (HX.out.below (Go.Joins.below_alloc2 w _ _)) (HY.out.below (Go.Joins.below_alloc2 w _ _))).mono ?_
    rintro e w1 ⟨rfl, hd⟩
    have HB := Lib.hid ((Go.Joins.below_alloc2 w _ _).trans (hd.below _))
    clear hd
    go_wp2_with fail
    go_ret
    exact ⟨rfl, HB.out⟩
theorem szBlock_big (a : Option Addr) (cap : Nat) (zs : List ByteArray) (left : Int) (w : World) (hm : zs.length ≤ maxLen) (hr : Reads w a (strs zs)) (h0 : 0 ≤ left) (h1 : left ≤ 1048576) (h : left < (totS zs : Int)) (hz : ∀ z ∈ zs, z.size ≤ maxLen) :
    Calls Try.prog 15 #[.agg #[.slice a zs.length cap], .int .i64 left] w fun e w' => e = .returned (.int .i64 (-1)) ∧ Below w.heap.size w w' := by
  have H1 := Lib.hid (fun w hr => szStringS_big a cap zs left w hm hr h0 h1 h hz)
  have HR := Lib.hid hr
  clear hr hz h
  go_enter Try.func15, Try.ntmps15
  go_wp2_with fail
  refine (H1.out _ (HR.out.below (Go.Joins.below_alloc1 w _))).mono ?_
  rintro e _ ⟨rfl, rfl⟩
  go_wp2_with fail
  go_ret
  exact ⟨rfl, Go.Joins.below_alloc1 w _⟩
theorem szBlock_ok (a : Option Addr) (cap : Nat) (zs : List ByteArray) (left : Int) (w : World) (hr : Reads w a (strs zs)) (h1 : left ≤ 1048576) (h : (totS zs : Int) ≤ left) :
    Calls Try.prog 15 #[.agg #[.slice a zs.length cap], .int .i64 left] w fun e w' => e = .returned (.int .i64 (left - (totS zs : Int))) ∧ Below w.heap.size w w' := by
  have H1 := Lib.hid (fun w hr => szStringS_ok a cap zs left w hr h1 h)
  have HR := Lib.hid hr
  have hn : 0 ≤ left - (totS zs : Int) := by omega
  clear hr
  go_enter Try.func15, Try.ntmps15
  go_wp2_with fail
  refine (H1.out _ (HR.out.below (Go.Joins.below_alloc1 w _))).mono ?_
  rintro e _ ⟨rfl, rfl⟩
  go_wp2_with fail
  go_ret
  exact ⟨rfl, Go.Joins.below_alloc1 w _⟩
theorem markBlock_any (a : Option Addr) (n cap base : Nat) (xs : List Value) (kk : Int) (k : Nat) (w : World) (hkk : kk = (k : Int)) (hk : 0 < k) (hk2 : k ≤ 549755813888) (hn : n ≤ 549755813888)
    (h : w.ownsRow base 9 1 (.slice a n cap) n xs) :
    Calls Try.prog 27 #[.agg #[.slice a n cap], .int .i64 kk] w fun e w' => e = .returned (.int .i64 (kk + (n : Int))) ∧ w.grownBy w' (Value.slice a n cap).ownBlock := by
  subst hkk
  have H1 := Lib.hid (fun w h => markStringS_any a n cap base xs _ k w rfl hk hk2 hn h)
  have H := Lib.hid h
  clear h
  go_enter Try.func27, Try.ntmps27
  go_wp2_with fail
  refine (H1.out _ (H.out.alloc _)).mono ?_
  rintro e w1 ⟨rfl, _, hg⟩
  have HG := Lib.hid (grownBy_trans (below_grown (Go.Joins.below_alloc1 w _) (Value.slice a n cap).ownBlock) hg)
  clear hg
  go_wp2_with fail
  go_ret
  exact ⟨rfl, HG.out⟩
theorem specIsSheet_any (a : Option Addr) (cap : Nat) (zs : List ByteArray) (w : World) (hm : zs.length ≤ maxLen) (hz : ∀ z ∈ zs, z.size ≤ maxLen) (hr : Reads w a (strs zs)) :
    Calls Try.prog 11 #[.slice a zs.length cap] w fun e w' => e = .returned (.bool (gridB zs 5)) ∧ Below w.heap.size w w' := by
  have H := Lib.hid (l4Rows_any a cap zs 5 w hm hz hr)
  clear hr
  go_enter Try.func11, Try.ntmps11
  go_wp2_with fail
  refine H.out.mono ?_
  rintro e w1 ⟨rfl, hb⟩
  go_wp2_with fail
  go_ret
  exact ⟨rfl, hb.below _⟩
theorem implIsSheet_any (a : Option Addr) (cap : Nat) (zs : List ByteArray) (w : World) (hm : zs.length ≤ maxLen) (hz : ∀ z ∈ zs, z.size ≤ maxLen) (hr : Reads w a (strs zs)) :
    Calls Try.prog 13 #[.slice a zs.length cap] w fun e w' => e = .returned (.bool (gridB zs 5)) ∧ Below w.heap.size w w' := by
  have H := Lib.hid (isGrid_any a cap zs 5 w hm hz hr)
  clear hr
  go_enter Try.func13, Try.ntmps13
  go_wp2_with fail
  refine H.out.mono ?_
  rintro e _ ⟨rfl, rfl⟩
  go_wp2_with fail
  go_ret
  exact ⟨rfl, Below.refl _ _⟩
theorem specIsBlock_any (a : Option Addr) (cap : Nat) (zs : List ByteArray) (w : World) (hm : zs.length ≤ maxLen) (hz : ∀ z ∈ zs, z.size ≤ maxLen) (hr : Reads w a (strs zs)) :
    Calls Try.prog 16 #[.agg #[.slice a zs.length cap]] w fun e w' => e = .returned (.bool (gridB zs 3)) ∧ Below w.heap.size w w' := by
  have H := Lib.hid (fun w hr => l4Rows_any a cap zs 3 w hm hz hr)
  have HR := Lib.hid hr
  clear hr
  go_enter Try.func16, Try.ntmps16
  go_wp2_with fail
  refine (H.out _ (HR.out.below (Go.Joins.below_alloc1 w _))).mono ?_
  rintro e w1 ⟨rfl, hd⟩
  have HB := Lib.hid ((Go.Joins.below_alloc1 w _).trans (hd.below _))
  clear hd
  go_wp2_with fail
  go_ret
  exact ⟨rfl, HB.out⟩
theorem isBlock_any (a : Option Addr) (cap : Nat) (zs : List ByteArray) (w : World) (hm : zs.length ≤ maxLen) (hz : ∀ z ∈ zs, z.size ≤ maxLen) (hr : Reads w a (strs zs)) :
    Calls Try.prog 38 #[.agg #[.slice a zs.length cap]] w fun e w' => e = .returned (.bool (gridB zs 3)) ∧ Below w.heap.size w w' := by
  have H := Lib.hid (fun w hr => isGrid_any a cap zs 3 w hm hz hr)
  have HR := Lib.hid hr
  clear hr
  go_enter Try.func38, Try.ntmps38
  go_wp2_with fail
  refine (H.out _ (HR.out.below (Go.Joins.below_alloc1 w _))).mono ?_
  rintro e _ ⟨rfl, rfl⟩
  go_wp2_with fail
  go_ret
  exact ⟨rfl, Go.Joins.below_alloc1 w _⟩
theorem implIsBlock_any (a : Option Addr) (cap : Nat) (zs : List ByteArray) (w : World) (hm : zs.length ≤ maxLen) (hz : ∀ z ∈ zs, z.size ≤ maxLen) (hr : Reads w a (strs zs)) :
    Calls Try.prog 18 #[.agg #[.slice a zs.length cap]] w fun e w' => e = .returned (.bool (gridB zs 3)) ∧ Below w.heap.size w w' := by
  have H := Lib.hid (fun w hr => isBlock_any a cap zs w hm hz hr)
  have HR := Lib.hid hr
  clear hr
  go_enter Try.func18, Try.ntmps18
  go_wp2_with fail
  refine (H.out _ (HR.out.below (Go.Joins.below_alloc1 w _))).mono ?_
  rintro e w1 ⟨rfl, hb⟩
  have HB := Lib.hid ((Go.Joins.below_alloc1 w _).trans (hb.mono (by simp)))
  clear hb
  go_wp2_with fail
  go_ret
  exact ⟨rfl, HB.out⟩
end Go.Proofs.Ytiiifoieigmfoaa
