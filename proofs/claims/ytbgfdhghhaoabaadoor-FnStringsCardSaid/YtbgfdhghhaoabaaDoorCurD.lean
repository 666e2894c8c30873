/- The drawn arguments of the laws on strings. -/
import Derived.Test.YtbgfdhghhaoabaaDoorCurT
namespace Go.Proofs.YtbgfdhghhaoabaaDoor
open Go.RowKit

theorem cur_newT {w : World} {a : Option Addr} {cs : List Int} (cap : Nat) (hm : cs.length ≤ maxLen) (hr : Reads w a (bytesV cs)) (hz : ∀ z ∈ cs, 0 ≤ z ∧ z ≤ 255):
    Cur (w.alloc (.cells #[.slice a cs.length cap, .int .i64 0, .int .u64 0] 59)) w.heap.size 0 :=
  ⟨a, cap, 0, 0, cs, RowIs.new w 59 [.slice a cs.length cap, .int .i64 0, .int .u64 0], Nat.le_refl _, hm, hz, hr.below (Go.Joins.below_alloc1 w _), by
    rcases hr with h0 | ⟨b, off, rfl, hb, _⟩
    · left; simpa [bytesV] using h0
    · right; intro q hq; injection hq with hq; rw [← hq]; exact hb⟩
theorem below_curT {w w' : World} {o : Obj} (h : (w.alloc o).grownBy w' (some w.heap.size)) : Below w.heap.size w w' :=
  (Go.Joins.below_alloc1 w o).grown h (by simp) (fun q hq => by injection hq with hq; omega)
/-- 'c.of([]string{..})': the list is built first -/
theorem of_lit (g n : Nat) (zs : List ByteArray) (w : World) (h : Cur w g n) (hn : n ≤ 1048570) (h1 : 2 ≤ zs.length) (h2 : zs.length ≤ 200) (os : Array Value) (ho : os = (strs zs).toArray) (k : Nat) (hk : k = zs.length) :
    Calls Tryd.prog 50 #[.pointer (some ⟨g, 0, none⟩), .slice (some ⟨w.heap.size, 0, none⟩) k k] (w.alloc (.cells os 9)) (DrawnT w g (n + 2) (fun t => t ∈ zs)) := by
  subst ho; subst hk
  have hb := Go.Joins.below_alloc1 w (.cells (strs zs).toArray 9)
  have H0 := of_any g n zs.length (some ⟨w.heap.size, 0, none⟩) zs (w.alloc (.cells (strs zs).toArray 9)) (h.below hb) hn h1 h2 (RowIs.new w 9 (strs zs)).reads
    (fun p hp => by injection hp with hp; rw [← hp]; exact Nat.ne_of_gt h.lt)
  exact H0.mono fun _ _ ⟨t, e, ht, hc, hg⟩ => ⟨t, e, ht, hc, grownBy_trans (World.grownBy_alloc w _ (some g)) hg⟩
abbrev sepL : List ByteArray := [⟨#[44]⟩, ⟨#[44]⟩, ⟨#[32]⟩, ⟨#[]⟩, ⟨#[44, 44]⟩]
theorem sepL_size : ∀ z ∈ sepL, z.size ≤ 2 := by decide +kernel
set_option maxHeartbeats 1000000 in
theorem drawSplit_any (a : Option Addr) (cap : Nat) (cs : List Int) (w : World) (hm : cs.length ≤ maxLen) (hr : Reads w a (bytesV cs)) (hz : ∀ z ∈ cs, 0 ≤ z ∧ z ≤ 255) :
    Calls Tryd.prog 24 #[.slice a cs.length cap] w fun e w' => ∃ x y : ByteArray, e = .returned (.tuple #[.string x, .string y]) ∧ x.size ≤ 10 ∧ y.size ≤ 2 ∧ Below w.heap.size w w' := by
  have HC := Lib.hid (cur_newT cap hm hr hz)
  have HA := Lib.hid (fun w g n h hn => any1_any g n w h hn)
  have HO := Lib.hid (fun w g n h hn => of_lit g n sepL w h hn (by decide) (by decide) #[.string ⟨#[44]⟩, .string ⟨#[44]⟩, .string ⟨#[32]⟩, .string ⟨#[]⟩, .string ⟨#[44, 44]⟩] rfl 5 rfl)
  have HS := Lib.hid sepL_size
  have HB0 : Hid (∀ w', (w.alloc (.cells #[.slice a cs.length cap, .int .i64 0, .int .u64 0] 59)).grownBy w' (some w.heap.size) → Below w.heap.size w w') := Lib.hid (fun w' h => below_curT h)
  clear hr hz
  go_enter Tryd.func24, Tryd.ntmps24
  go_wp2_with fail
  generalize w.alloc (.cells #[.slice a cs.length cap, .int .i64 0, .int .u64 0] 59) = w0 at *
  refine (HA.out _ _ 0 HC.out (by omega)).mono ?_
  rintro e w1 ⟨x, rfl, hx, hc1, hg1⟩
  have HC1 := Lib.hid hc1
  have HG1 := Lib.hid hg1
  clear hc1 hg1
  go_wp2_with fail
  refine (HO.out _ _ _ HC1.out (by omega)).mono ?_
  rintro e w2 ⟨y, rfl, hy, hc2, hg2⟩
  have HY := Lib.hid (HS.out y hy)
  have HG2 := Lib.hid (grownBy_trans HG1.out hg2)
  clear hc2 hg2 hy
  go_wp2_with fail
  go_ret2
  exact ⟨_, _, rfl, hx, HY.out, HB0.out _ HG2.out⟩
set_option maxHeartbeats 1000000 in
theorem drawLess_any (a : Option Addr) (cap : Nat) (cs : List Int) (w : World) (hm : cs.length ≤ maxLen) (hr : Reads w a (bytesV cs)) (hz : ∀ z ∈ cs, 0 ≤ z ∧ z ≤ 255) :
    Calls Tryd.prog 28 #[.slice a cs.length cap] w fun e w' => ∃ x y : ByteArray, e = .returned (.tuple #[.string x, .string y]) ∧ x.size ≤ 10 ∧ y.size ≤ 10 ∧ Below w.heap.size w w' := by
  have HC := Lib.hid (cur_newT cap hm hr hz)
  have HA := Lib.hid (fun w g n h hn => any1_any g n w h hn)
  have HB0 : Hid (∀ w', (w.alloc (.cells #[.slice a cs.length cap, .int .i64 0, .int .u64 0] 59)).grownBy w' (some w.heap.size) → Below w.heap.size w w') := Lib.hid (fun w' h => below_curT h)
  clear hr hz
  go_enter Tryd.func28, Tryd.ntmps28
  go_wp2_with fail
  generalize w.alloc (.cells #[.slice a cs.length cap, .int .i64 0, .int .u64 0] 59) = w0 at *
  refine (HA.out _ _ 0 HC.out (by omega)).mono ?_
  rintro e w1 ⟨x, rfl, hx, hc1, hg1⟩
  have HC1 := Lib.hid hc1
  have HG1 := Lib.hid hg1
  clear hc1 hg1
  go_wp2_with fail
  refine (HA.out _ _ _ HC1.out (by omega)).mono ?_
  rintro e w2 ⟨y, rfl, hy, hc2, hg2⟩
  have HG2 := Lib.hid (grownBy_trans HG1.out hg2)
  clear hc2 hg2
  go_wp2_with fail
  go_ret2
  exact ⟨_, _, rfl, hx, hy, HB0.out _ HG2.out⟩
end Go.Proofs.YtbgfdhghhaoabaaDoor
