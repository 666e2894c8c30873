/- The drawn arguments of the laws on strings. -/
import Derived.Test.YtmnlkcclcnnhmaaGreatDoorCurT
namespace Go.Proofs.YtmnlkcclcnnhmaaGreatDoor
open Go.RowKit

theorem cur_newT {w : World} {a : Option Addr} {cs : List Int} (cap : Nat) (hm : cs.length ≤ maxLen) (hr : Reads w a (bytesV cs)) (hz : ∀ z ∈ cs, 0 ≤ z ∧ z ≤ 255):
    Cur (w.alloc (.cells #[.slice a cs.length cap, .int .i64 0, .int .u64 0] 63)) w.heap.size 0 :=
  ⟨a, cap, 0, 0, cs, RowIs.new w 63 [.slice a cs.length cap, .int .i64 0, .int .u64 0], Nat.le_refl _, hm, hz, hr.below (Go.Joins.below_alloc1 w _), by
    rcases hr with h0 | ⟨b, off, rfl, hb, _⟩
    · left; simpa [bytesV] using h0
    · right; intro q hq; injection hq with hq; rw [← hq]; exact hb⟩
theorem below_curT {w w' : World} {o : Obj} (h : (w.alloc o).grownBy w' (some w.heap.size)) : Below w.heap.size w w' :=
  (Go.Joins.below_alloc1 w o).grown h (by simp) (fun q hq => by injection hq with hq; omega)
/-- 'c.of([]string{..})': the list is built first -/
theorem of_lit (g n : Nat) (zs : List ByteArray) (w : World) (h : Cur w g n) (hn : n ≤ 1048570) (h1 : 2 ≤ zs.length) (h2 : zs.length ≤ 200) (os : Array Value) (ho : os = (strs zs).toArray) (k : Nat) (hk : k = zs.length) :
    Calls Tryz.prog 56 #[.pointer (some ⟨g, 0, none⟩), .slice (some ⟨w.heap.size, 0, none⟩) k k] (w.alloc (.cells os 9)) (DrawnT w g (n + 2) (fun t => t ∈ zs)) := by
  subst ho; subst hk
  have hb := Go.Joins.below_alloc1 w (.cells (strs zs).toArray 9)
  have H0 := of_any g n zs.length (some ⟨w.heap.size, 0, none⟩) zs (w.alloc (.cells (strs zs).toArray 9)) (h.below hb) hn h1 h2 (RowIs.new w 9 (strs zs)).reads
    (fun p hp => by injection hp with hp; rw [← hp]; exact Nat.ne_of_gt h.lt)
  exact H0.mono fun _ _ ⟨t, e, ht, hc, hg⟩ => ⟨t, e, ht, hc, grownBy_trans (World.grownBy_alloc w _ (some g)) hg⟩
end Go.Proofs.YtmnlkcclcnnhmaaGreatDoor
