/- The drawn arguments of the laws on strings. -/
import Derived.Test.YtieopadbbciciaaCurT
namespace Go.Proofs.Ytieopadbbciciaa
open Go.RowKit

theorem cur_newT {w : World} {a : Option Addr} {cs : List Int} (cap : Nat) (hm : cs.length ≤ maxLen) (hr : Reads w a (bytesV cs)) (hz : ∀ z ∈ cs, 0 ≤ z ∧ z ≤ 255):
    Cur (w.alloc (.cells #[.slice a cs.length cap, .int .i64 0, .int .u64 0] 65)) w.heap.size 0 :=
  ⟨a, cap, 0, 0, cs, RowIs.new w 65 [.slice a cs.length cap, .int .i64 0, .int .u64 0], Nat.le_refl _, hm, hz, hr.below (Go.Joins.below_alloc1 w _), by
    rcases hr with h0 | ⟨b, off, rfl, hb, _⟩
    · left; simpa [bytesV] using h0
    · right; intro q hq; injection hq with hq; rw [← hq]; exact hb⟩
theorem below_curT {w w' : World} {o : Obj} (h : (w.alloc o).grownBy w' (some w.heap.size)) : Below w.heap.size w w' :=
  (Go.Joins.below_alloc1 w o).grown h (by simp) (fun q hq => by injection hq with hq; omega)
end Go.Proofs.Ytieopadbbciciaa
