/- Texts drawn from a cursor. -/
import Derived.Test.YtieopadbbciciaaCur
import Derived.Test.YtieopadbbciciaaMarkT
namespace Go.Proofs.Ytieopadbbciciaa
open Go.RowKit

/-- a drawn text, and the cursor behind it -/
def DrawnT (w : World) (g n : Nat) (P : ByteArray → Prop) (e : Ending) (w' : World) : Prop := ∃ t : ByteArray, e = .returned (.string t) ∧ P t ∧ Cur w' g n ∧ w.grownBy w' (some g)
/-- a drawn answer, and the cursor behind it -/
def DrawnB (w : World) (g n : Nat) (e : Ending) (w' : World) : Prop := ∃ b : Bool, e = .returned (.bool b) ∧ Cur w' g n ∧ w.grownBy w' (some g)
theorem one_any (g n : Nat) (m : Int) (w : World) (h : Cur w g n) (hn : n ≤ 1048570) (h1 : 2 ≤ m) (h2 : m ≤ 65536) :
    Calls Try.prog 54 #[.pointer (some ⟨g, 0, none⟩), .int .i64 m] w (DrawnB w g (n + 2)) := by
  have H := Lib.hid (pick_any g n m w h hn h1 h2)
  clear h
  go_enter Try.func54, Try.ntmps54
  go_wp2_with fail
  refine H.out.mono ?_
  rintro e w1 ⟨x, rfl, ⟨x1, x2⟩, hc1, hg1⟩
  have HC := Lib.hid hc1
  have HG := Lib.hid hg1
  clear hc1 hg1
  go_wp2_with fail
  go_ret
  exact ⟨_, rfl, HC.out, HG.out⟩
end Go.Proofs.Ytieopadbbciciaa
