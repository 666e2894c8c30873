/- Which combs match: both sides. -/
import Derived.Test.YtocjkgcbpgmhiaaCombG
namespace Go.Proofs.Ytocjkgcbpgmhiaa
open Go.RowKit

def nearB (g m off : Int) : Bool := (m == 0) || inB g (m - off) (m + off)
def matchB (c : CombT) (wide high off : Int) : Bool := nearB c.wide wide off && nearB c.high high off
def askB (m : Int) : Bool := (m == 0) || inB m 500 2000
def askedB (zs : List CombT) (wide high off : Int) : Bool := combsOk zs && askB wide && askB high && inB off 0 100

theorem l5Near_any (g m off : Int) (w : World) (h1 : 0 ≤ m) (h2 : m ≤ 2000) (h3 : 0 ≤ off) (h4 : off ≤ 100) : Calls Try.prog 76 #[.int .i64 g, .int .i64 m, .int .i64 off] w fun e w' => e = .returned (.bool (nearB g m off)) ∧ w = w' := by
  unfold nearB
  cases e0 : (m == 0)
  · go_enter Try.func76, Try.ntmps76
    go_wp2_with (go_at_call 47; refine (l1In_any _ _ _ _).mono ?_; rintro e w' ⟨rfl, rfl⟩)
    go_ret
    exact ⟨rfl, rfl⟩
  · go_enter Try.func76, Try.ntmps76
    go_wp2_with (go_at_call 47; refine (l1In_any _ _ _ _).mono ?_; rintro e w' ⟨rfl, rfl⟩)
    go_ret
    exact ⟨rfl, rfl⟩
theorem l5Match_any (c : CombT) (wide high off : Int) (w : World) (a1 : 0 ≤ wide) (a2 : wide ≤ 2000) (b1 : 0 ≤ high) (b2 : high ≤ 2000) (h3 : 0 ≤ off) (h4 : off ≤ 100) :
    Calls Try.prog 62 #[c.val, .int .i64 wide, .int .i64 high, .int .i64 off] w fun e w' => e = .returned (.bool (matchB c wide high off)) ∧ Below w.heap.size w w' := by
  unfold matchB
  cases e0 : nearB c.wide wide off
  all_goals
    go_enter Try.func62, Try.ntmps62
    go_wp2_with (go_at_call 76; refine (l5Near_any _ _ _ _ (by assumption) (by assumption) (by assumption) (by assumption)).mono ?_; rintro e w' ⟨rfl, rfl⟩)
    go_ret
    exact ⟨rfl, Go.Joins.below_alloc1 _ _⟩
theorem matches_any (c : CombT) (wide high off : Int) (w : World) (a1 : 0 ≤ wide) (a2 : wide ≤ 2000) (b1 : 0 ≤ high) (b2 : high ≤ 2000) (h3 : 0 ≤ off) (h4 : off ≤ 100) :
    Calls Try.prog 64 #[c.val, .int .i64 wide, .int .i64 high, .int .i64 off] w fun e w' => e = .returned (.bool (matchB c wide high off)) ∧ Below w.heap.size w w' := by
  unfold matchB nearB
  cases e0 : (wide == 0) <;> cases e1 : inB c.wide (wide - off) (wide + off) <;> cases e2 : (high == 0)
  all_goals
    go_enter Try.func64, Try.ntmps64
    go_wp2_with (go_at_call 49; refine (inRange_any _ _ _ _).mono ?_; rintro e w' ⟨rfl, rfl⟩)
    go_ret
    exact ⟨ret_bool (by simp), Go.Joins.below_alloc1 _ _⟩
theorem l5Asked_any (a : Option Addr) (cap : Nat) (zs : List CombT) (wide high off : Int) (w : World) (hm : zs.length ≤ maxLen) (hr : Reads w a (combs zs)) :
    Calls Try.prog 61 #[.slice a zs.length cap, .int .i64 wide, .int .i64 high, .int .i64 off] w fun e w' => e = .returned (.bool (askedB zs wide high off)) ∧ Below w.heap.size w w' := by
  have hG := l5Good_any a cap zs w hm hr
  unfold askedB askB
  cases e0 : combsOk zs <;> cases e1 : (wide == 0) <;> cases e2 : inB wide 500 2000 <;> cases e3 : (high == 0) <;> cases e4 : inB high 500 2000
  all_goals
    rw [e0] at hG
    have HG := Lib.hid hG
    clear hG e0
    go_enter Try.func61, Try.ntmps61
    go_wp2_with (first | (go_at_call 54; refine (HG.out).mono ?_; rintro e w1 ⟨rfl, hb⟩; have HB := Lib.hid hb; clear hb) | (go_at_call 48; refine (l5Gauge_any _ _).mono ?_; rintro e w' ⟨rfl, rfl⟩) | (go_at_call 47; refine (l1In_any _ _ _ _).mono ?_; rintro e w' ⟨rfl, rfl⟩))
    go_ret
    exact ⟨ret_bool (by simp), HB.out⟩
theorem measured_any (a : Option Addr) (cap : Nat) (zs : List CombT) (wide high off : Int) (w : World) (hm : zs.length ≤ maxLen) (hr : Reads w a (combs zs)) :
    Calls Try.prog 63 #[.slice a zs.length cap, .int .i64 wide, .int .i64 high, .int .i64 off] w fun e w' => e = .returned (.bool (askedB zs wide high off)) ∧ Below w.heap.size w w' := by
  have hG := areCombs_any a cap zs w hm hr
  unfold askedB askB
  cases e0 : combsOk zs <;> cases e1 : (wide == 0) <;> cases e2 : inB wide 500 2000 <;> cases e3 : (high == 0) <;> cases e4 : inB high 500 2000
  all_goals
    rw [e0] at hG
    have HG := Lib.hid hG
    clear hG e0
    go_enter Try.func63, Try.ntmps63
    go_wp2_with (first | (go_at_call 56; refine (HG.out).mono ?_; rintro e w1 ⟨rfl, hb⟩; have HB := Lib.hid hb; clear hb) | (go_at_call 50; refine (isGauge_any _ _).mono ?_; rintro e w' ⟨rfl, rfl⟩) | (go_at_call 49; refine (inRange_any _ _ _ _).mono ?_; rintro e w' ⟨rfl, rfl⟩))
    go_ret
    exact ⟨ret_bool (by simp), HB.out⟩
end Go.Proofs.Ytocjkgcbpgmhiaa
