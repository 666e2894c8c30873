/- Texts drawn from a cursor. -/
import Derived.Test.YtmnlkcclcnnhmaaGreatDoorCur
import Derived.Test.YtmnlkcclcnnhmaaGreatDoorMarkT
namespace Go.Proofs.YtmnlkcclcnnhmaaGreatDoor
open Go.RowKit

/-- a drawn text, and the cursor behind it -/
def DrawnT (w : World) (g n : Nat) (P : ByteArray → Prop) (e : Ending) (w' : World) : Prop := ∃ t : ByteArray, e = .returned (.string t) ∧ P t ∧ Cur w' g n ∧ w.grownBy w' (some g)
/-- a drawn answer, and the cursor behind it -/
def DrawnB (w : World) (g n : Nat) (e : Ending) (w' : World) : Prop := ∃ b : Bool, e = .returned (.bool b) ∧ Cur w' g n ∧ w.grownBy w' (some g)
theorem of_any (g n cap : Nat) (a : Option Addr) (zs : List ByteArray) (w : World) (h : Cur w g n) (hn : n ≤ 1048570) (h1 : 2 ≤ zs.length) (h2 : zs.length ≤ 200) (hr : Reads w a (strs zs)) (hne : ∀ p, a = some p → p.block ≠ g) :
    Calls Tryz.prog 56 #[.pointer (some ⟨g, 0, none⟩), .slice a zs.length cap] w (DrawnT w g (n + 2) (fun r => r ∈ zs)) := by
  have H := Lib.hid (pick_any g n (zs.length : Int) w h hn (by omega) (by omega))
  have HR := Lib.hid hr
  have HN := Lib.hid hne
  clear hr hne h
  go_enter Tryz.func56, Tryz.ntmps56
  go_wp2_with fail
  refine H.out.mono ?_
  rintro e w1 ⟨x, rfl, ⟨x1, x2⟩, hc1, hg1⟩
  have hr1 := HR.out.grown hg1 (fun p hp => by intro e; injection e with e; exact HN.out p hp e)
  obtain ⟨k, rfl⟩ : ∃ k : Nat, x = (k : Int) := ⟨x.toNat, by omega⟩
  have hk : k < zs.length := by omega
  rcases hr1 with h0 | ⟨b, off, rfl, hb, hc⟩
  · simp [strs] at h0; subst h0; simp at hk
  have hc2 := hc k _ (strs_get hk)
  have HC := Lib.hid hc1
  have HG := Lib.hid hg1
  have HM := Lib.hid (List.getElem_mem hk)
  clear hc hc1 hg1
  go_wp2_with fail
  go_ret
  exact ⟨_, rfl, HM.out, HC.out, HG.out⟩
theorem one_any (g n : Nat) (m : Int) (w : World) (h : Cur w g n) (hn : n ≤ 1048570) (h1 : 2 ≤ m) (h2 : m ≤ 65536) :
    Calls Tryz.prog 41 #[.pointer (some ⟨g, 0, none⟩), .int .i64 m] w (DrawnB w g (n + 2)) := by
  have H := Lib.hid (pick_any g n m w h hn h1 h2)
  clear h
  go_enter Tryz.func41, Tryz.ntmps41
  go_wp2_with fail
  refine H.out.mono ?_
  rintro e w1 ⟨x, rfl, ⟨x1, x2⟩, hc1, hg1⟩
  have HC := Lib.hid hc1
  have HG := Lib.hid hg1
  clear hc1 hg1
  go_wp2_with fail
  go_ret
  exact ⟨_, rfl, HC.out, HG.out⟩
end Go.Proofs.YtmnlkcclcnnhmaaGreatDoor
