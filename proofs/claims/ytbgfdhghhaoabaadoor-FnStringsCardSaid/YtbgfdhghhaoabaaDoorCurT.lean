/- Texts drawn from a cursor. -/
import Derived.Test.YtbgfdhghhaoabaaDoorCur
import Derived.Test.YtbgfdhghhaoabaaDoorMarkT
namespace Go.Proofs.YtbgfdhghhaoabaaDoor
open Go.RowKit

/-- a drawn text, and the cursor behind it -/
def DrawnT (w : World) (g n : Nat) (P : ByteArray → Prop) (e : Ending) (w' : World) : Prop := ∃ t : ByteArray, e = .returned (.string t) ∧ P t ∧ Cur w' g n ∧ w.grownBy w' (some g)
/-- a drawn answer, and the cursor behind it -/
def DrawnB (w : World) (g n : Nat) (e : Ending) (w' : World) : Prop := ∃ b : Bool, e = .returned (.bool b) ∧ Cur w' g n ∧ w.grownBy w' (some g)
theorem of_any (g n cap : Nat) (a : Option Addr) (zs : List ByteArray) (w : World) (h : Cur w g n) (hn : n ≤ 1048570) (h1 : 2 ≤ zs.length) (h2 : zs.length ≤ 200) (hr : Reads w a (strs zs)) (hne : ∀ p, a = some p → p.block ≠ g) :
    Calls Tryd.prog 50 #[.pointer (some ⟨g, 0, none⟩), .slice a zs.length cap] w (DrawnT w g (n + 2) (fun r => r ∈ zs)) := by
  have H := Lib.hid (pick_any g n (zs.length : Int) w h hn (by omega) (by omega))
  have HR := Lib.hid hr
  have HN := Lib.hid hne
  clear hr hne h
  go_enter Tryd.func50, Tryd.ntmps50
  go_wp2_with fail
  refine H.out.mono ?_
  rintro e w1 ⟨x, rfl, ⟨x1, x2⟩, hc1, hg1⟩
  have hr1 := HR.out.grown hg1 (fun p hp => by intro e; injection e with e; exact HN.out p hp e)
  obtain ⟨k, rfl⟩ : ∃ k : Nat, x = (k : Int) := ⟨x.toNat, by omega⟩
  have hk : k < zs.length := by omega
  rcases hr1 with h0 | ⟨b, off, rfl, hb, hc⟩
  · simp [strs] at h0; subst h0; simp at hk
  have hc2 := hc k _ (strs_get hk)
  have HC := Lib.hid hc1
  have HG := Lib.hid hg1
  have HM := Lib.hid (List.getElem_mem hk)
  clear hc hc1 hg1
  go_wp2_with fail
  go_ret
  exact ⟨_, rfl, HM.out, HC.out, HG.out⟩
theorem one_any (g n : Nat) (m : Int) (w : World) (h : Cur w g n) (hn : n ≤ 1048570) (h1 : 2 ≤ m) (h2 : m ≤ 65536) :
    Calls Tryd.prog 52 #[.pointer (some ⟨g, 0, none⟩), .int .i64 m] w (DrawnB w g (n + 2)) := by
  have H := Lib.hid (pick_any g n m w h hn h1 h2)
  clear h
  go_enter Tryd.func52, Tryd.ntmps52
  go_wp2_with fail
  refine H.out.mono ?_
  rintro e w1 ⟨x, rfl, ⟨x1, x2⟩, hc1, hg1⟩
  have HC := Lib.hid hc1
  have HG := Lib.hid hg1
  clear hc1 hg1
  go_wp2_with fail
  go_ret
  exact ⟨_, rfl, HC.out, HG.out⟩
abbrev any1L : List ByteArray := [⟨#[]⟩, ⟨#[97]⟩, ⟨#[97, 44, 98]⟩, ⟨#[115, 111, 109, 101, 32, 119, 111, 114, 100, 115]⟩, ⟨#[120, 35, 121]⟩, ⟨#[45, 49, 50]⟩, ⟨#[0, 255]⟩, ⟨#[44, 44]⟩, ⟨#[48]⟩]
theorem any1L_size : ∀ z ∈ any1L, z.size ≤ 10 := by decide +kernel
theorem any1_any (g n : Nat) (w : World) (h : Cur w g n) (hn : n ≤ 1048570) :
    Calls Tryd.prog 49 #[.pointer (some ⟨g, 0, none⟩)] w (DrawnT w g (n + 2) (fun t => t.size ≤ 10)) := by
  have hb := Go.Joins.below_alloc1 w (.cells (strs any1L).toArray 9)
  have H0 := of_any g n 9 (some ⟨w.heap.size, 0, none⟩) any1L (w.alloc (.cells (strs any1L).toArray 9)) (h.below hb) hn (by decide) (by decide) (RowIs.new w 9 (strs any1L)).reads
    (fun p hp => by injection hp with hp; rw [← hp]; exact Nat.ne_of_gt h.lt)
  have HG := Lib.hid (World.grownBy_alloc w (.cells (strs any1L).toArray 9) (some g))
  have e0 : w.alloc (.cells (strs any1L).toArray 9) = w.alloc (.cells #[.string ⟨#[]⟩, .string ⟨#[97]⟩, .string ⟨#[97, 44, 98]⟩, .string ⟨#[115, 111, 109, 101, 32, 119, 111, 114, 100, 115]⟩, .string ⟨#[120, 35, 121]⟩, .string ⟨#[45, 49, 50]⟩, .string ⟨#[0, 255]⟩, .string ⟨#[44, 44]⟩, .string ⟨#[48]⟩] 9) := rfl
  rw [e0] at H0 HG
  have H : Hid (Calls Tryd.prog 50 #[.pointer (some ⟨g, 0, none⟩), .slice (some ⟨w.heap.size, 0, none⟩) 9 9] (w.alloc (.cells #[.string ⟨#[]⟩, .string ⟨#[97]⟩, .string ⟨#[97, 44, 98]⟩, .string ⟨#[115, 111, 109, 101, 32, 119, 111, 114, 100, 115]⟩, .string ⟨#[120, 35, 121]⟩, .string ⟨#[45, 49, 50]⟩, .string ⟨#[0, 255]⟩, .string ⟨#[44, 44]⟩, .string ⟨#[48]⟩] 9)) (DrawnT (w.alloc (.cells #[.string ⟨#[]⟩, .string ⟨#[97]⟩, .string ⟨#[97, 44, 98]⟩, .string ⟨#[115, 111, 109, 101, 32, 119, 111, 114, 100, 115]⟩, .string ⟨#[120, 35, 121]⟩, .string ⟨#[45, 49, 50]⟩, .string ⟨#[0, 255]⟩, .string ⟨#[44, 44]⟩, .string ⟨#[48]⟩] 9)) g (n + 2) (fun t => t ∈ any1L))) := Lib.hid H0
  have HS := Lib.hid any1L_size
  clear h hb H0 e0
  go_enter Tryd.func49, Tryd.ntmps49
  go_wp2_with fail
  refine H.out.mono ?_
  rintro e w1 ⟨x, rfl, hx, hc1, hg1⟩
  have HC := Lib.hid hc1
  have HG1 := Lib.hid (grownBy_trans HG.out hg1)
  have HX := Lib.hid (HS.out x hx)
  clear hc1 hg1 hx
  go_wp2_with fail
  go_ret
  exact ⟨_, rfl, HX.out, HC.out, HG1.out⟩
end Go.Proofs.YtbgfdhghhaoabaaDoor
