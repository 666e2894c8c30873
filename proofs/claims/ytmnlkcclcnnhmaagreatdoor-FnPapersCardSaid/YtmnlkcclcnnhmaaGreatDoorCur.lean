/- The cursor that the draws read choices from: next, pick, among. -/
import Derived.Test.YtmnlkcclcnnhmaaGreatDoorArgC
import Derived.Test.YtmnlkcclcnnhmaaGreatDoorRowX
import Derived.Test.YtmnlkcclcnnhmaaGreatDoorQuiet
import Derived.Laws.Bits64
import Derived.IntWalk
namespace Go.Proofs.YtmnlkcclcnnhmaaGreatDoor
open Go.RowKit

/-- a cursor in block g, moved n times at most -/
def Cur (w : World) (g n : Nat) : Prop := ∃ (b : Option Addr) (cap p : Nat) (seed : Int) (cs : List Int), RowIs w g 63 [.slice b cs.length cap, .int .i64 (p : Int), .int .u64 seed] ∧ p ≤ n ∧ cs.length ≤ maxLen ∧ (∀ z ∈ cs, 0 ≤ z ∧ z ≤ 255) ∧
  Reads w b (bytesV cs) ∧ (cs = [] ∨ ∀ q, b = some q → q.block < g)
theorem Reads.grown2 {w w' : World} {b : Option Addr} {cs : List Int} {g : Nat} {row : Option Nat} (h : Reads w b (bytesV cs)) (hg : w.grownBy w' row) (h6 : cs = [] ∨ ∀ q, b = some q → q.block < g) (hne : ∀ q, row = some q → g ≤ q) : Reads w' b (bytesV cs) := by
  rcases h6 with rfl | h6
  · exact .inl rfl
  · refine h.grown hg (fun q hq e => ?_)
    have := hne _ e.symm
    have := h6 q hq
    omega
theorem Cur.mono {w : World} {g n m : Nat} (h : Cur w g n) (hm : n ≤ m) : Cur w g m := by
  obtain ⟨b, cap, p, seed, cs, h1, h2, h3⟩ := h
  exact ⟨b, cap, p, seed, cs, h1, Nat.le_trans h2 hm, h3⟩
theorem Cur.lt {w : World} {g n : Nat} (h : Cur w g n) : g < w.heap.size := by
  obtain ⟨b, cap, p, seed, cs, h1, _⟩ := h
  exact h1.lt
/-- a cursor is kept where nothing below is written -/
theorem Cur.below {w w' : World} {g n : Nat} (h : Cur w g n) (hb : Below w.heap.size w w') : Cur w' g n := by
  obtain ⟨b, cap, p, seed, cs, h1, h2, h3, h4, h5, h6⟩ := h
  exact ⟨b, cap, p, seed, cs, h1.below hb, h2, h3, h4, h5.below hb, h6⟩
theorem Cur.kept {w w' : World} {g n : Nat} {row : Option Nat} (h : Cur w g n) (hg : w.grownBy w' row) (hne : ∀ q, row = some q → g < q) : Cur w' g n := by
  obtain ⟨b, cap, p, seed, cs, h1, h2, h3, h4, h5, h6⟩ := h
  refine ⟨b, cap, p, seed, cs, h1.grown hg (fun e => ?_), h2, h3, h4, h5.grown2 hg h6 (fun q hq => Nat.le_of_lt (hne q hq)), h6⟩
  have := hne g e.symm; omega
/-- what a draw leaves: a number within bounds, and the cursor -/
def Drawn (w : World) (g n : Nat) (P : Int → Prop) (e : Ending) (w' : World) : Prop := ∃ r : Int, e = .returned (.int .i64 r) ∧ P r ∧ Cur w' g n ∧ w.grownBy w' (some g)
theorem and255 (a : Int) : 0 ≤ bits .and .u64 a 255 ∧ bits .and .u64 a 255 ≤ 255 := by
  show 0 ≤ IntKind.u64.wrap ((BitVec.ofInt 64 a &&& BitVec.ofInt 64 255).toNat : Int) ∧ IntKind.u64.wrap ((BitVec.ofInt 64 a &&& BitVec.ofInt 64 255).toNat : Int) ≤ 255
  rw [IntKind.wrap_u64, BitVec.toNat_and]
  have h : (BitVec.ofInt 64 255).toNat = 255 := by decide
  rw [h]
  have := Nat.and_le_right (n := (BitVec.ofInt 64 a).toNat) (m := 255)
  omega
theorem Cur.moved {w : World} {g n p cap : Nat} {b : Option Addr} {seed s2 : Int} {cs : List Int} (h1 : RowIs w g 63 [.slice b cs.length cap, .int .i64 (p : Int), .int .u64 seed]) (h2 : p ≤ n) (h3 : cs.length ≤ maxLen) (h4 : ∀ z ∈ cs, 0 ≤ z ∧ z ≤ 255)
    (h5 : Reads w b (bytesV cs)) (h6 : cs = [] ∨ ∀ q, b = some q → q.block < g) :
    Cur ((w.setCell ⟨g, 1, none⟩ (.int .i64 ((p : Int) + 1))).setCell ⟨g, 2, none⟩ (.int .u64 s2)) g (n + 1) ∧ w.grownBy ((w.setCell ⟨g, 1, none⟩ (.int .i64 ((p : Int) + 1))).setCell ⟨g, 2, none⟩ (.int .u64 s2)) (some g) := by
  have hg : w.grownBy ((w.setCell ⟨g, 1, none⟩ (.int .i64 ((p : Int) + 1))).setCell ⟨g, 2, none⟩ (.int .u64 s2)) (some g) := grownBy_trans (grownBy_setCell w ⟨g, 1, none⟩ _) (grownBy_setCell _ ⟨g, 2, none⟩ _)
  refine ⟨⟨b, cap, p + 1, s2, cs, ?_, by omega, h3, h4, h5.grown2 hg h6 (fun q hq => by injection hq with hq; omega), h6⟩, hg⟩
  · have := (h1.set 1 (.int .i64 ((p : Int) + 1))).set 2 (.int .u64 s2)
    simpa using this
theorem Cur.dr {w : World} {g n : Nat} (h : Cur w g n) (k : Nat) : Cur (w.drewN k) g n := h.below (Dr.below (Dr.of w k) _)
theorem Drawn.fin {w w1 w2 : World} {g n : Nat} {P : Int → Prop} {r : Int} (k : Nat) (h : Cur w2 g n ∧ w1.grownBy w2 (some g)) (hg : w.grownBy w1 (some g)) (hp : P r) : Drawn w g n P (.returned (.int .i64 r)) (w2.drewN k) :=
  ⟨r, rfl, hp, h.1.dr k, grownBy_trans hg (grownBy_trans h.2 (below_grown' (Dr.below (Dr.of w2 k) _) _))⟩
theorem and255w (a : Int) : 0 ≤ wrap64 (bits .and .u64 a 255) ∧ wrap64 (bits .and .u64 a 255) ≤ 255 := by
  have h := and255 a
  rw [IntWalk.wrap64_in _ ⟨by omega, by omega⟩]
  exact h
set_option maxRecDepth 100000 in
set_option maxHeartbeats 1000000 in
theorem next_any (g n : Nat) (w : World) (h : Cur w g n) (hn : n ≤ 1048576) : Calls Tryz.prog 64 #[.pointer (some ⟨g, 0, none⟩)] w (Drawn w g (n + 1) (fun r => 0 ≤ r ∧ r ≤ 255)) := by
  obtain ⟨b, cap, p, seed, cs, h1, h2, h3, h4, h5, h6⟩ := h
  have HM := Lib.hid (fun s2 k => Cur.moved (n := n) (s2 := s2) (h1.dr (Dr.of w k)) h2 h3 h4 (h5.dr (Dr.of w k)) h6)
  have HG := Lib.hid (fun k => below_grown' (Dr.below (Dr.of w k) w.heap.size) (some g))
  have c0 := h1.cell (j := 0) rfl
  have c1 := h1.cell (j := 1) rfl
  have c2 := h1.cell (j := 2) rfl
  have f1 := h1.free 1
  have f2 := h1.free 2
  unfold maxLen at h3
  by_cases hp : p < cs.length
  · rcases h5 with h0 | ⟨bb, off, rfl, hb, hc⟩
    · simp [bytesV] at h0; subst h0; simp at hp
    have hc1 := hc p _ (bytesV_get hp)
    obtain ⟨r1, r2⟩ := h4 _ (List.getElem_mem hp)
    obtain ⟨z, hz⟩ : ∃ z, z = cs[p] := ⟨_, rfl⟩
    rw [← hz] at hc1 r1 r2
    have i1 : (0 : Int) ≤ (p : Int) := by omega
    have i2 : (p : Int) < (cs.length : Int) := by omega
    clear h1 hc h4 h6 hz
    go_enter Tryz.func64, Tryz.ntmps64
    go_wp2_with fail
    go_quiet (fail)
    go_wp2_with fail
    go_quiet (fail)
    go_wp2_with fail
    go_quiet (fail)
    go_wp2_with fail
    go_ret
    exact Drawn.fin _ (HM.out _ _) (HG.out _) ⟨r1, r2⟩
  · have hp2 : cs.length ≤ p := by omega
    clear h1 h4 h5 h6
    go_enter Tryz.func64, Tryz.ntmps64
    go_wp2_with fail
    go_quiet (fail)
    go_wp2_with fail
    go_quiet (fail)
    go_wp2_with fail
    go_ret
    exact Drawn.fin _ (HM.out _ _) (HG.out _) (and255w _)
theorem Drawn.next {w w' : World} {g n m : Nat} {P Q : Int → Prop} {e : Ending} (h : Drawn w g n P e w') (hm : n ≤ m) (hp : ∀ r, P r → Q r) : Drawn w g m Q e w' := by
  obtain ⟨r, h1, h2, h3, h4⟩ := h
  exact ⟨r, h1, hp r h2, h3.mono hm, h4⟩
set_option maxHeartbeats 1000000 in
theorem pick_any (g n : Nat) (m : Int) (w : World) (h : Cur w g n) (hn : n ≤ 1048570) (h1 : 2 ≤ m) (h2 : m ≤ 65536) : Calls Tryz.prog 48 #[.pointer (some ⟨g, 0, none⟩), .int .i64 m] w (Drawn w g (n + 2) (fun r => 0 ≤ r ∧ r < m)) := by
  have H := Lib.hid (fun w n h hn => next_any g n w h hn)
  by_cases hb : 200 < m
  · go_enter Tryz.func48, Tryz.ntmps48
    go_wp2_with fail
    refine (H.out _ n h (by omega)).mono ?_
    rintro e w1 ⟨x, rfl, ⟨x1, x2⟩, hc1, hg1⟩
    have HG1 := Lib.hid hg1
    have HC1 := Lib.hid hc1
    clear h hg1 hc1
    go_wp2_with fail
    refine (H.out _ (n + 1) HC1.out (by omega)).mono ?_
    rintro e w2 ⟨y, rfl, ⟨y1, y2⟩, hc2, hg2⟩
    have HG2 := Lib.hid (grownBy_trans HG1.out hg2)
    have HC2 := Lib.hid hc2
    have b1 := Int.emod_nonneg (x * 256 + y) (show m ≠ 0 by omega)
    have b2 := Int.emod_lt_of_pos (x * 256 + y) (show 0 < m by omega)
    clear hg2 hc2
    go_wp2_with fail
    go_ret
    exact ⟨_, rfl, ⟨b1, b2⟩, HC2.out, HG2.out⟩
  · have hb2 : m ≤ 200 := by omega
    go_enter Tryz.func48, Tryz.ntmps48
    go_wp2_with fail
    refine (H.out _ n h (by omega)).mono ?_
    rintro e w1 ⟨x, rfl, ⟨x1, x2⟩, hc1, hg1⟩
    have HG1 := Lib.hid hg1
    have HC1 := Lib.hid (hc1.mono (show n + 1 ≤ n + 2 by omega))
    have b1 := Int.emod_nonneg x (show m ≠ 0 by omega)
    have b2 := Int.emod_lt_of_pos x (show 0 < m by omega)
    clear h hg1 hc1
    go_wp2_with fail
    go_ret
    exact ⟨_, rfl, ⟨b1, b2⟩, HC1.out, HG1.out⟩
theorem among_any (g n cap : Nat) (a : Option Addr) (zs : List Int) (w : World) (h : Cur w g n) (hn : n ≤ 1048570) (h1 : 2 ≤ zs.length) (h2 : zs.length ≤ 200) (hr : Reads w a (ints zs)) (hne : ∀ p, a = some p → p.block ≠ g) :
    Calls Tryz.prog 40 #[.pointer (some ⟨g, 0, none⟩), .slice a zs.length cap] w (Drawn w g (n + 2) (fun r => r ∈ zs)) := by
  have H := Lib.hid (pick_any g n (zs.length : Int) w h hn (by omega) (by omega))
  have HR := Lib.hid hr
  have HN := Lib.hid hne
  clear hr hne h
  go_enter Tryz.func40, Tryz.ntmps40
  go_wp2_with fail
  refine H.out.mono ?_
  rintro e w1 ⟨x, rfl, ⟨x1, x2⟩, hc1, hg1⟩
  have hr1 := HR.out.grown hg1 (fun p hp => by intro e; injection e with e; exact HN.out p hp e)
  obtain ⟨k, rfl⟩ : ∃ k : Nat, x = (k : Int) := ⟨x.toNat, by omega⟩
  have hk : k < zs.length := by omega
  rcases hr1 with h0 | ⟨b, off, rfl, hb, hc⟩
  · simp [ints] at h0; subst h0; simp at hk
  have hc2 := hc k _ (ints_get hk)
  have HC := Lib.hid hc1
  have HG := Lib.hid hg1
  have HM := Lib.hid (List.getElem_mem hk)
  clear hc hc1 hg1
  go_wp2_with fail
  go_ret
  exact ⟨_, rfl, HM.out, HC.out, HG.out⟩
end Go.Proofs.YtmnlkcclcnnhmaaGreatDoor
