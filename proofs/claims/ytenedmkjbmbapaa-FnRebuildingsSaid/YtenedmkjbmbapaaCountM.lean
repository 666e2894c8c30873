/- CountRebuildings: both sides' contracts. -/
import Derived.Test.YtenedmkjbmbapaaAskM
import Derived.Test.YtenedmkjbmbapaaBlankI
import Derived.Test.YtenedmkjbmbapaaRebI
namespace Go.Proofs.Ytenedmkjbmbapaa
open Go.RowKit

def okC (r c : Int) (zss : List (List ByteArray)) (most : Int) : Bool := askedB r c zss && inB most 1 1000
def cntR (r c : Int) (zss : List (List ByteArray)) (most : Int) : Int := if okC r c zss most = true then ((min (cntB zss (blankS r.toNat c.toNat)) most.toNat : Nat) : Int) else 0
theorem asked_bd {r c : Int} {bs : List BlkT} (h : askedB r c (zssB bs) = true) : (1 ≤ r ∧ r ≤ 5) ∧ (1 ≤ c ∧ c ≤ 5) ∧ bs.length ≤ 4 ∧ ∀ b ∈ bs, gridB b.zs 3 = true := by
  simp only [askedB, Bool.and_eq_true, zssB_length, decide_eq_true_eq] at h
  obtain ⟨h1, h2, h3, h4⟩ := h
  exact ⟨inB_true.1 h2, inB_true.1 h3, by omega, goodB_all h1⟩
set_option maxRecDepth 100000 in
set_option maxHeartbeats 4000000 in
theorem specCount_any (r c : Int) (a : Option Addr) (cap : Nat) (bs : List BlkT) (most : Int) (w : World) (hm : bs.length ≤ maxLen) (hf : Fits bs) (hb : BlksAt w a bs) :
    Calls Try.prog 9 #[.int .i64 r, .int .i64 c, .slice a bs.length cap, .int .i64 most] w fun e w' => e = .returned (.tuple #[.int .i64 (cntR r c (zssB bs) most), .bool (okC r c (zssB bs) most)]) ∧ Below w.heap.size w w' := by
  have hA := l4Asked_any r c a cap bs w hm hf hb
  have hI := fun w => l1In_any most 1 1000 w
  have HB := Lib.hid hb
  clear hb hf hm
  cases e1 : askedB r c (zssB bs)
  · have E1 := Lib.hid (show okC r c (zssB bs) most = false by rw [okC, e1]; rfl)
    have E2 := Lib.hid (show cntR r c (zssB bs) most = 0 by rw [cntR, E1.out]; rfl)
    rw [E1.out, E2.out]
    rw [e1] at hA
    have HA := Lib.hid hA
    clear hA hI e1
    go_enter Try.func9, Try.ntmps9
    go_wp2_with fail
    refine HA.out.mono ?_
    rintro e w1 ⟨rfl, hb⟩
    have HB1 := Lib.hid hb
    clear hb
    go_wp2_with fail
    go_ret2
    exact ⟨rfl, HB1.out⟩
  rw [e1] at hA
  have HA := Lib.hid hA
  have HE1 := Lib.hid e1
  clear hA e1
  cases e2 : inB most 1 1000
  · have E1 := Lib.hid (show okC r c (zssB bs) most = false by rw [okC, e2]; simp)
    have E2 := Lib.hid (show cntR r c (zssB bs) most = 0 by rw [cntR, E1.out]; rfl)
    rw [E1.out, E2.out]
    rw [e2] at hI
    have HI := Lib.hid hI
    clear hI e2
    go_enter Try.func9, Try.ntmps9
    go_wp2_with fail
    refine HA.out.mono ?_
    rintro e w1 ⟨rfl, hb⟩
    have HB1 := Lib.hid hb
    clear hb
    go_wp2_with (go_at_call 49; (with_reducible refine (HI.out _).mono ?_); rintro e w' ⟨rfl, rfl⟩)
    go_ret2
    exact ⟨rfl, HB1.out⟩
  obtain ⟨⟨r1, r2⟩, ⟨c1, c2⟩, hl4, hgood⟩ := asked_bd HE1.out
  obtain ⟨m1, m2⟩ := inB_true.1 e2
  obtain ⟨r, rfl⟩ : ∃ n : Nat, r = (n : Int) := ⟨r.toNat, by omega⟩
  obtain ⟨c, rfl⟩ : ∃ n : Nat, c = (n : Int) := ⟨c.toNat, by omega⟩
  obtain ⟨most, rfl⟩ : ∃ n : Nat, most = (n : Int) := ⟨most.toNat, by omega⟩
  have E1 := Lib.hid (show okC r c (zssB bs) most = true by rw [okC, HE1.out, e2]; rfl)
  have E2 := Lib.hid (show cntR r c (zssB bs) most = ((min (cntB (zssB bs) (blankS r c)) most : Nat) : Int) by rw [cntR, E1.out]; rfl)
  rw [E1.out, E2.out]
  rw [e2] at hI
  have HI := Lib.hid hI
  have HBL := Lib.hid (fun w => l4Blank_any r c w (by omega) (by omega))
  have HG := Lib.hid (blankS_grid (r := r) (c := c) (by omega) (by omega) (by omega) (by omega))
  have HCN := Lib.hid (fun sa sc w hs hb => l4Count_any a cap bs hl4 hgood bs.length 0 (by omega) (by omega) sa sc (blankS r c) w most HG.out (by omega) (by omega) hs hb)
  simp only [List.drop_zero] at HCN
  generalize blankS r c = bl at *
  clear hI e2 hgood
  go_enter Try.func9, Try.ntmps9
  go_wp2_with fail
  refine HA.out.mono ?_
  rintro e w1 ⟨rfl, hb⟩
  have HB1 := Lib.hid hb
  clear hb
  go_wp2_with (go_at_call 49; (with_reducible refine (HI.out _).mono ?_); rintro e w' ⟨rfl, rfl⟩)
  refine (HBL.out _).mono ?_
  rintro e w2 ⟨ad, cp, rfl, hown, hb⟩
  have HR2 := Lib.hid (own_reads hown)
  have HB2 := Lib.hid (HB1.out.trans (hb.mono HB1.out.size))
  clear hown hb
  go_wp2_with fail
  refine (HCN.out _ _ _ HR2.out (HB.out.below HB2.out)).mono ?_
  rintro e w3 ⟨rfl, hb⟩
  have HB3 := Lib.hid (HB2.out.trans (hb.mono HB2.out.size))
  clear hb
  go_wp2_with fail
  go_ret2
  exact ⟨rfl, HB3.out⟩
/-- how the counting goes on -/
def cStep (most : Nat) (st : Int) (_ : Leaf) : Int × Bool := (wrap64 (st + 1), decide (wrap64 (st + 1) < (most : Int)))
theorem cRun (most : Nat) (hm : most ≤ 1000) : ∀ (L : List Leaf) (st : Nat), st < most → runL (cStep most) (st : Int) L = (((min (st + L.length) most : Nat) : Int), decide (st + L.length < most)) := by
  intro L
  induction L with
  | nil => intro st h; simp [runL, h]; omega
  | cons l L ih =>
    intro st h
    have hw : wrap64 ((st : Int) + 1) = ((st + 1 : Nat) : Int) := by unfold wrap64; omega
    by_cases h2 : st + 1 < most
    · have e : cStep most (st : Int) l = (((st + 1 : Nat) : Int), true) := by unfold cStep; rw [hw]; simp; omega
      rw [runL, e]
      simp only [if_true]
      rw [ih _ h2, List.length_cons, show st + 1 + L.length = st + (L.length + 1) by omega]
    · have e : cStep most (st : Int) l = (((st + 1 : Nat) : Int), false) := by unfold cStep; rw [hw]; simp; omega
      rw [runL, e]
      simp only [List.length_cons]
      have : ¬ st + (L.length + 1) < most := by omega
      simp [this]; omega
/-- where the count and the bound lie -/
structure CInv (g0 gm : Nat) (most : Nat) (st : Int) (w : World) : Prop where
  cnt : RowIs w g0 3 [.int .i64 st]
  max : RowIs w gm 3 [.int .i64 (most : Int)]
  ne : gm ≠ g0
theorem cTell (g0 gm most N : Nat) (h0 : g0 < N) (h1 : gm < N) : Teller Int 57 (.pointer (some ⟨g0, 0, none⟩)) (.pointer (some ⟨gm, 0, none⟩)) (fun k => k = g0) N (CInv g0 gm most) (cStep most) (fun _ => True) := by
  refine ⟨fun k hk => by omega, fun _ _ _ _ => trivial, ?_, ?_⟩
  · intro st w w' row _ hi hf hr
    have ne : ∀ k, k < N → ¬ row = some k := fun k hk e => by have := (hr k e).1; omega
    exact ⟨hf.row hi.cnt (ne _ h0), hf.row hi.max (ne _ h1), hi.ne⟩
  · intro st w pa pc ps sa sc s _ hi hN gs _ hps _ hp hs
    have HI := Lib.hid hi
    have a0 := hi.cnt.cell (j := 0) rfl
    have a1 := hi.max.cell (j := 0) rfl
    have f0 := hi.cnt.free 0
    have hne := hi.ne
    have hne2 := hi.ne.symm
    clear hp hs gs hi
    go_enter Try.func57, Try.ntmps57
    go_wp2_with fail
    go_ret
    have hs0 : RowIs _ g0 3 [.int .i64 (cStep most st (ps, s)).1] := HI.out.cnt.set 0 (.int .i64 (wrap64 (st + 1)))
    refine ⟨rfl, ⟨hs0, HI.out.max.far (fun e => HI.out.ne e) _, HI.out.ne⟩, (Fr.of_grown (grownBy_setCell w _ _)).mono (fun k _ h => ?_)⟩
    injection h with h; exact h.symm
theorem eg57 : ∀ args w, (callFunc 57 args).run Try.prog w = .ok (.enter 57 args) w := enters_of Try.func57 (by kernel_rfl) rfl
theorem reads_low {w : World} {a : Option Addr} {xs : List Value} (h : Reads w a xs) (hn : xs ≠ []) : ∀ q, a = some q → q.block < w.heap.size := by
  intro q hq
  rcases h with h0 | ⟨b, off, rfl, hb, _⟩
  · exact absurd h0 hn
  · injection hq with hq; subst hq; exact hb
theorem grid_some {zs : List ByteArray} {m : Nat} (h : gridB zs m = true) : strs zs ≠ [] := by
  intro e
  have := (gridB_bd h).1
  have h2 : (strs zs).length = 0 := by rw [e]; rfl
  simp [strs] at h2
  subst h2
  simp at this
theorem blks_some {bs : List BlkT} (h : bs ≠ []) : blks bs ≠ [] := by simpa [blks] using h
theorem Fr.low {C : Nat → Prop} {w w1 w2 : World} (h : Below w.heap.size w w1) (hf : Fr C w1 w2) (hC : ∀ k, C k → w.heap.size ≤ k) : Below w.heap.size w w2 :=
  h.trans ⟨hf.os, hf.tape, hf.output, hf.size, fun k hk => hf.block k (Nat.lt_of_lt_of_le hk h.size) (fun hc => by have := hC k hc; omega)⟩
set_option maxRecDepth 100000 in
set_option maxHeartbeats 4000000 in
theorem implCount_any (r c : Int) (a : Option Addr) (cap : Nat) (bs : List BlkT) (most : Int) (w : World) (hm : bs.length ≤ maxLen) (hcap : bs.length ≤ cap) (hf : Fits bs) (hb : BlksAt w a bs) :
    Calls Try.prog 11 #[.int .i64 r, .int .i64 c, .slice a bs.length cap, .int .i64 most] w fun e w' => e = .returned (.tuple #[.int .i64 (cntR r c (zssB bs) most), .bool (okC r c (zssB bs) most)]) ∧ Below w.heap.size w w' := by
  have B0 := Lib.hid (Go.Joins.below_alloc1 w (.cells #[.int .i64 most] 3))
  have BX := Lib.hid (RowIs.new w 3 [.int .i64 most])
  have hA := fun w (h : BlksAt w a bs) => rebuildingFits_any r c a cap bs w hm hf h
  have hI := fun w => inRange_any most 1 1000 w
  have HB := Lib.hid hb
  clear hb hf hm
  cases e1 : askedB r c (zssB bs)
  · have E1 := Lib.hid (show okC r c (zssB bs) most = false by rw [okC, e1]; rfl)
    have E2 := Lib.hid (show cntR r c (zssB bs) most = 0 by rw [cntR, E1.out]; rfl)
    rw [E1.out, E2.out]
    rw [e1] at hA
    have HA := Lib.hid hA
    clear hA hI e1
    go_enter Try.func11, Try.ntmps11
    go_wp2_with fail
    refine (HA.out _ (HB.out.below B0.out)).mono ?_
    rintro e w1 ⟨rfl, hb⟩
    have HB1 := Lib.hid (B0.out.trans (hb.mono B0.out.size))
    clear hb
    go_wp2_with fail
    go_ret2
    exact ⟨rfl, HB1.out⟩
  rw [e1] at hA
  have HA := Lib.hid hA
  have HE1 := Lib.hid e1
  clear hA e1
  cases e2 : inB most 1 1000
  · have E1 := Lib.hid (show okC r c (zssB bs) most = false by rw [okC, e2]; simp)
    have E2 := Lib.hid (show cntR r c (zssB bs) most = 0 by rw [cntR, E1.out]; rfl)
    rw [E1.out, E2.out]
    rw [e2] at hI
    have HI := Lib.hid hI
    clear hI e2
    go_enter Try.func11, Try.ntmps11
    go_wp2_with fail
    refine (HA.out _ (HB.out.below B0.out)).mono ?_
    rintro e w1 ⟨rfl, hb⟩
    have HB1 := Lib.hid (B0.out.trans (hb.mono B0.out.size))
    have c0 := (BX.out.below hb).cell (j := 0) rfl
    clear hb
    go_wp2_with (go_at_call 54; (with_reducible refine (HI.out _).mono ?_); rintro e w' ⟨rfl, rfl⟩)
    go_ret2
    exact ⟨rfl, HB1.out⟩
  obtain ⟨⟨r1, r2⟩, ⟨c1, c2⟩, hl4, hgood⟩ := asked_bd HE1.out
  obtain ⟨m1, m2⟩ := inB_true.1 e2
  obtain ⟨r, rfl⟩ : ∃ n : Nat, r = (n : Int) := ⟨r.toNat, by omega⟩
  obtain ⟨c, rfl⟩ : ∃ n : Nat, c = (n : Int) := ⟨c.toNat, by omega⟩
  obtain ⟨most, rfl⟩ : ∃ n : Nat, most = (n : Int) := ⟨most.toNat, by omega⟩
  have E1 := Lib.hid (show okC r c (zssB bs) most = true by rw [okC, HE1.out, e2]; rfl)
  have E2 := Lib.hid (show cntR r c (zssB bs) most = ((min (cntB (zssB bs) (blankS r c)) most : Nat) : Int) by rw [cntR, E1.out]; rfl)
  rw [E1.out, E2.out]
  rw [e2] at hI
  have HI := Lib.hid hI
  have HBL := Lib.hid (fun w => emptySheet_any r c w (by omega) (by omega) (by omega))
  have HG := Lib.hid (blankS_grid (r := r) (c := c) (by omega) (by omega) (by omega) (by omega))
  have HRUN := Lib.hid (cRun most (by omega) (leaves (zssB bs) (blankS r c) []) 0 (by omega))
  rw [leaves_len, Nat.zero_add] at HRUN
  have HGD := Lib.hid hgood
  have HL1 := Lib.hid (fun q (e : a = some q) (h : bs ≠ []) => reads_low HB.out.outer (blks_some h) q e)
  have HL2 := Lib.hid (fun b (hb : b ∈ bs) q (e : b.ad = some q) => reads_low (HB.out.inner b hb) (grid_some (HGD.out b hb)) q e)
  generalize blankS r c = bl at *
  clear hI e2 hgood
  go_enter Try.func11, Try.ntmps11
  go_wp2_with fail
  refine (HA.out _ (HB.out.below B0.out)).mono ?_
  rintro e w1 ⟨rfl, hb⟩
  have HB1 := Lib.hid (B0.out.trans (hb.mono B0.out.size))
  have HX1 := Lib.hid (BX.out.below hb)
  have c0 := (BX.out.below hb).cell (j := 0) rfl
  clear hb
  go_wp2_with (go_at_call 54; (with_reducible refine (HI.out _).mono ?_); rintro e w' ⟨rfl, rfl⟩)
  have HB1a := Lib.hid (HB1.out.alloc HB1.out.size (.cells #[.int .i64 0] 3))
  have HX1a := Lib.hid (HX1.out.alloc (.cells #[.int .i64 0] 3))
  have HY1a := Lib.hid (RowIs.new w1 3 [.int .i64 0])
  have hle := Lib.hid (Nat.le_trans B0.out.size (Nat.le_refl _))
  have hw1 : w.heap.size < w1.heap.size := HX1.out.lt
  refine (HBL.out _).mono ?_
  rintro e w2 ⟨ad, cp, rfl, hown, hb⟩
  have HR2 := Lib.hid (own_reads hown)
  have HLO := Lib.hid (fun q (e : ad = some q) => (hown.lt q.block (by rw [e]; rfl)).1)
  have HB2 := Lib.hid (HB1a.out.trans (hb.mono HB1a.out.size))
  have hinv : CInv w1.heap.size w.heap.size most ((0 : Nat) : Int) w2 := ⟨HY1a.out.below hb, HX1a.out.below hb, by omega⟩
  have hsz : w1.heap.size < w2.heap.size := hinv.cnt.lt
  have hcall := rebuild_any (eg57) (cTell w1.heap.size w.heap.size most w2.heap.size hsz (by omega)) bs a cap ad cp bl none 0 [] w2 ((0 : Nat) : Int) hcap (by simpa using hl4) HGD.out HG.out (own_le hown) (Nat.le_refl _) hinv HR2.out (HB.out.below HB2.out)
    (fun q e => ⟨fun hk => by have := HLO.out q e; simp at this; omega, by simp [Value.ownBlock]⟩) (fun hne q e => ⟨fun hk => by have := HL1.out q e hne; omega, by simp [Value.ownBlock]⟩) (fun b hb q e => ⟨fun hk => by have := HL2.out b hb q e; omega, by simp [Value.ownBlock]⟩) (World.ownsRow_nil _ _ _ _) trivial
  rw [HRUN.out] at hcall
  have HCALL := Lib.hid hcall
  clear hown hb hinv hcall c0
  go_wp2_with fail
  refine HCALL.out.mono ?_
  rintro e w3 ⟨rfl, hi, _, hf⟩
  have HB3 := Lib.hid (Fr.low HB2.out hf (fun k hk => by
    rcases hk with h | h
    · omega
    · simp [Value.ownBlock] at h))
  have c0 := hi.cnt.cell (j := 0) rfl
  clear hi hf
  go_wp2_with fail
  go_ret2
  exact ⟨rfl, HB3.out⟩
end Go.Proofs.Ytenedmkjbmbapaa
