/- The fullest rebuilding: the program's teller. -/
import Derived.Test.YtenedmkjbmbapaaFirstI
import Derived.Test.YtenedmkjbmbapaaFullS
import Derived.Lib.BufferMore
namespace Go.Proofs.Ytenedmkjbmbapaa
open Go.RowKit

/-- the best sheet so far, and its points -/
def uStep (st : Option (List ByteArray × Nat)) (l : Leaf) : Option (List ByteArray × Nat) × Bool :=
  match st with
  | none => (some (l.2, ptsF l.2), true)
  | some (b, n) => if ptsF l.2 < n then (some (l.2, ptsF l.2), true) else (some (b, n), true)
def uF (L : List Leaf) (st : Option (List ByteArray × Nat)) : Option (List ByteArray × Nat) := L.foldl (fun st l => (uStep st l).1) st
theorem uStep_true (st : Option (List ByteArray × Nat)) (l : Leaf) : (uStep st l).2 = true := by
  cases st with
  | none => rfl
  | some x => obtain ⟨b, n⟩ := x; simp only [uStep]; split <;> rfl
theorem uRun (L : List Leaf) : ∀ st, runL uStep st L = (uF L st, true) := by
  induction L with
  | nil => intro st; rfl
  | cons l L ih =>
    intro st
    rw [runL, uStep_true, if_pos rfl, ih]
    rfl
/-- what the two sides carry is the same -/
def URel : Option (List ByteArray × Nat) → List ByteArray × Nat → Prop
  | none, x => x = ([], 99)
  | some y, x => x = y ∧ y.2 < 99
theorem uF_rel : ∀ (L : List Leaf) (st : Option (List ByteArray × Nat)) (x : List ByteArray × Nat), (∀ l ∈ L, ptsF l.2 < 99) → URel st x → URel (uF L st) (fullF L x) := by
  intro L
  induction L with
  | nil => intro st x _ h; exact h
  | cons l L ih =>
    intro st x hl h
    have h1 := hl l (List.mem_cons_self ..)
    refine ih (uStep st l).1 (fullStep x l) (fun k hk => hl k (List.mem_cons_of_mem _ hk)) ?_
    cases st with
    | none =>
      obtain rfl : x = ([], 99) := h
      simp only [fullStep, uStep, h1, if_true]
      exact ⟨rfl, h1⟩
    | some y =>
      obtain ⟨b, n⟩ := y
      obtain ⟨rfl, h2⟩ := h
      simp only [fullStep, uStep]
      by_cases h3 : ptsF l.2 < n
      · simp only [h3, if_true]; exact ⟨rfl, h1⟩
      · simp only [h3, if_false]; exact ⟨rfl, h2⟩
def UInv (gp gs N : Nat) (st : Option (List ByteArray × Nat)) (w : World) : Prop := gp ≠ gs ∧ match st with
  | none => RowIs w gp 31 [.slice none 0 0] ∧ RowIs w gs 3 [.int .i64 0]
  | some (b, n) => ∃ ga gc, RowIs w gp 31 [.slice (some ⟨ga, 0, none⟩) b.length gc] ∧ RowIs w gs 3 [.int .i64 (n : Int)] ∧ w.ownsRow N 9 1 (.slice (some ⟨ga, 0, none⟩) b.length gc) b.length (strs b)
theorem eg66 : ∀ args w, (callFunc 66 args).run Try.prog w = .ok (.enter 66 args) w := enters_of Try.func66 (by kernel_rfl) rfl
set_option maxRecDepth 100000 in
set_option maxHeartbeats 4000000 in
theorem uTell (gp gs N : Nat) (h0 : gp < N) (h1 : gs < N) : Teller (Option (List ByteArray × Nat)) 66 (.pointer (some ⟨gp, 0, none⟩)) (.pointer (some ⟨gs, 0, none⟩)) (fun k => k = gp ∨ k = gs) N (UInv gp gs N) uStep (fun _ => True) := by
  refine ⟨fun k hk => by rcases hk with h | h <;> omega, fun _ _ _ _ => trivial, ?_, ?_⟩
  · intro st w w' row _ hi hf hr
    have ne : ∀ k, k < N → ¬ row = some k := fun k hk e => by have := (hr k e).1; omega
    refine ⟨hi.1, ?_⟩
    cases st with
    | none => exact ⟨hf.row hi.2.1 (ne _ h0), hf.row hi.2.2 (ne _ h1)⟩
    | some y =>
      obtain ⟨b, n⟩ := y
      obtain ⟨ga, gc, k1, k2, k3⟩ := hi.2
      refine ⟨ga, gc, hf.row k1 (ne _ h0), hf.row k2 (ne _ h1), hf.own k3 (fun q hq e => ?_)⟩
      obtain ⟨_, cur, hc⟩ := hr q e
      rcases k3.2 with ⟨h2, _⟩ | ⟨g', c', cur', h2, _, hh, _⟩
      · cases h2
      · injection h2 with h2
        injection h2 with h2
        injection h2 with h2
        simp [Value.ownBlock] at hq
        subst hq; subst h2
        rw [hc] at hh
        injection hh with hh
        injection hh with _ hh
        exact absurd hh (by decide)
  · intro st w pa pc ps sa sc s _ hi hN gs5 hcap hps hsh hp hs
    have HPT := Lib.hid (fun w hr => pointsOn_any sa sc s w hcap gs5 hr)
    have HSC := Lib.hid (fun w hr => cloneSheet_any sa sc s w gs5 hr)
    have HS := Lib.hid hs
    have HNN := Lib.hid hN
    have hne := hi.1
    have hne2 := hne.symm
    have hlast : ∀ (w2 : World) (sg sc' : Nat) (v1 v2 : Value), Below w.heap.size w w2 → w2.ownsRow w.heap.size 9 1 (.slice (some ⟨sg, 0, none⟩) s.length sc') s.length (strs s) → RowIs w2 gp 31 [v1] → RowIs w2 gs 3 [v2] →
        UInv gp gs N (some (s, ptsF s)) ((w2.setCell ⟨gp, 0, none⟩ (.slice (some ⟨sg, 0, none⟩) s.length sc')).setCell ⟨gs, 0, none⟩ (.int .i64 (ptsF s : Int))) ∧
        Fr (fun k => k = gp ∨ k = gs) w ((w2.setCell ⟨gp, 0, none⟩ (.slice (some ⟨sg, 0, none⟩) s.length sc')).setCell ⟨gs, 0, none⟩ (.int .i64 (ptsF s : Int))) := by
      intro w2 sg sc' v1 v2 hb ho hr1 hr2
      have hS := World.ownsRow.mono ho hN
      have hS2 := own_kept (own_kept hS (grownBy_setCell w2 ⟨gp, 0, none⟩ (.slice (some ⟨sg, 0, none⟩) s.length sc')) (fun q hq e => by have := (hS.lt q hq).1; have := Option.some.inj e; dsimp only at this; omega)) (grownBy_setCell _ ⟨gs, 0, none⟩ (.int .i64 (ptsF s : Int))) (fun q hq e => by have := (hS.lt q hq).1; have := Option.some.inj e; dsimp only at this; omega)
      refine ⟨⟨hne, sg, sc', (hr1.set 0 _).far (fun e => hne e) _, (hr2.far (fun e => hne e.symm) _).set 0 _, hS2⟩, ?_⟩
      exact ((Fr.of_below hb _).trans ((Fr.of_grown (grownBy_setCell w2 _ _)).mono (fun k _ h => .inl (Option.some.inj h).symm))).trans ((Fr.of_grown (grownBy_setCell _ _ _)).mono (fun k _ h => .inr (Option.some.inj h).symm))
    have HL := Lib.hid hlast
    have HI := Lib.hid hi
    clear hp hs gs5 hsh hN hlast hi hcap
    have hnn : ∀ W, (binOp .eql 31 (.slice none 0 0) (.slice none 0 0)).run Try.prog W = .ok (.bool true) W := fun W => Lib.run_eql_slice_nil_nil W _ _ Try.underlying31
    have hsn : ∀ W a l c, (binOp .eql 31 (.slice (some a) l c) (.slice none 0 0)).run Try.prog W = .ok (.bool false) W := fun W a l c => Lib.run_eql_slice_some_nil W a l c Try.underlying31
    cases st with
    | none =>
      clear hsn
      have HST := Lib.hid (show uStep none (ps, s) = (some (s, ptsF s), true) from rfl)
      rw [HST.out]
      have HI1 := Lib.hid (show RowIs w gp 31 [.slice none 0 0] from HI.out.2.1)
      have HI2 := Lib.hid (show RowIs w gs 3 [.int .i64 0] from HI.out.2.2)
      clear HI
      go_enter Try.func66, Try.ntmps66
      go_wp2_with fail
      refine (HPT.out _ HS.out).mono ?_
      rintro e w1 ⟨rfl, hb1⟩
      have HB1 := Lib.hid hb1
      have a0 := (HI1.out.below hb1).cell (j := 0) rfl
      have a1 := (HI2.out.below hb1).cell (j := 0) rfl
      clear hb1
      go_wp2_with fail
      refine (HSC.out _ (HS.out.below HB1.out)).mono ?_
      rintro e w2 ⟨sg, sc', rfl, ho2, hb2⟩
      have HB2 := Lib.hid (HB1.out.trans (hb2.mono HB1.out.size))
      have HO2 := Lib.hid (World.ownsRow.mono ho2 HB1.out.size)
      have HR1 := Lib.hid (HI1.out.below HB2.out)
      have HR2 := Lib.hid (HI2.out.below HB2.out)
      have a2 := HR1.out.cell (j := 0) rfl
      have a3 := HR2.out.cell (j := 0) rfl
      have f0 := HR1.out.free 0
      have f1 := HR2.out.free 0
      clear ho2 hb2 a0 a1
      go_wp2_with fail
      go_ret
      obtain ⟨r1, r2⟩ := HL.out w2 sg sc' _ _ HB2.out HO2.out HR1.out HR2.out
      exact ⟨rfl, r1, r2⟩
    | some y =>
      obtain ⟨b, n⟩ := y
      obtain ⟨ga, gc, k1, k2, k3⟩ := HI.out.2
      have HI1 := Lib.hid k1
      have HI2 := Lib.hid k2
      clear k1 k2 k3 hnn
      by_cases hlt : ptsF s < n
      · have HST := Lib.hid (show uStep (some (b, n)) (ps, s) = (some (s, ptsF s), true) by simp [uStep, hlt])
        rw [HST.out]
        have hd : decide (ptsF s < n) = true := by simpa using hlt
        clear HI
        go_enter Try.func66, Try.ntmps66
        go_wp2_with fail
        refine (HPT.out _ HS.out).mono ?_
        rintro e w1 ⟨rfl, hb1⟩
        have HB1 := Lib.hid hb1
        have a0 := (HI1.out.below hb1).cell (j := 0) rfl
        have a1 := (HI2.out.below hb1).cell (j := 0) rfl
        clear hb1
        go_wp2_with fail
        refine (HSC.out _ (HS.out.below HB1.out)).mono ?_
        rintro e w2 ⟨sg, sc', rfl, ho2, hb2⟩
        have HB2 := Lib.hid (HB1.out.trans (hb2.mono HB1.out.size))
        have HO2 := Lib.hid (World.ownsRow.mono ho2 HB1.out.size)
        have HR1 := Lib.hid (HI1.out.below HB2.out)
        have HR2 := Lib.hid (HI2.out.below HB2.out)
        have a2 := HR1.out.cell (j := 0) rfl
        have a3 := HR2.out.cell (j := 0) rfl
        have f0 := HR1.out.free 0
        have f1 := HR2.out.free 0
        clear ho2 hb2 a0 a1
        go_wp2_with fail
        go_ret
        obtain ⟨r1, r2⟩ := HL.out w2 sg sc' _ _ HB2.out HO2.out HR1.out HR2.out
        exact ⟨rfl, r1, r2⟩
      · have HST := Lib.hid (show uStep (some (b, n)) (ps, s) = (some (b, n), true) by simp [uStep, hlt])
        rw [HST.out]
        have hd : decide (ptsF s < n) = false := by simpa using hlt
        go_enter Try.func66, Try.ntmps66
        go_wp2_with fail
        refine (HPT.out _ HS.out).mono ?_
        rintro e w1 ⟨rfl, hb1⟩
        have HB1 := Lib.hid hb1
        have a0 := (HI1.out.below hb1).cell (j := 0) rfl
        have a1 := (HI2.out.below hb1).cell (j := 0) rfl
        clear hb1
        go_wp2_with fail
        go_ret
        obtain ⟨ga, gc, k1, k2, k3⟩ := HI.out.2
        exact ⟨rfl, ⟨hne, ga, gc, k1.below HB1.out, k2.below HB1.out, own_below k3 HB1.out⟩, Fr.of_below HB1.out _⟩
end Go.Proofs.Ytenedmkjbmbapaa
