/- The first rebuilding: the program's teller. -/
import Derived.Test.YtenedmkjbmbapaaFirstS
import Derived.Test.YtenedmkjbmbapaaCountM
import Derived.Test.YtenedmkjbmbapaaRebI
namespace Go.Proofs.Ytenedmkjbmbapaa
open Go.RowKit

def fStep (_ : Option Leaf) (l : Leaf) : Option Leaf × Bool := (some l, false)
def fEnd : List Leaf → Option Leaf × Bool
  | [] => (none, true)
  | l :: _ => (some l, false)
theorem fRun (L : List Leaf) : runL fStep none L = fEnd L := by
  cases L with
  | nil => rfl
  | cons l L =>
    rw [show (l :: L) = [l] ++ L from rfl, runL_append, runL_one]
    rfl
def FInv (gp gs N : Nat) : Option Leaf → World → Prop
  | none, w => gp ≠ gs ∧ RowIs w gp 30 [.slice none 0 0] ∧ RowIs w gs 31 [.slice none 0 0]
  | some l, w => ∃ pa pc sg sc, RowIs w gp 30 [.slice pa l.1.length pc] ∧ RowIs w gs 31 [.slice (some ⟨sg, 0, none⟩) l.2.length sc] ∧
      w.ownsRow N 54 2 (.slice pa l.1.length pc) l.1.length (pairs l.1) ∧ w.ownsRow N 9 1 (.slice (some ⟨sg, 0, none⟩) l.2.length sc) l.2.length (strs l.2)
set_option maxRecDepth 100000 in
theorem clonePs_any (pa : Option Addr) (pc : Nat) (ps : List (Int × Int)) (w : World) (h4 : ps.length ≤ 4) (hs : pa = none ∨ ∃ g, pa = some ⟨g, 0, none⟩) (hr : Reads w pa (pairs ps)) :
    Calls Try.prog 61 #[.slice pa ps.length pc] w fun e w' => ∃ pa' pc', e = .returned (.slice pa' ps.length pc') ∧ w'.ownsRow w.heap.size 54 2 (.slice pa' ps.length pc') ps.length (pairs ps) ∧ Below w.heap.size w w' := by
  obtain ⟨i0, hi, hz0, hz1, hz2⟩ := info_parts info_pair
  rcases hs with rfl | ⟨g, rfl⟩
  · have hn : ps = [] := by
      rcases hr with h0 | ⟨b, off, e, _⟩
      · exact List.eq_nil_of_length_eq_zero (by have := pairs_length ps; rw [h0] at this; simp at this; omega)
      · cases e
    subst hn
    refine (Try.slices_Clone_nil_f61 0 pc w).mono ?_
    rintro e w' ⟨rfl, rfl⟩
    exact ⟨none, 0, rfl, World.ownsRow_nil _ _ _ _, Below.refl _ _⟩
  · have hc : ∀ j u, (pairs ps)[j]? = some u → w.cell? ⟨g, 0 + j, none⟩ = some u := by
      intro j u hu
      rcases hr with h0 | ⟨b, off, e, _, h3⟩
      · rw [h0] at hu; simp at hu
      · injection e with e; injection e with e1 e2
        subst e1; subst e2
        exact h3 j u hu
    refine (Try.slices_Clone_f61 i0 _ 2 16 hi hz0 hz1 hz2 rfl (by decide) (fun w => by kernel_rfl) g 0 ps.length pc (pairs ps) w (pairs_length ps) (by unfold maxLen; omega) (by omega) hc (pairs_one ps)).mono ?_
    rintro e w' ⟨v', rfl, ho, _, hb⟩
    rcases ho.2 with ⟨h, hx⟩ | ⟨g', c', cur, h, _⟩
    · subst h
      exact ⟨none, 0, by rw [show ps.length = 0 from hx], by rw [show ps.length = 0 from hx] at ho ⊢; exact ho, hb⟩
    · subst h
      exact ⟨_, _, rfl, ho, hb⟩
theorem cloneSheet_any (sa : Option Addr) (sc : Nat) (s : List ByteArray) (w : World) (gs : gridB s 5 = true) (hr : Reads w sa (strs s)) :
    Calls Try.prog 62 #[.slice sa s.length sc] w fun e w' => ∃ g c, e = .returned (.slice (some ⟨g, 0, none⟩) s.length c) ∧ w'.ownsRow w.heap.size 9 1 (.slice (some ⟨g, 0, none⟩) s.length c) s.length (strs s) ∧ Below w.heap.size w w' := by
  obtain ⟨g1, g2, _⟩ := gridB_bd gs
  rcases hr with h0 | ⟨b, off, rfl, hb, hc⟩
  · simp [strs] at h0; subst h0; simp at g1
  · refine (Try.slices_Clone_string b off s.length sc s w (Nat.le_refl _) (by omega) (fun j hj => by
      have := hc j _ (strs_get hj)
      rw [this]; simp [List.getD, hj])).mono ?_
    rintro e w' ⟨v', rfl, ho, _, hb2⟩
    rw [List.take_length] at ho
    obtain ⟨g, c, rfl⟩ := Go.Joins.ownsRow_form ho (by omega)
    exact ⟨g, c, rfl, ho, hb2⟩
theorem eg60 : ∀ args w, (callFunc 60 args).run Try.prog w = .ok (.enter 60 args) w := enters_of Try.func60 (by kernel_rfl) rfl
set_option maxRecDepth 100000 in
set_option maxHeartbeats 4000000 in
theorem fTell (gp gs N : Nat) (h0 : gp < N) (h1 : gs < N) : Teller (Option Leaf) 60 (.pointer (some ⟨gp, 0, none⟩)) (.pointer (some ⟨gs, 0, none⟩)) (fun k => k = gp ∨ k = gs) N (FInv gp gs N) fStep (fun st => st = none) := by
  refine ⟨fun k hk => by rcases hk with h | h <;> omega, fun st l h h2 => by simp [fStep] at h2, ?_, ?_⟩
  · intro st w w' row hl hi hf hr
    subst hl
    have ne : ∀ k, k < N → ¬ row = some k := fun k hk e => by have := (hr k e).1; omega
    exact ⟨hi.1, hf.row hi.2.1 (ne _ h0), hf.row hi.2.2 (ne _ h1)⟩
  · intro st w pa pc ps sa sc s hl hi hN gs5 _ hps hsh hp hs
    subst hl
    obtain ⟨hne, hi1, hi2⟩ := hi
    have HI1 := Lib.hid hi1
    have HI2 := Lib.hid hi2
    have HP := Lib.hid (clonePs_any pa pc ps w hps hsh hp)
    have HSC := Lib.hid (fun w hr => cloneSheet_any sa sc s w gs5 hr)
    have HS := Lib.hid hs
    have HNN := Lib.hid hN
    have hne2 := hne.symm
    clear hp hs gs5 hi1 hi2 hsh hN
    go_enter Try.func60, Try.ntmps60
    go_wp2_with fail
    refine HP.out.mono ?_
    rintro e w1 ⟨pa', pc', rfl, ho1, hb1⟩
    have HO1 := Lib.hid ho1
    have HB1 := Lib.hid hb1
    clear ho1 hb1
    go_wp2_with fail
    refine (HSC.out _ (HS.out.below HB1.out)).mono ?_
    rintro e w2 ⟨sg, sc', rfl, ho2, hb2⟩
    have HB2 := Lib.hid (HB1.out.trans (hb2.mono HB1.out.size))
    have HO1' := Lib.hid (own_below HO1.out hb2)
    have HO2 := Lib.hid ho2
    have HR1 := Lib.hid ((HI1.out.below HB1.out).below hb2)
    have HR2 := Lib.hid ((HI2.out.below HB1.out).below hb2)
    have a0 := HR1.out.cell (j := 0) rfl
    have a1 := HR2.out.cell (j := 0) rfl
    have f0 := HR1.out.free 0
    have f1 := HR2.out.free 0
    clear ho2 hb2
    go_wp2_with fail
    go_ret
    have hP := World.ownsRow.mono HO1'.out HNN.out
    have hS := World.ownsRow.mono HO2.out (Nat.le_trans HNN.out HB1.out.size)
    have hP2 := own_kept (own_kept hP (grownBy_setCell w2 ⟨gp, 0, none⟩ (.slice pa' ps.length pc')) (fun q hq e => by have := (hP.lt q hq).1; have := Option.some.inj e; dsimp only at this; omega)) (grownBy_setCell _ ⟨gs, 0, none⟩ (.slice (some ⟨sg, 0, none⟩) s.length sc')) (fun q hq e => by have := (hP.lt q hq).1; have := Option.some.inj e; dsimp only at this; omega)
    have hS2 := own_kept (own_kept hS (grownBy_setCell w2 ⟨gp, 0, none⟩ (.slice pa' ps.length pc')) (fun q hq e => by have := (hS.lt q hq).1; have := Option.some.inj e; dsimp only at this; omega)) (grownBy_setCell _ ⟨gs, 0, none⟩ (.slice (some ⟨sg, 0, none⟩) s.length sc')) (fun q hq e => by have := (hS.lt q hq).1; have := Option.some.inj e; dsimp only at this; omega)
    refine ⟨rfl, ⟨pa', pc', sg, sc', (HR1.out.set 0 _).far (fun e => hne e) _, (HR2.out.far (fun e => hne e.symm) _).set 0 _, hP2, hS2⟩, ?_⟩
    exact ((Fr.of_below HB2.out _).trans ((Fr.of_grown (grownBy_setCell w2 _ _)).mono (fun k _ h => .inl (Option.some.inj h).symm))).trans ((Fr.of_grown (grownBy_setCell _ _ _)).mono (fun k _ h => .inr (Option.some.inj h).symm))
end Go.Proofs.Ytenedmkjbmbapaa
