/- The program's rebuildings: all leaves are told in order, until it is told to stop; whatever the teller does in variables of its own. -/
import Derived.Test.YtenedmkjbmbapaaRebP
import Derived.Test.YtenedmkjbmbapaaAppK
import Derived.Test.YtenedmkjbmbapaaPlaceI
import Derived.Test.YtenedmkjbmbapaaCntS
import Derived.Deep.RegionHeld3
namespace Go.Proofs.Ytenedmkjbmbapaa
open Go.RowKit

theorem runL_stop {σ : Type} {step : σ → Leaf → σ × Bool} {st : σ} {a : List Leaf} (h : (runL step st a).2 = false) (b : List Leaf) : runL step st (a ++ b) = runL step st a := by
  rw [runL_append, h]; simp
theorem leavesTo_pre (b : List ByteArray) (bs : List (List ByteArray)) (s : List ByteArray) (ps : List (Int × Int)) (k : Nat) : ∃ r, leaves (b :: bs) s ps = leavesTo b bs s ps k ++ r := by
  refine ⟨((plF s b).drop k).flatMap fun p => leaves bs (layR s b p.1 p.2) (ps ++ [p]), ?_⟩
  unfold leavesTo
  rw [← List.flatMap_append, List.take_append_drop]
  rfl
/-- what is asked of the function that is told -/
structure Teller (σ : Type) (g : Nat) (c1 c2 : Value) (C : Nat → Prop) (N : Nat) (Inv : σ → World → Prop) (step : σ → Leaf → σ × Bool) (Live : σ → Prop) : Prop where
  low : ∀ k, C k → k < N
  goes : ∀ st l, Live st → (step st l).2 = true → Live (step st l).1
  keep : ∀ st (w w' : World) row, Live st → Inv st w → Fr (fun k => row = some k) w w' → (∀ q, row = some q → N ≤ q ∧ ∃ cur, w.heap[q]? = some (.cells cur 54 (0, 0))) → Inv st w'
  tell : ∀ st (w : World) (pa : Option Addr) (pc : Nat) (ps : List (Int × Int)) (sa : Option Addr) (sc : Nat) (s : List ByteArray), Live st → Inv st w → N ≤ w.heap.size → gridB s 5 = true → s.length ≤ sc → ps.length ≤ 4 → (pa = none ∨ ∃ g, pa = some ⟨g, 0, none⟩) → Reads w pa (pairs ps) → Reads w sa (strs s) →
    Calls Try.prog g (#[.slice pa ps.length pc, .slice sa s.length sc] ++ #[c1, c2]) w fun e w' => e = .returned (.bool (step st (ps, s)).2) ∧ Inv (step st (ps, s)).1 w' ∧ Fr C w w'
theorem Teller.below {σ : Type} {g : Nat} {c1 c2 : Value} {C : Nat → Prop} {N : Nat} {Inv : σ → World → Prop} {step : σ → Leaf → σ × Bool} {Live : σ → Prop} (h : Teller σ g c1 c2 C N Inv step Live) {st : σ} (hv : Live st) {w w' : World} (hi : Inv st w) (hb : Below w.heap.size w w') : Inv st w' :=
  h.keep st w w' none hv hi (Fr.of_below hb _) (fun _ e => by cases e)
theorem Teller.grown {σ : Type} {g : Nat} {c1 c2 : Value} {C : Nat → Prop} {N : Nat} {Inv : σ → World → Prop} {step : σ → Leaf → σ × Bool} {Live : σ → Prop} (h : Teller σ g c1 c2 C N Inv step Live) {st : σ} (hv : Live st) {w w' : World} {v : Value} {n : Nat} {xs : List Value} (hi : Inv st w) (ho : w.ownsRow N 54 2 v n xs) (hg : w.grownBy w' v.ownBlock) : Inv st w' := by
  refine h.keep st w w' v.ownBlock hv hi (Fr.of_grown hg) (fun q hq => ⟨(ho.lt q hq).1, ?_⟩)
  rcases ho.2 with ⟨rfl, _⟩ | ⟨g, c, cur, rfl, _, hh, _⟩
  · simp [Value.ownBlock] at hq
  · simp [Value.ownBlock] at hq; subst hq; exact ⟨cur, hh⟩
theorem own_le {w : World} {base n sz c : Nat} {e : TypeId} {va : Option Addr} {xs : List Value} (h : w.ownsRow base e sz (.slice va n c) n xs) : n ≤ c := by
  rcases h.2 with ⟨h, h0⟩ | ⟨g, c', cur, h, _, _, h1, _⟩
  · omega
  · injection h with h2 h3 h4; omega
theorem own_shape {w : World} {base n sz c : Nat} {e : TypeId} {va : Option Addr} {xs : List Value} (h : w.ownsRow base e sz (.slice va n c) n xs) : va = none ∨ ∃ g, va = some ⟨g, 0, none⟩ := by
  rcases h.2 with ⟨h, _⟩ | ⟨g, c', cur, h, _⟩
  · injection h with h1; exact .inl h1
  · injection h with h1; exact .inr ⟨g, h1⟩
theorem runL_live {σ : Type} {step : σ → Leaf → σ × Bool} {Live : σ → Prop} (h : ∀ st l, Live st → (step st l).2 = true → Live (step st l).1) : ∀ (L : List Leaf) (st : σ), Live st → (runL step st L).2 = true → Live (runL step st L).1 := by
  intro L
  induction L with
  | nil => intro st hv _; exact hv
  | cons l L ih =>
    intro st hv h2
    rw [show runL step st (l :: L) = runL step st ([l] ++ L) from rfl, runL_append, runL_one] at h2 ⊢
    by_cases hc : (step st l).2 = true
    · rw [if_pos hc] at h2 ⊢; exact ih _ (h st l hv hc) h2
    · rw [if_neg hc] at h2; exact absurd h2 hc
theorem BlksAt.tail {w : World} {b off : Nat} {y : BlkT} {bs : List BlkT} (h : BlksAt w (some ⟨b, off, none⟩) (y :: bs)) : BlksAt w (some ⟨b, off + 1, none⟩) bs := by
  refine ⟨?_, fun z hz => h.inner z (List.mem_cons_of_mem _ hz)⟩
  rcases h.outer with h0 | ⟨b', o', e, hb, hc⟩
  · simp [blks] at h0
  · injection e with e; injection e with e1 e2 e3
    subst e1; subst e2
    exact .inr ⟨b, off + 1, rfl, hb, fun k u hu => by rw [show off + 1 + k = off + (k + 1) by omega]; exact hc (k + 1) u (by simpa [blks] using hu)⟩
theorem BlksAt.fr {D : Nat → Prop} {w w' : World} {a : Option Addr} {bs : List BlkT} (h : BlksAt w a bs) (hf : Fr D w w') (h1 : bs ≠ [] → ∀ q, a = some q → ¬ D q.block) (h2 : ∀ b ∈ bs, ∀ q, b.ad = some q → ¬ D q.block) : BlksAt w' a bs := by
  refine ⟨?_, fun b hb => hf.reads (h.inner b hb) (h2 b hb)⟩
  by_cases e : bs = []
  · subst e; exact .inl rfl
  · exact hf.reads h.outer (h1 e)
/-- a place that the teller and the appends leave alone -/
def Off (C : Nat → Prop) (v : Value) (a : Option Addr) : Prop := ∀ q, a = some q → ¬ C q.block ∧ v.ownBlock ≠ some q.block
set_option maxRecDepth 100000 in
set_option maxHeartbeats 8000000 in
theorem rebuild_any {σ : Type} {g : Nat} {c1 c2 : Value} {C : Nat → Prop} {N : Nat} {Inv : σ → World → Prop} {step : σ → Leaf → σ × Bool} {Live : σ → Prop} (eg : ∀ args w, (callFunc g args).run Try.prog w = .ok (.enter g args) w) (HT : Teller σ g c1 c2 C N Inv step Live) :
    ∀ (bs : List BlkT) (ba : Option Addr) (bc : Nat) (sa : Option Addr) (sc : Nat) (s : List ByteArray) (va : Option Addr) (vc : Nat) (ps : List (Int × Int)) (w : World) (st : σ), bs.length ≤ bc → bs.length + ps.length ≤ 4 → (∀ b ∈ bs, gridB b.zs 3 = true) → gridB s 5 = true → s.length ≤ sc → N ≤ w.heap.size →
      Inv st w → Reads w sa (strs s) → BlksAt w ba bs → Off C (.slice va ps.length vc) sa → (bs ≠ [] → Off C (.slice va ps.length vc) ba) → (∀ b ∈ bs, Off C (.slice va ps.length vc) b.ad) → w.ownsRow N 54 2 (.slice va ps.length vc) ps.length (pairs ps) → Live st →
      Calls Try.prog 55 #[.slice sa s.length sc, .slice ba bs.length bc, .slice va ps.length vc, .func (.func g) #[] #[c1, c2]] w fun e w' => e = .returned (.bool (runL step st (leaves (zssB bs) s ps)).2) ∧ Inv (runL step st (leaves (zssB bs) s ps)).1 w' ∧
        w'.ownsRow N 54 2 (.slice va ps.length vc) ps.length (pairs ps) ∧ Fr (fun k => C k ∨ (Value.slice va ps.length vc).ownBlock = some k) w w' := by
  intro bs
  induction bs with
  | nil =>
    intro ba bc sa sc s va vc ps w st hbc hlen hbg gs hsc hN hI hs hb hof1 hof2 hof3 hown hlive
    have HTL := Lib.hid (HT.tell st w va vc ps sa sc s hlive hI hN gs hsc (by omega) (own_shape hown) (own_reads hown) hs)
    have HO := Lib.hid hown
    have HE : Hid (runL step st (leaves (zssB []) s ps) = step st (ps, s)) := Lib.hid (runL_one step st (ps, s))
    rw [HE.out]
    clear hown hs hb hI gs hof1 hof2 hof3 hbg
    go_enter Try.func55, Try.ntmps55
    go_wp2_with (go_at_fn g; go_must (refine HTL.out.mono ?_; rintro e w1 ⟨rfl, hi1, hf1⟩))
    go_ret
    exact ⟨rfl, hi1, hf1.own HO.out (fun q hq hc => by have := HT.low q hc; have := (HO.out.lt q hq).1; omega), hf1.mono (fun k _ hc => .inl hc)⟩
  | cons y bs ih =>
    intro ba bc sa sc s va vc ps w st hbc hlen hbg gs hsc hN hI hs hb hof1 hof2 hof3 hown hlive
    have HLV := Lib.hid hlive
    clear hlive
    simp only [List.length_cons] at hbc hlen
    obtain ⟨i0, hi, hz0, hz1, hz2⟩ := info_parts info_pair
    have gb := hbg y (List.mem_cons_self ..)
    have HG := Lib.hid gs
    have HBG := Lib.hid (fun b (hb : b ∈ bs) => hbg b (List.mem_cons_of_mem _ hb))
    have HS := Lib.hid hs
    have HB := Lib.hid hb
    have HI := Lib.hid hI
    have HO := Lib.hid hown
    have HF1 := Lib.hid hof1
    have HF2 := Lib.hid (hof2 (by simp))
    have HF3 := Lib.hid hof3
    have HN := Lib.hid hN
    have hin := hb.inner y (List.mem_cons_self ..)
    rcases hb.outer with h0 | ⟨b, off, rfl, hbk, hc⟩
    · simp [blks] at h0
    have hc0 := hc 0 _ rfl
    simp only [Nat.add_zero] at hc0
    have HTAIL := Lib.hid hb.tail
    have HALL := Lib.hid (leavesTo_all y.zs (zssB bs) s ps)
    have HPRE := Lib.hid (leavesTo_pre y.zs (zssB bs) s ps)
    have HSUC := Lib.hid (fun k h => leavesTo_succ (b := y.zs) (bs := zssB bs) (s := s) (ps := ps) (k := k) h)
    have HZ : Hid (zssB (y :: bs) = y.zs :: zssB bs) := Lib.hid rfl
    rw [HZ.out]
    have HF3y := Lib.hid (hof3 y (List.mem_cons_self ..))
    obtain ⟨rest, hrest⟩ : ∃ rest, rest = zssB bs := ⟨_, rfl⟩
    rw [← hrest] at HALL HPRE HSUC ⊢
    have HIH := Lib.hid (fun ba bc sa sc s va vc ps w st a1 a2 a3 a4 a5 a6 a7 a8 a9 a10 a11 a12 a13 => ih ba bc sa sc s va vc ps w st a1 a2 a3 a4 a5 a6 a7 a8 a9 a10 a11 a12 a13)
    rw [← hrest] at HIH
    obtain ⟨ya, yc, ys⟩ := y
    simp only at hc0 hin gb HALL HPRE HSUC HF3y ⊢
    have HY := Lib.hid hin
    have HGB := Lib.hid gb
    have HC0 := Lib.hid hc0
    clear ih hown hs hb hI hof1 hof2 hof3 hbg gs hin gb hc hrest hN HZ
    go_enter Try.func55, Try.ntmps55
    go_wp2_with fail
    refine (placesFor_any _ _ _ _ s ys _ HG.out HGB.out HS.out HY.out).mono ?_
    rintro e w1 ⟨pa, pc, rfl, hown, hb1⟩
    have HPL := Lib.hid hown
    have HB1 := Lib.hid hb1
    have hpl := plF_len' (ys := ys) HG.out
    have HO1 := Lib.hid (own_below HO.out hb1)
    have HI1 := Lib.hid (HT.below HLV.out HI.out hb1)
    clear hown hb1
    obtain ⟨pl, hpe⟩ : ∃ pl, pl = plF s ys := ⟨_, rfl⟩
    rw [← hpe] at HPL hpl HALL ⊢
    have HPE := Lib.hid hpe
    clear hpe
    go_wp2_with fail
    go_loopw [26] (fun i wr => ∃ (i0 : Nat) (st2 : σ), i0 ≤ pl.length ∧ i = .int .i64 i0 ∧ Hid (runL step st (leavesTo ys rest s ps i0) = (st2, true)) ∧ Hid (Inv st2 wr) ∧ Hid (wr.ownsRow N 54 2 (.slice va ps.length vc) ps.length (pairs ps)) ∧
      Hid (Fr (fun k => C k ∨ (Value.slice va ps.length vc).ownBlock = some k) w1 wr)) (fun i _ => pl.length - (intOf i).toNat)
    case atStart => exact ⟨0, st, by omega, rfl, Lib.hid (by rw [leavesTo_zero]; rfl), HI1, HO1, Lib.hid (Fr.refl _ _)⟩
    case round =>
      obtain ⟨i, st2, hil, rfl, HRUN, HIr, HOr, HFr⟩ := hrel
      by_cases hlt : i < pl.length
      · have hpm : pl[i] ∈ plF s ys := by rw [← HPE.out]; exact List.getElem_mem hlt
        have hpg := layR_grid HG.out HGB.out hpm
        have hps := plF_small HG.out hpm
        have hsuc : leavesTo ys rest s ps (i + 1) = leavesTo ys rest s ps i ++ leaves rest (layR s ys pl[i].1 pl[i].2) (ps ++ [pl[i]]) := by
          have h := HSUC.out i (by rw [← HPE.out]; exact hlt)
          simp only [← HPE.out] at h; exact h
        rcases own_reads HPL.out with h0 | ⟨pb, po, hpa, hpb, hpc⟩
        · have := pairs_length pl; rw [h0] at this; simp at this; omega
        obtain ⟨pg, hpg2, hpg3, hpg4⟩ := own_form HPL.out (by omega)
        rw [hpg2] at hpa
        injection hpa with hpa; injection hpa with e1 e2 e3
        subst e1; subst e2
        subst hpg2
        have hnp : ¬ (C pg ∨ (Value.slice va ps.length vc).ownBlock = some pg) := by
          rintro (h | h)
          · have := HT.low _ h; have := HN.out; omega
          · have := (HO.out.lt _ h).2; omega
        obtain ⟨g0, g1⟩ := pairs_get hlt
        have d0 := (World.cell?_of_block (a := ⟨pg, 0 + i * 2, none⟩) (HFr.out.block pg hpb hnp)).trans (hpc _ _ g0)
        have d1 := (World.cell?_of_block (a := ⟨pg, 0 + (i * 2 + 1), none⟩) (HFr.out.block pg hpb hnp)).trans (hpc _ _ g1)
        simp only [Nat.zero_add] at d0 d1
        obtain ⟨p, hp⟩ : ∃ x, x = pl[i] := ⟨_, rfl⟩
        rw [← hp] at d0 d1 hpm hpg hps hsuc
        obtain ⟨p1, p2⟩ := p
        simp only at d0 d1 hpg hps hsuc
        obtain ⟨ps1, ps2, ps3, ps4⟩ := hps
        have i0' : (0 : Int) ≤ (i : Int) := by omega
        have i1' : (i : Int) < (pl.length : Int) := by omega
        clear hpc g0 g1 hp hnp hpb
        have hbn : ¬ (C b ∨ (Value.slice va ps.length vc).ownBlock = some b) := by
          rintro (h | h)
          · exact (HF2.out _ rfl).1 h
          · exact (HF2.out _ rfl).2 h
        have hFw : Fr (fun k => C k ∨ (Value.slice va ps.length vc).ownBlock = some k) w wr := (Fr.of_below HB1.out _).trans HFr.out
        have HFW := Lib.hid hFw
        have hcb : wr.cell? ⟨b, off, none⟩ = some (.slice ya ys.length yc) := (World.cell?_of_block (a := ⟨b, off, none⟩) (hFw.block b hbk hbn)).trans HC0.out
        have hSr := hFw.reads HS.out (fun q hq => by rintro (h | h); exact (HF1.out q hq).1 h; exact (HF1.out q hq).2 h)
        have hYr := hFw.reads HY.out (fun q hq => by rintro (h | h); exact (HF3y.out q hq).1 h; exact (HF3y.out q hq).2 h)
        have hba := Go.Joins.below_alloc1 wr (.cells #[.int .i64 p1, .int .i64 p2] 54)
        have HBOX : Hid (RowIs (wr.alloc (.cells #[.int .i64 p1, .int .i64 p2] 54)) wr.heap.size 54 (pcells (p1, p2))) := Lib.hid (RowIs.new wr 54 (pcells (p1, p2)))
        have HSB := Lib.hid (hSr.below hba)
        have HYB := Lib.hid (hYr.below hba)
        have HBA := Lib.hid hba
        have hcB := cell_later hba hcb
        have hx0 := HBOX.out.cell (j := 0) rfl
        have hx1 := HBOX.out.cell (j := 1) rfl
        have HLB := Lib.hid (fun w hx hy => layBlock_any sa ya sc yc s ys p1 p2 w ps1 ps2 ps3 ps4 HG.out HGB.out hx hy)
        clear hSr hYr hba hcb hFw
        go_wp2_with fail
        clear d0 d1
        generalize wr.alloc (.cells #[.int .i64 p1, .int .i64 p2] 54) = wB at *
        go_region_held3 (fun w' => w'.cell? ⟨b, off, none⟩ = some (.slice ya ys.length yc) ∧ w'.cell? ⟨wr.heap.size, 0, none⟩ = some (.int .i64 p1) ∧ w'.cell? ⟨wr.heap.size, 1, none⟩ = some (.int .i64 p2))
          (first | exact ⟨hcB, hx0, hx1⟩ | exact ⟨cell_later hb2 hcB, cell_later hb2 hx0, cell_later hb2 hx1⟩)
          ((go_at_call 76; refine (HLB.out _ (Reads.drew HSB.out) (Reads.drew HYB.out)).mono ?_; rintro e w2 ⟨ad2, cp2, rfl, ho2, hb2⟩))
        obtain ⟨s2, hs2⟩ : ∃ s2, s2 = layR s ys p1 p2 := ⟨_, rfl⟩
        rw [← hs2] at ho2 hpg hsuc ⊢
        have HSUC2 := Lib.hid hsuc
        have HPG := Lib.hid hpg
        have HB2' := (Below.refl wB.heap.size wB).drew.trans (hb2.mono (Nat.le_refl _))
        have HB2 := Lib.hid HB2'
        have HO2 := Lib.hid ho2
        have hy0 := cell_later HB2' hx0
        have hy1 := cell_later HB2' hx1
        have hszB : wr.heap.size ≤ wB.heap.size := HBA.out.size
        have hsz2 : wB.heap.size ≤ w2.heap.size := HB2'.size
        have hsz1 : w.heap.size ≤ wr.heap.size := HFW.out.size
        have hvlt : ∀ q, (Value.slice va ps.length vc).ownBlock = some q → q < wr.heap.size := fun q hq => (HOr.out.lt q hq).2
        have hvN : ∀ q, (Value.slice va ps.length vc).ownBlock = some q → N ≤ q := fun q hq => (HOr.out.lt q hq).1
        have hNw := HN.out
        -- the world ahead of the append
        obtain ⟨wC, hwC⟩ : ∃ wC, wC = (w2.alloc (.cells #[.int .i64 p1, .int .i64 p2] 54)).drew := ⟨_, rfl⟩
        have hbC : Below w2.heap.size w2 wC := by rw [hwC]; exact (Go.Joins.below_alloc1 w2 _).drew
        have hbrC : Below wr.heap.size wr wC := (HBA.out.trans (HB2'.mono hszB)).trans (hbC.mono (Nat.le_trans hszB hsz2))
        have hszC : w2.heap.size ≤ wC.heap.size := hbC.size
        have hOC := own_below HOr.out hbrC
        have HL2 := runL_live HT.goes _ _ HLV.out (show (runL step st (leavesTo ys rest s ps i)).2 = true by rw [HRUN.out])
        rw [HRUN.out] at HL2
        have hIC := HT.below HL2 HIr.out hbrC
        have had : ∀ q, ad2 = some q → wB.heap.size ≤ q.block ∧ q.block < w2.heap.size := fun q hq => by
          have := ho2.lt q.block (by rw [hq]; rfl)
          exact this
        have hrd2 := (own_reads ho2).below hbC
        have hcp2 := own_le ho2
        have hFC : Fr (fun k => C k ∨ (Value.slice va ps.length vc).ownBlock = some k) w wC := HFW.out.trans (Fr.of_below hbrC _)
        obtain ⟨tc, htc⟩ : ∃ tc, tc = bc - 1 := ⟨_, rfl⟩
        obtain ⟨tad, htad⟩ : ∃ tad, tad = (if bc = 1 then (some ⟨b, off, none⟩ : Option Addr) else some ⟨b, off + 1, none⟩) := ⟨_, rfl⟩
        have htb : ∀ q, tad = some q → q.block = b := fun q hq => by
          rw [htad] at hq; split at hq <;> (injection hq with hq; rw [← hq])
        have hbt : BlksAt w tad bs := by
          rw [htad]; split
          · have : bs = [] := List.eq_nil_of_length_eq_zero (by omega)
            subst this; exact ⟨.inl rfl, fun _ h => by cases h⟩
          · exact HTAIL.out
        have hlo : ∀ z ∈ bs, ∀ q, z.ad = some q → q.block < w.heap.size := fun z hz q hq => by
          rcases hbt.inner z hz with h0 | ⟨bb, oo, e, h2, _⟩
          · have hg := (gridB_bd (HBG.out z hz)).1
            have : (strs z.zs).length = 0 := by rw [h0]; rfl
            simp at this; rw [this] at hg; simp at hg
          · rw [hq] at e; injection e with e; rw [e]; exact h2
        have hvb : ∀ q, (Value.slice va ps.length vc).ownBlock = some q → q ≠ wr.heap.size := fun q hq => by have := hvlt q hq; omega
        have hwrB : wr.heap.size < wC.heap.size := by have := HBOX.out.lt; omega
        have hCALL : ∀ (g3 c3 : Nat) (w3 : World), w3.ownsRow N 54 2 (.slice (some ⟨g3, 0, none⟩) (ps.length + 1) c3) (ps.length + 1) (pairs ps ++ pcells (p1, p2)) → wC.grownBy w3 (Value.slice va ps.length vc).ownBlock → KeptApp wC w3 (.slice va ps.length vc) (.slice (some ⟨g3, 0, none⟩) (ps.length + 1) c3) ps.length 1 →
            Calls Try.prog 55 #[.slice ad2 s2.length cp2, .slice tad bs.length tc, .slice (some ⟨g3, 0, none⟩) (ps.length + 1) c3, .func (.func g) #[] #[c1, c2]] w3 fun e w' => e = .returned (.bool (runL step st2 (leaves rest s2 (ps ++ [(p1, p2)]))).2) ∧ Inv (runL step st2 (leaves rest s2 (ps ++ [(p1, p2)]))).1 w' ∧
              w'.ownsRow N 54 2 (.slice va ps.length vc) ps.length (pairs ps) ∧ Fr (fun k => C k ∨ (Value.slice va ps.length vc).ownBlock = some k) wr w' ∧ (∀ o, w'.cell? ⟨wr.heap.size, o, none⟩ = w3.cell? ⟨wr.heap.size, o, none⟩) := by
          intro g3 c3 w3 hown3 hgrow3 hkeep3
          have hg3 : (Value.slice va ps.length vc).ownBlock = some g3 ∨ wC.heap.size ≤ g3 := by
            rcases hkeep3 with ⟨gg, cap, e1, e2⟩ | ⟨h1, _⟩
            · injection e2 with e2; injection e2 with e2; injection e2 with e2
              left; rw [e1, e2]; rfl
            · exact .inr (h1 g3 rfl)
          have hf3 : Fr (fun k => C k ∨ (Value.slice va ps.length vc).ownBlock = some k) w w3 := hFC.trans ((Fr.of_grown hgrow3).mono (fun k _ h => .inr h))
          have hfr3 : Fr (fun k => C k ∨ (Value.slice va ps.length vc).ownBlock = some k) wr w3 := (Fr.of_below hbrC _).trans ((Fr.of_grown hgrow3).mono (fun k _ h => .inr h))
          have hl1 : (ps ++ [(p1, p2)]).length = ps.length + 1 := by simp
          have hne : ∀ k, k < wr.heap.size → (Value.slice va ps.length vc).ownBlock ≠ some k → g3 ≠ k := fun k hk hk2 e => by
            rcases hg3 with h | h
            · exact hk2 (by rw [h, e])
            · omega
          have := HIH.out tad tc ad2 cp2 s2 (some ⟨g3, 0, none⟩) c3 (ps ++ [(p1, p2)]) w3 st2 (by omega) (by rw [hl1]; omega) HBG.out HPG.out hcp2 (Nat.le_trans hNw hf3.size) (HT.grown HL2 hIC hOC hgrow3)
            (hrd2.grown hgrow3 (fun q hq e => by have := (had q hq).1; have := hvlt _ e.symm; omega))
            (hbt.fr hf3 (fun _ q hq => by rw [htb q hq]; rintro (h | h); exact (HF2.out _ rfl).1 h; exact (HF2.out _ rfl).2 h) (fun z hz q hq => by rintro (h | h); exact (HF3.out z (List.mem_cons_of_mem _ hz) q hq).1 h; exact (HF3.out z (List.mem_cons_of_mem _ hz) q hq).2 h))
            (fun q hq => ⟨fun h => by have := HT.low _ h; have := (had q hq).1; omega, fun e => by
              have e2 : g3 = q.block := by simpa [Value.ownBlock] using e
              rcases hg3 with h | h
              · have := hvlt _ h; have := (had q hq).1; omega
              · have := (had q hq).2; omega⟩)
            (fun _ q hq => ⟨by rw [htb q hq]; exact (HF2.out _ rfl).1, fun e => by
              have e2 : g3 = q.block := by simpa [Value.ownBlock] using e
              rw [htb q hq] at e2
              exact hne b (by omega) (HF2.out _ rfl).2 e2⟩)
            (fun z hz q hq => ⟨(HF3.out z (List.mem_cons_of_mem _ hz) q hq).1, fun e => by
              have e2 : g3 = q.block := by simpa [Value.ownBlock] using e
              have := hlo z hz q hq
              exact hne q.block (by omega) (HF3.out z (List.mem_cons_of_mem _ hz) q hq).2 e2⟩)
            (by rw [hl1, pairs_snoc]; exact hown3) HL2
          rw [hl1] at this
          refine this.mono ?_
          rintro e w4 ⟨he, hi4, ho4, hf4⟩
          rw [pairs_snoc] at ho4
          refine ⟨he, hi4, kept_own hOC hkeep3 (pairs_length ps) hf4 ho4 (fun q hq hq2 hc => ?_), hfr3.next hf4 (fun k hk hc => ?_), fun o => World.cell?_of_block (a := ⟨wr.heap.size, o, none⟩) (hf4.block wr.heap.size (by have := hgrow3.size; omega) ?_)⟩
          · rcases hc with h | h
            · have := HT.low _ h; have := hvN _ hq; omega
            · exact hq2 h
          · rcases hc with h | h
            · exact .inl h
            · rcases hg3 with h2 | h2
              · right; rw [h2]; exact h
              · have : g3 = k := by simpa [Value.ownBlock] using h
                omega
          · rintro (h | h)
            · have := HT.low _ h; omega
            · have h5 : g3 = wr.heap.size := by simpa [Value.ownBlock] using h
              rcases hg3 with h2 | h2
              · exact hvb _ h2 h5
              · omega
        have HCALL := Lib.hid hCALL
        have HOC := Lib.hid hOC
        have HTAD := Lib.hid htad
        have HTC := Lib.hid htc
        have HWC := Lib.hid hwC
        have hNC : N ≤ wC.heap.size := by omega
        have HVB := Lib.hid hvb
        have hcC0 : wC.cell? ⟨wr.heap.size, 0, none⟩ = some (.int .i64 p1) := cell_later hbC hy0
        have hcC1 : wC.cell? ⟨wr.heap.size, 1, none⟩ = some (.int .i64 p2) := cell_later hbC hy1
        have HK3 : Hid (∀ w3, wC.grownBy w3 (Value.slice va ps.length vc).ownBlock → w3.cell? ⟨wr.heap.size, 0, none⟩ = some (.int .i64 p1) ∧ w3.cell? ⟨wr.heap.size, 1, none⟩ = some (.int .i64 p2)) := Lib.hid (fun w3 hg =>
          ⟨(hg.cell_far ⟨wr.heap.size, 0, none⟩ hwrB (fun e => hvb _ e.symm rfl)).trans hcC0, (hg.cell_far ⟨wr.heap.size, 1, none⟩ hwrB (fun e => hvb _ e.symm rfl)).trans hcC1⟩)
        clear hb2 hcB hx0 hx1 hs2 hsuc hpg ho2 HB2' hCALL hOC htad htc htb hbt hlo hIC hFC hrd2 had hbC hbrC hvlt hvN hwC hvb hcC0 hcC1
        have hb3 : (bs.length : Int) + 1 ≤ (bc : Int) := by omega
        rcases (show (bc = 1 ∧ tad = some ⟨b, off, none⟩ ∧ tc = 0) ∨ (bc ≠ 1 ∧ tad = some ⟨b, off + 1, none⟩ ∧ tc = bc - 1) by
          have := HTAD.out
          have h2 := HTC.out
          by_cases h : bc = 1
          · left; rw [if_pos h] at this; exact ⟨h, this, by omega⟩
          · right; rw [if_neg h] at this; exact ⟨h, this, h2⟩) with ⟨rfl, htd, hte⟩ | ⟨hcap, htd, hte⟩
        all_goals
          subst htd
          subst hte
          clear HTAD HTC
          have hb1 : (1 : Int) ≤ ((bs.length + 1 : Nat) : Int) := by omega
          have hb2 : (1 : Int) ≤ (bs.length : Int) + 1 := by omega
          try (have HZ : Hid (bs.length = 0) := Lib.hid (by omega))
          go_wp2_with fail
          go_region_held3 (fun w' => w'.cell? ⟨wr.heap.size, 0, none⟩ = some (.int .i64 p1) ∧ w'.cell? ⟨wr.heap.size, 1, none⟩ = some (.int .i64 p2))
            (first | exact ⟨hy0, hy1⟩ | exact HK3.out _ hgr3 | (have hk := HK3.out _ hgr3; exact ⟨(hcl4 _).trans hk.1, (hcl4 _).trans hk.2⟩) | go_keep)
            (first
              | (refine step_append_keep _ (by rfl) _ _ _ (by rfl) N 54 i0 _ 2 16 Try.underlying30 hi hz0 hz1 hz2 rfl (by decide) _ _ _ (by rfl) (by first | exact HOC.out | (rw [← HWC.out]; exact HOC.out)) ⟨w2.heap.size, 0, none⟩ 1 1 (pcells (p1, p2)) (by rfl) (by rfl) (World.news_of_block (cs := (pcells (p1, p2)).toArray) (t := 54) (fr := (0, 0)) (heap_alloc_new w2 _)) (by simp [pcells, Value.oneCell']) (by show ps.length + 1 ≤ maxLen; unfold maxLen; omega) (show (ps.length + 1) * 16 ≤ 140737488355328 by omega) (by simp; omega) (by decide) ?_; intro v' w3 hown3 hgrow3 hkeep3; have hgr3 : wC.grownBy w3 (Value.slice va ps.length vc).ownBlock := (by rw [HWC.out]; exact hgrow3); have hkp3 : KeptApp wC w3 (.slice va ps.length vc) v' ps.length 1 := (by rw [HWC.out]; exact hkeep3); obtain ⟨g3, c3, rfl⟩ := Go.Joins.ownsRow_form hown3 (by omega))
              | (go_at_call 55; (first | (have hcall := HCALL.out g3 c3 _ hown3 hgr3 hkp3; rw [HZ.out] at hcall; with_reducible refine hcall.mono ?_) | (with_reducible refine (HCALL.out g3 c3 _ hown3 hgr3 hkp3).mono ?_)); rintro e w4 ⟨rfl, hi4, ho4, hf4, hcl4⟩))
          obtain ⟨rr, hrr⟩ : ∃ rr, rr = runL step st2 (leaves rest s2 (ps ++ [(p1, p2)])) := ⟨_, rfl⟩
          rw [← hrr] at hi4 ⊢
          have HRR : Hid (runL step st (leavesTo ys rest s ps (i + 1)) = rr) := Lib.hid (by rw [HSUC2.out, runL_append, HRUN.out, hrr]; rfl)
          have HI4 := Lib.hid hi4
          have HO4 := Lib.hid ho4
          have HF4 := Lib.hid (HFr.out.trans hf4)
          clear hrr hi4 ho4 hf4 hcl4 hown3 hgr3 hkp3 hgrow3 hkeep3 hy0 hy1
          obtain ⟨st3, b3⟩ := rr
          cases b3
          · have HFIN : Hid (runL step st (leaves (ys :: rest) s ps) = (st3, false)) := Lib.hid (by
              obtain ⟨r, hr⟩ := HPRE.out (i + 1)
              rw [hr, runL_stop (by rw [HRR.out])]; exact HRR.out)
            go_wp2_with fail
            go_ret
            exact ⟨by rw [HFIN.out]; rfl, by rw [HFIN.out]; exact HI4.out, HO4.out, (Fr.of_below HB1.out _).trans HF4.out⟩
          · go_wp2_with fail
            go_roundw
            case rel => exact ⟨i + 1, st3, by omega, by go_num, HRR, HI4, HO4, HF4⟩
            case measure => simp [intOf]; omega
      · have hi2 : i = pl.length := by omega
        have HFIN : Hid (runL step st (leaves (ys :: rest) s ps) = (st2, true)) := Lib.hid (by rw [← HALL.out, ← hi2]; exact HRUN.out)
        go_wp2_with fail
        go_ret
        exact ⟨by rw [HFIN.out]; rfl, by rw [HFIN.out]; exact HIr.out, HOr.out, (Fr.of_below HB1.out _).trans HFr.out⟩
end Go.Proofs.Ytenedmkjbmbapaa
