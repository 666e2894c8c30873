/- The law of FirstRebuilding, walked out of the contracts. -/
import Derived.Test.YtenedmkjbmbapaaFirstP
namespace Go.Proofs.Ytenedmkjbmbapaa
open Go.RowKit
theorem OwnB.carry {w w' : World} {base top : Nat} {a : Option Addr} {cs : List BlkT} (h : OwnB w base top a cs) (hb : Below w.heap.size w w') : OwnB w' base top a cs :=
  ⟨h.outer.below hb, h.far, fun i hi => by obtain ⟨xs, hx⟩ := h.inner i hi; exact ⟨xs, own_below hx hb⟩, h.below, h.apart⟩
theorem own_type_ne {w : World} {b1 b2 s1 s2 n1 n2 : Nat} {e1 e2 : TypeId} {v u : Value} {xs ys : List Value} (h : w.ownsRow b1 e1 s1 v n1 xs) (k : w.ownsRow b2 e2 s2 u n2 ys) (hne : e1 ≠ e2) : ∀ q, u.ownBlock = some q → v.ownBlock ≠ some q := by
  intro q hq hv
  rcases h.2 with ⟨rfl, _⟩ | ⟨g, c, cur, rfl, _, hh, _⟩
  · simp [Value.ownBlock] at hv
  · rcases k.2 with ⟨rfl, _⟩ | ⟨g', c', cur', rfl, _, hh', _⟩
    · simp [Value.ownBlock] at hq
    · simp [Value.ownBlock] at hv hq
      subst hv; subst hq
      rw [hh] at hh'
      injection hh' with hh'
      injection hh' with _ ht
      exact hne ht
theorem FirstOut.look {B : Nat} {w w' : World} {r : Leaf × Bool} {e : Ending} (h : FirstOut B w r e w') : ∃ pa pc sa sc, e = .returned (.tuple #[.slice pa r.1.1.length pc, .slice sa r.1.2.length sc, .bool r.2]) ∧
    Hid (w'.ownsRow B 54 2 (.slice pa r.1.1.length pc) r.1.1.length (pairs r.1.1)) ∧ Hid (w'.ownsRow B 9 1 (.slice sa r.1.2.length sc) r.1.2.length (strs r.1.2)) ∧ Below w.heap.size w w' := h
set_option maxRecDepth 100000 in
set_option maxHeartbeats 8000000 in
theorem FnExactFirstRebuilding_walk {w : World} (r : Int) (c : Int) (x : Slc × List BlkT) (_ : (Lit.int .i64 r).wf = true) (_ : (Lit.int .i64 c).wf = true) (hx : BlocksIn w x.1 x.2) :
    Calls Try.prog 4 #[.int .i64 r, .int .i64 c, x.1.val] w fun e w' => e = .returned (.bool true) ∧ Below w.heap.size w w' := by
  obtain ⟨⟨ad, len, cap⟩, bs⟩ := x
  obtain ⟨hs, hm, hat, hf⟩ := hx
  simp only at hs hm hat hf
  subst hs
  have HAT := Lib.hid hat
  have HF := Lib.hid hf
  have HS := Lib.hid (szBlockS_any ad cap bs 1048576 w hm hf hat (Nat.le_refl _))
  clear hat hf
  by_cases hbig : 1048576 < totB bs
  · have HBIG := Lib.hid hbig
    clear hbig
    go_enter Try.func4, Try.ntmps4
    go_wp2_with fail
    refine HS.out.mono ?_
    rintro e w1 ⟨⟨z, rfl, hz⟩, hb⟩
    have hz2 : z < 0 := by have := HBIG.out; omega
    have HB := Lib.hid hb
    clear hz hb
    go_wp2_with fail
    go_ret
    exact ⟨rfl, HB.out⟩
  have hlen : bs.length ≤ 1048576 := by unfold totB at hbig; omega
  have hz : ∀ b ∈ bs, b.zs.length ≤ 1048576 := fun b hb => by have := totB_mem hb; omega
  have HZ2 := Lib.hid (fun b (hb : b ∈ bs) => (show b.zs.length ≤ 2097152 by have := hz b hb; omega))
  have HTO := Lib.hid (fun (w' : World) (h : Below w.heap.size w w') => toBlockS_own ad cap bs w' (by omega) HZ2.out (HAT.out.below h))
  have hfz : ∀ cs : List BlkT, zssB cs = zssB bs → Fits cs := fun cs e b hb => by
    have h1 : b.zs ∈ zssB bs := by rw [← e]; exact List.mem_map_of_mem hb
    obtain ⟨b', hb', e2⟩ := List.mem_map.1 h1
    rw [← e2]; exact HF.out b' hb'
  have hlz : ∀ cs : List BlkT, zssB cs = zssB bs → cs.length = bs.length := fun cs e => by
    have := congrArg List.length e; rwa [zssB_length, zssB_length] at this
  have htz : ∀ cs : List BlkT, zssB cs = zssB bs → totB cs ≤ 1048576 := fun cs e => by
    have h1 := bTo_zss e bs.length
    unfold totB at hbig ⊢
    rw [hlz cs e, h1]; omega
  have HSP := Lib.hid (fun (g : Nat) (cs : List BlkT) (w' : World) (e : zssB cs = zssB bs) (h : BlksAt w' (some ⟨g, 0, none⟩) cs) => (show Calls Try.prog 13 #[.int .i64 r, .int .i64 c, .slice (some ⟨g, 0, none⟩) bs.length bs.length] w' (FirstOut w'.heap.size w' (firstR r c (zssB bs))) by
    have := specFirst_any r c (some ⟨g, 0, none⟩) bs.length cs w' (by rw [hlz cs e]; exact hm) (hfz cs e) h
    rw [hlz cs e, e] at this; exact this))
  have HIM := Lib.hid (fun (g : Nat) (cs : List BlkT) (w' : World) (e : zssB cs = zssB bs) (h : BlksAt w' (some ⟨g, 0, none⟩) cs) => (show Calls Try.prog 14 #[.int .i64 r, .int .i64 c, .slice (some ⟨g, 0, none⟩) bs.length bs.length] w' (FirstOut w'.heap.size w' (firstR r c (zssB bs))) by
    have := implFirst_any r c (some ⟨g, 0, none⟩) bs.length cs w' (by rw [hlz cs e]; exact hm) (by rw [hlz cs e]; exact Nat.le_refl _) (hfz cs e) h
    rw [hlz cs e, e] at this; exact this))
  have HEQ := Lib.hid (fun (g g2 : Nat) (cs ds : List BlkT) (w' : World) (e : zssB cs = zssB bs) (e2 : zssB ds = zssB bs) (h : BlksAt w' (some ⟨g, 0, none⟩) cs) (h2 : BlksAt w' (some ⟨g2, 0, none⟩) ds) => (show Calls Try.prog 12 #[.slice (some ⟨g, 0, none⟩) bs.length bs.length, .slice (some ⟨g2, 0, none⟩) bs.length bs.length] w' fun e w'' => e = .returned (.bool true) ∧ Below w'.heap.size w' w'' by
    have := eqBlockS_same (some ⟨g, 0, none⟩) (some ⟨g2, 0, none⟩) bs.length bs.length cs ds w' (e.trans e2.symm) (by rw [hlz cs e]; exact hm) (fun x hx => (hfz cs e x hx).1) h h2
    rw [hlz cs e] at this; exact this))
  have HMK := Lib.hid (fun (g base top : Nat) (cs : List BlkT) (w' : World) (e : zssB cs = zssB bs) (h : OwnB w' base top (some ⟨g, 0, none⟩) cs) => (show Calls Try.prog 17 #[.slice (some ⟨g, 0, none⟩) bs.length bs.length, .int .i64 1] w' fun e w'' => ∃ m : Nat, e = .returned (.int .i64 (m : Int)) ∧ Fr (fun k => base ≤ k ∧ k < top) w' w'' by
    have := markBlockS_any (some ⟨g, 0, none⟩) bs.length base top cs w' h (htz cs e)
    rw [hlz cs e] at this; exact this))
  obtain ⟨hl4, hl5⟩ := firstR_len r c bs
  obtain ⟨⟨⟨ps, s⟩, ok⟩, hres⟩ : ∃ res, res = firstR r c (zssB bs) := ⟨_, rfl⟩
  rw [← hres] at HSP HIM hl4 hl5
  simp only at hl4 hl5
  clear hz hfz hlz htz hbig HZ2 HF hres
  have HEP := Lib.hid (fun (a b : Option Addr) (ca cb : Nat) (w' : World) hx hy => eqIntA2S_same a b ca cb ps w' (by unfold maxLen; omega) hx hy)
  have HES := Lib.hid (fun (a b : Option Addr) (ca cb : Nat) (w' : World) hx hy => (show Calls Try.prog 16 #[.slice a s.length ca, .slice b s.length cb] w' fun e w'' => e = .returned (.bool true) ∧ Dr w' w'' by
    have := eqStringS_any a b ca cb s s w' (by unfold maxLen; omega) (by unfold maxLen; omega) hx hy
    simpa using this))
  go_enter Try.func4, Try.ntmps4
  go_wp2_with fail
  refine HS.out.mono ?_
  rintro e w1 ⟨⟨z, rfl, hz⟩, hb⟩
  have HB1 := Lib.hid hb
  clear hb
  rcases (show z < 0 ∨ 0 ≤ z by omega) with hz2 | hz2
  · clear hz
    go_wp2_with fail
    go_ret
    exact ⟨rfl, HB1.out⟩
  have hz3 : ¬ z < 0 := by omega
  clear hz
  go_wp2_with fail
  refine (HTO.out _ HB1.out).mono ?_
  rintro e w2 ⟨g, cs, rfl, hzz, hbl, _, hb⟩
  have HB2 := Lib.hid (HB1.out.trans (hb.mono HB1.out.size))
  have HSC := Lib.hid (HSP.out g cs w2 hzz hbl)
  clear hzz hbl hb
  go_wp2_with fail
  refine HSC.out.mono ?_
  intro e w3 hfo
  obtain ⟨pa, pc, sa, sc, rfl, RP3, RS3, hb⟩ := hfo.look
  simp only at RP3 RS3
  have HB3 := Lib.hid (HB2.out.trans (hb.mono HB2.out.size))
  clear hb hfo
  go_wp2_with fail
  refine (HTO.out _ HB3.out).mono ?_
  rintro e w4 ⟨g2, ds, rfl, hzz, hbl, hob, hb⟩
  have HB4 := Lib.hid (HB3.out.trans (hb.mono HB3.out.size))
  have HS34 := Lib.hid hb.size
  have RP4 := Lib.hid (own_below RP3.out hb)
  have RS4 := Lib.hid (own_below RS3.out hb)
  have HIC := Lib.hid (HIM.out g2 ds w4 hzz hbl)
  have HDZ := Lib.hid hzz
  have HDB := Lib.hid hbl
  have HOB := Lib.hid hob
  clear hzz hbl hb hob
  go_wp2_with fail
  refine HIC.out.mono ?_
  intro e w5 hfo
  obtain ⟨qa, qc, ta, tc, rfl, GP5, GS5, hb⟩ := hfo.look
  simp only at GP5 GS5
  have DB4 := HDB
  have OB4 := HOB
  have HB5 := Lib.hid (HB4.out.trans (hb.mono HB4.out.size))
  have RP5 := Lib.hid (own_below RP4.out hb)
  have RS5 := Lib.hid (own_below RS4.out hb)
  have DB5 := Lib.hid (DB4.out.below hb)
  have OB5 := Lib.hid (OB4.out.carry hb)
  clear RP4 RS4 DB4 OB4
  clear hb hfo HDB HOB
  go_wp2_with fail
  refine (HEP.out _ _ _ _ _ (own_reads GP5.out) (own_reads RP5.out)).mono ?_
  rintro e w6 ⟨rfl, hb⟩
  have HB6 := Lib.hid (HB5.out.trans (hb.mono HB5.out.size))
  have RP6 := Lib.hid (own_below RP5.out hb)
  have RS6 := Lib.hid (own_below RS5.out hb)
  have GP6 := Lib.hid (own_below GP5.out hb)
  have GS6 := Lib.hid (own_below GS5.out hb)
  have DB6 := Lib.hid (DB5.out.below hb)
  have OB6 := Lib.hid (OB5.out.carry hb)
  clear RP5 RS5 GP5 GS5 DB5 OB5
  clear hb
  go_wp2_with fail
  refine (HES.out _ _ _ _ _ (own_reads GS6.out) (own_reads RS6.out)).mono ?_
  rintro e w7 ⟨rfl, hd⟩
  have hb := hd.below w6.heap.size
  have HB7 := Lib.hid (HB6.out.trans (hb.mono HB6.out.size))
  have RP7 := Lib.hid (own_below RP6.out hb)
  have RS7 := Lib.hid (own_below RS6.out hb)
  have GP7 := Lib.hid (own_below GP6.out hb)
  have GS7 := Lib.hid (own_below GS6.out hb)
  have DB7 := Lib.hid (DB6.out.below hb)
  have OB7 := Lib.hid (OB6.out.carry hb)
  clear RP6 RS6 GP6 GS6 DB6 OB6
  clear hb hd
  cases ok
  all_goals
    go_wp2_with fail
    refine (HTO.out _ HB7.out).mono ?_
    rintro e w8 ⟨g3, es, rfl, hzz, hbl, _, hb⟩
    have HB8 := Lib.hid (HB7.out.trans (hb.mono HB7.out.size))
    have RP8 := Lib.hid (own_below RP7.out hb)
    have RS8 := Lib.hid (own_below RS7.out hb)
    have GP8 := Lib.hid (own_below GP7.out hb)
    have GS8 := Lib.hid (own_below GS7.out hb)
    have DB8 := Lib.hid (DB7.out.below hb)
    have OB8 := Lib.hid (OB7.out.carry hb)
    clear RP7 RS7 GP7 GS7 DB7 OB7
    clear hb
    have HEC := Lib.hid (HEQ.out g2 g3 ds es w8 HDZ.out hzz DB8.out hbl)
    clear hzz hbl
    go_wp2_with fail
    refine (HEC.out).mono ?_
    rintro e w9 ⟨rfl, hb⟩
    have HB9 := Lib.hid (HB8.out.trans (hb.mono HB8.out.size))
    have RP9 := Lib.hid (own_below RP8.out hb)
    have RS9 := Lib.hid (own_below RS8.out hb)
    have GP9 := Lib.hid (own_below GP8.out hb)
    have GS9 := Lib.hid (own_below GS8.out hb)
    have DB9 := Lib.hid (DB8.out.below hb)
    have OB9 := Lib.hid (OB8.out.carry hb)
    clear RP8 RS8 GP8 GS8 DB8 OB8
    clear hb
    go_wp2_with fail
    refine (HMK.out g2 _ _ ds w9 HDZ.out OB9.out).mono ?_
    rintro e w10 ⟨m, rfl, hf⟩
    have hm0 : ¬ (m : Int) < 0 := by omega
    have HB10 := Lib.hid (Fr.low HB9.out hf (fun k hk => Nat.le_trans HB3.out.size hk.1))
    have RP10 := Lib.hid (hf.own RP9.out (fun q hq hc => by have := (RP3.out.lt q hq).2; omega))
    have RS10 := Lib.hid (hf.own RS9.out (fun q hq hc => by have := (RS3.out.lt q hq).2; omega))
    have GP10 := Lib.hid (hf.own GP9.out (fun q hq hc => by have := (GP9.out.lt q hq).1; omega))
    have GS10 := Lib.hid (hf.own GS9.out (fun q hq hc => by have := (GS9.out.lt q hq).1; omega))
    clear hf RP9 RS9 GP9 GS9 DB9 OB9
    go_wp2_with fail
    refine (HEP.out _ _ _ _ _ (own_reads GP10.out) (own_reads RP10.out)).mono ?_
    rintro e w11 ⟨rfl, hb⟩
    have HB11 := Lib.hid (HB10.out.trans (hb.mono HB10.out.size))
    have RP11 := Lib.hid (own_below RP10.out hb)
    have RS11 := Lib.hid (own_below RS10.out hb)
    have GP11 := Lib.hid (own_below GP10.out hb)
    have GS11 := Lib.hid (own_below GS10.out hb)
    clear RP10 RS10 GP10 GS10
    clear hb
    go_wp2_with fail
    refine (HES.out _ _ _ _ _ (own_reads GS11.out) (own_reads RS11.out)).mono ?_
    rintro e w12 ⟨rfl, hd⟩
    have hb := hd.below w11.heap.size
    have HB12 := Lib.hid (HB11.out.trans (hb.mono HB11.out.size))
    have RP12 := Lib.hid (own_below RP11.out hb)
    have RS12 := Lib.hid (own_below RS11.out hb)
    have GP12 := Lib.hid (own_below GP11.out hb)
    have GS12 := Lib.hid (own_below GS11.out hb)
    clear RP11 RS11 GP11 GS11
    clear hb hd
    go_wp2_with fail
    refine (markIntA2S_any qa ps.length qc _ (pairs ps) 1 w12 (by omega) (by omega) (by omega) GP12.out).mono ?_
    rintro e w13 ⟨rfl, hown, hg⟩
    have HB13 := Lib.hid (HB12.out.grown hg HB12.out.size (fun q hq => Nat.le_trans HB4.out.size (GP12.out.lt q hq).1))
    have RP13 := Lib.hid (own_kept RP12.out hg (fun q hq e => by have := (RP3.out.lt q hq).2; have := (GP12.out.lt q e).1; have := HS34.out; omega))
    have RS13 := Lib.hid (own_kept RS12.out hg (fun q hq e => by have := (RS3.out.lt q hq).2; have := (GP12.out.lt q e).1; have := HS34.out; omega))
    have GS13 := Lib.hid (own_kept GS12.out hg (fun q hq e => own_type_ne GP12.out GS12.out (by decide) q hq e))
    have GP13 := Lib.hid hown
    clear hown hg RP12 RS12 GP12 GS12
    go_wp2_with fail
    refine (markStringS_any ta s.length tc _ (strs s) _ (1 + ps.length * 2) w13 (by omega) (by omega) (by omega) (by omega) GS13.out).mono ?_
    rintro e w14 ⟨rfl, hown, hg⟩
    have HB14 := Lib.hid (HB13.out.grown hg HB13.out.size (fun q hq => Nat.le_trans HB4.out.size (GS13.out.lt q hq).1))
    have RP14 := Lib.hid (own_kept RP13.out hg (fun q hq e => by have := (RP3.out.lt q hq).2; have := (GS13.out.lt q e).1; have := HS34.out; omega))
    have RS14 := Lib.hid (own_kept RS13.out hg (fun q hq e => by have := (RS3.out.lt q hq).2; have := (GS13.out.lt q e).1; have := HS34.out; omega))
    have GP14 := Lib.hid (own_kept GP13.out hg (fun q hq e => own_type_ne GS13.out GP13.out (by decide) q hq e))
    have GS14 := Lib.hid hown
    clear hown hg RP13 RS13 GP13 GS13
    have hn1 : ¬ (1 + (ps.length : Int) * 2 < 0) := by omega
    have hn2 : ¬ (1 + (ps.length : Int) * 2 + (s.length : Int) < 0) := by omega
    go_wp2_with fail
    refine (heldIntA2S_any qa ps.length qc 1 w14 (by omega) (by omega) (by omega) (own_reads GP14.out)).mono ?_
    rintro e _ ⟨rfl, rfl⟩
    go_wp2_with fail
    refine (heldStringS_any ta s.length tc _ (1 + ps.length * 2) w14 (by omega) (by omega) (by omega) (by omega) (own_reads GS14.out)).mono ?_
    rintro e w15 ⟨rfl, hb⟩
    have HB15 := Lib.hid (HB14.out.trans (hb.mono HB14.out.size))
    have RP15 := Lib.hid (own_below RP14.out hb)
    have RS15 := Lib.hid (own_below RS14.out hb)
    have GP15 := Lib.hid (own_below GP14.out hb)
    have GS15 := Lib.hid (own_below GS14.out hb)
    clear RP14 RS14 GP14 GS14
    clear hb
    go_wp2_with fail
    refine (HTO.out _ HB15.out).mono ?_
    rintro e w16 ⟨g4, fs, rfl, hzz, hbl, _, hb⟩
    have HB16 := Lib.hid (HB15.out.trans (hb.mono HB15.out.size))
    have RP16 := Lib.hid (own_below RP15.out hb)
    have RS16 := Lib.hid (own_below RS15.out hb)
    have GP16 := Lib.hid (own_below GP15.out hb)
    have GS16 := Lib.hid (own_below GS15.out hb)
    clear RP15 RS15 GP15 GS15
    clear hb
    have HIC2 := Lib.hid (HIM.out g4 fs w16 hzz hbl)
    clear hzz hbl
    go_wp2_with fail
    refine HIC2.out.mono ?_
    intro e w17 hfo
    obtain ⟨ua, uc, va, vc, rfl, KP, KS, hb⟩ := hfo.look
    simp only at KP KS
    have HB17 := Lib.hid (HB16.out.trans (hb.mono HB16.out.size))
    have RP17 := Lib.hid (own_below RP16.out hb)
    have RS17 := Lib.hid (own_below RS16.out hb)
    have GP17 := Lib.hid (own_below GP16.out hb)
    have GS17 := Lib.hid (own_below GS16.out hb)
    clear RP16 RS16 GP16 GS16
    clear hb hfo
    have KP17 := KP
    have KS17 := KS
    clear KP KS
    go_wp2_with fail
    refine (HEP.out _ _ _ _ _ (own_reads KP17.out) (own_reads RP17.out)).mono ?_
    rintro e w18 ⟨rfl, hb⟩
    have HB18 := Lib.hid (HB17.out.trans (hb.mono HB17.out.size))
    have KS18 := Lib.hid (own_below KS17.out hb)
    have RP18 := Lib.hid (own_below RP17.out hb)
    have RS18 := Lib.hid (own_below RS17.out hb)
    have GP18 := Lib.hid (own_below GP17.out hb)
    have GS18 := Lib.hid (own_below GS17.out hb)
    clear RP17 RS17 GP17 GS17
    clear hb
    go_wp2_with fail
    refine (HES.out _ _ _ _ _ (own_reads KS18.out) (own_reads RS18.out)).mono ?_
    rintro e w19 ⟨rfl, hd⟩
    have hb := hd.below w18.heap.size
    have HB19 := Lib.hid (HB18.out.trans (hb.mono HB18.out.size))
    have RP19 := Lib.hid (own_below RP18.out hb)
    have RS19 := Lib.hid (own_below RS18.out hb)
    have GP19 := Lib.hid (own_below GP18.out hb)
    have GS19 := Lib.hid (own_below GS18.out hb)
    clear RP18 RS18 GP18 GS18
    clear hb hd
    go_wp2_with fail
    refine (heldIntA2S_any qa ps.length qc 1 w19 (by omega) (by omega) (by omega) (own_reads GP19.out)).mono ?_
    rintro e _ ⟨rfl, rfl⟩
    go_wp2_with fail
    refine (heldStringS_any ta s.length tc _ (1 + ps.length * 2) w19 (by omega) (by omega) (by omega) (by omega) (own_reads GS19.out)).mono ?_
    rintro e w20 ⟨rfl, hb⟩
    have HB20 := Lib.hid (HB19.out.trans (hb.mono HB19.out.size))
    have RP20 := Lib.hid (own_below RP19.out hb)
    have RS20 := Lib.hid (own_below RS19.out hb)
    have GP20 := Lib.hid (own_below GP19.out hb)
    have GS20 := Lib.hid (own_below GS19.out hb)
    clear RP19 RS19 GP19 GS19
    clear hb
    go_wp2_with fail
    go_ret
    exact ⟨rfl, HB20.out⟩
end Go.Proofs.Ytenedmkjbmbapaa
