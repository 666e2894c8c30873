/- The law of FullestRebuilding, walked out of the contracts. -/
import Derived.Test.YtenedmkjbmbapaaFullM
namespace Go.Proofs.Ytenedmkjbmbapaa
open Go.RowKit
theorem OwnB.carry {w w' : World} {base top : Nat} {a : Option Addr} {cs : List BlkT} (h : OwnB w base top a cs) (hb : Below w.heap.size w w') : OwnB w' base top a cs :=
  ⟨h.outer.below hb, h.far, fun i hi => by obtain ⟨xs, hx⟩ := h.inner i hi; exact ⟨xs, own_below hx hb⟩, h.below, h.apart⟩
theorem FullROut.look {w w' : World} {r : (List ByteArray × Nat) × Bool} {e : Ending} (h : FullROut w r e w') : ∃ ra rc, e = .returned (.tuple #[.slice ra r.1.1.length rc, .int .i64 (r.1.2 : Int), .bool r.2]) ∧
    Hid (w'.ownsRow w.heap.size 9 1 (.slice ra r.1.1.length rc) r.1.1.length (strs r.1.1)) ∧ Below w.heap.size w w' := h
set_option maxRecDepth 100000 in
set_option maxHeartbeats 8000000 in
theorem FnExactFullestRebuilding_walk {w : World} (r : Int) (c : Int) (x : Slc × List BlkT) (_ : (Lit.int .i64 r).wf = true) (_ : (Lit.int .i64 c).wf = true) (hx : BlocksIn w x.1 x.2) :
    Calls Try.prog 5 #[.int .i64 r, .int .i64 c, x.1.val] w fun e w' => e = .returned (.bool true) ∧ Below w.heap.size w w' := by
  obtain ⟨⟨ad, len, cap⟩, bs⟩ := x
  obtain ⟨hs, hm, hat, hf⟩ := hx
  simp only at hs hm hat hf
  subst hs
  have HAT := Lib.hid hat
  have HF := Lib.hid hf
  have HS := Lib.hid (szBlockS_any ad cap bs 1048576 w hm hf hat (Nat.le_refl _))
  clear hat hf
  by_cases hbig : 1048576 < totB bs
  · have HBIG := Lib.hid hbig
    clear hbig
    go_enter Try.func5, Try.ntmps5
    go_wp2_with fail
    refine HS.out.mono ?_
    rintro e w1 ⟨⟨z, rfl, hz⟩, hb⟩
    have hz2 : z < 0 := by have := HBIG.out; omega
    have HB := Lib.hid hb
    clear hz hb
    go_wp2_with fail
    go_ret
    exact ⟨rfl, HB.out⟩
  have hlen : bs.length ≤ 1048576 := by unfold totB at hbig; omega
  have hz : ∀ b ∈ bs, b.zs.length ≤ 1048576 := fun b hb => by have := totB_mem hb; omega
  have HZ2 := Lib.hid (fun b (hb : b ∈ bs) => (show b.zs.length ≤ 2097152 by have := hz b hb; omega))
  have HTO := Lib.hid (fun (w' : World) (h : Below w.heap.size w w') => toBlockS_own ad cap bs w' (by omega) HZ2.out (HAT.out.below h))
  have hfz : ∀ cs : List BlkT, zssB cs = zssB bs → Fits cs := fun cs e b hb => by
    have h1 : b.zs ∈ zssB bs := by rw [← e]; exact List.mem_map_of_mem hb
    obtain ⟨b', hb', e2⟩ := List.mem_map.1 h1
    rw [← e2]; exact HF.out b' hb'
  have hlz : ∀ cs : List BlkT, zssB cs = zssB bs → cs.length = bs.length := fun cs e => by
    have := congrArg List.length e; rwa [zssB_length, zssB_length] at this
  have htz : ∀ cs : List BlkT, zssB cs = zssB bs → totB cs ≤ 1048576 := fun cs e => by
    have h1 := bTo_zss e bs.length
    unfold totB at hbig ⊢
    rw [hlz cs e, h1]; omega
  have HSP := Lib.hid (fun (g : Nat) (cs : List BlkT) (w' : World) (e : zssB cs = zssB bs) (h : BlksAt w' (some ⟨g, 0, none⟩) cs) => (show Calls Try.prog 22 #[.int .i64 r, .int .i64 c, .slice (some ⟨g, 0, none⟩) bs.length bs.length] w' (FullROut w' (fullR r c (zssB bs))) by
    have := specFull_any r c (some ⟨g, 0, none⟩) bs.length cs w' (by rw [hlz cs e]; exact hm) (hfz cs e) h
    rw [hlz cs e, e] at this; exact this))
  have HIM := Lib.hid (fun (g : Nat) (cs : List BlkT) (w' : World) (e : zssB cs = zssB bs) (h : BlksAt w' (some ⟨g, 0, none⟩) cs) => (show Calls Try.prog 23 #[.int .i64 r, .int .i64 c, .slice (some ⟨g, 0, none⟩) bs.length bs.length] w' (FullROut w' (fullR r c (zssB bs))) by
    have := implFull_any r c (some ⟨g, 0, none⟩) bs.length cs w' (by rw [hlz cs e]; exact hm) (by rw [hlz cs e]; exact Nat.le_refl _) (hfz cs e) h
    rw [hlz cs e, e] at this; exact this))
  have HEQ := Lib.hid (fun (g g2 : Nat) (cs ds : List BlkT) (w' : World) (e : zssB cs = zssB bs) (e2 : zssB ds = zssB bs) (h : BlksAt w' (some ⟨g, 0, none⟩) cs) (h2 : BlksAt w' (some ⟨g2, 0, none⟩) ds) => (show Calls Try.prog 12 #[.slice (some ⟨g, 0, none⟩) bs.length bs.length, .slice (some ⟨g2, 0, none⟩) bs.length bs.length] w' fun e w'' => e = .returned (.bool true) ∧ Below w'.heap.size w' w'' by
    have := eqBlockS_same (some ⟨g, 0, none⟩) (some ⟨g2, 0, none⟩) bs.length bs.length cs ds w' (e.trans e2.symm) (by rw [hlz cs e]; exact hm) (fun x hx => (hfz cs e x hx).1) h h2
    rw [hlz cs e] at this; exact this))
  have HMK := Lib.hid (fun (g base top : Nat) (cs : List BlkT) (w' : World) (e : zssB cs = zssB bs) (h : OwnB w' base top (some ⟨g, 0, none⟩) cs) => (show Calls Try.prog 17 #[.slice (some ⟨g, 0, none⟩) bs.length bs.length, .int .i64 1] w' fun e w'' => ∃ m : Nat, e = .returned (.int .i64 (m : Int)) ∧ Fr (fun k => base ≤ k ∧ k < top) w' w'' by
    have := markBlockS_any (some ⟨g, 0, none⟩) bs.length base top cs w' h (htz cs e)
    rw [hlz cs e] at this; exact this))
  obtain ⟨hl5, _⟩ := fullR_len r c bs
  obtain ⟨⟨⟨s, n⟩, ok⟩, hres⟩ : ∃ res, res = fullR r c (zssB bs) := ⟨_, rfl⟩
  rw [← hres] at HSP HIM hl5
  simp only at hl5
  clear hz hfz hlz htz hbig HZ2 HF hres
  have HES := Lib.hid (fun (a b : Option Addr) (ca cb : Nat) (w' : World) hx hy => (show Calls Try.prog 16 #[.slice a s.length ca, .slice b s.length cb] w' fun e w'' => e = .returned (.bool true) ∧ Dr w' w'' by
    have := eqStringS_any a b ca cb s s w' (by unfold maxLen; omega) (by unfold maxLen; omega) hx hy
    simpa using this))
  go_enter Try.func5, Try.ntmps5
  go_wp2_with fail
  refine HS.out.mono ?_
  rintro e w1 ⟨⟨z, rfl, hz⟩, hb⟩
  have HB1 := Lib.hid hb
  clear hb
  rcases (show z < 0 ∨ 0 ≤ z by omega) with hz2 | hz2
  · clear hz
    go_wp2_with fail
    go_ret
    exact ⟨rfl, HB1.out⟩
  have hz3 : ¬ z < 0 := by omega
  clear hz
  go_wp2_with fail
  refine (HTO.out _ HB1.out).mono ?_
  rintro e w2 ⟨g, cs, rfl, hzz, hbl, _, hb⟩
  have HB2 := Lib.hid (HB1.out.trans (hb.mono HB1.out.size))
  have HSC := Lib.hid (HSP.out g cs w2 hzz hbl)
  clear hzz hbl hb
  go_wp2_with fail
  refine HSC.out.mono ?_
  intro e w3 hfo
  obtain ⟨sa, sc, rfl, RS3, hb⟩ := hfo.look
  simp only at RS3
  have HB3 := Lib.hid (HB2.out.trans (hb.mono HB2.out.size))
  clear hb hfo
  go_wp2_with fail
  refine (HTO.out _ HB3.out).mono ?_
  rintro e w4 ⟨g2, ds, rfl, hzz, hbl, hob, hb⟩
  have HB4 := Lib.hid (HB3.out.trans (hb.mono HB3.out.size))
  have HS34 := Lib.hid hb.size
  have RS4 := Lib.hid (own_below RS3.out hb)
  have HIC := Lib.hid (HIM.out g2 ds w4 hzz hbl)
  have HDZ := Lib.hid hzz
  have HDB := Lib.hid hbl
  have HOB := Lib.hid hob
  clear hzz hbl hb hob
  go_wp2_with fail
  refine HIC.out.mono ?_
  intro e w5 hfo
  obtain ⟨ta, tc, rfl, GS5, hb⟩ := hfo.look
  simp only at GS5
  have DB4 := HDB
  have OB4 := HOB
  have HB5 := Lib.hid (HB4.out.trans (hb.mono HB4.out.size))
  have RS5 := Lib.hid (own_below RS4.out hb)
  have DB5 := Lib.hid (DB4.out.below hb)
  have OB5 := Lib.hid (OB4.out.carry hb)
  clear RS4 DB4 OB4
  clear hb hfo HDB HOB
  go_wp2_with fail
  refine (HES.out _ _ _ _ _ (own_reads GS5.out) (own_reads RS5.out)).mono ?_
  rintro e w6 ⟨rfl, hd⟩
  have hb := hd.below w5.heap.size
  have HB6 := Lib.hid (HB5.out.trans (hb.mono HB5.out.size))
  have RS6 := Lib.hid (own_below RS5.out hb)
  have GS6 := Lib.hid (own_below GS5.out hb)
  have DB6 := Lib.hid (DB5.out.below hb)
  have OB6 := Lib.hid (OB5.out.carry hb)
  clear RS5 GS5 DB5 OB5
  clear hb hd
  cases ok
  all_goals
    go_wp2_with fail
    refine (HTO.out _ HB6.out).mono ?_
    rintro e w7 ⟨g3, es, rfl, hzz, hbl, _, hb⟩
    have HB7 := Lib.hid (HB6.out.trans (hb.mono HB6.out.size))
    have RS7 := Lib.hid (own_below RS6.out hb)
    have GS7 := Lib.hid (own_below GS6.out hb)
    have DB7 := Lib.hid (DB6.out.below hb)
    have OB7 := Lib.hid (OB6.out.carry hb)
    clear RS6 GS6 DB6 OB6
    clear hb
    have HEC := Lib.hid (HEQ.out g2 g3 ds es w7 HDZ.out hzz DB7.out hbl)
    clear hzz hbl
    go_wp2_with fail
    refine (HEC.out).mono ?_
    rintro e w8 ⟨rfl, hb⟩
    have HB8 := Lib.hid (HB7.out.trans (hb.mono HB7.out.size))
    have RS8 := Lib.hid (own_below RS7.out hb)
    have GS8 := Lib.hid (own_below GS7.out hb)
    have DB8 := Lib.hid (DB7.out.below hb)
    have OB8 := Lib.hid (OB7.out.carry hb)
    clear RS7 GS7 DB7 OB7
    clear hb
    go_wp2_with fail
    refine (HMK.out g2 _ _ ds w8 HDZ.out OB8.out).mono ?_
    rintro e w9 ⟨m, rfl, hf⟩
    have hm0 : ¬ (m : Int) < 0 := by omega
    have HB9 := Lib.hid (Fr.low HB8.out hf (fun k hk => Nat.le_trans HB3.out.size hk.1))
    have RS9 := Lib.hid (hf.own RS8.out (fun q hq hc => by have := (RS3.out.lt q hq).2; omega))
    have GS9 := Lib.hid (hf.own GS8.out (fun q hq hc => by have := (GS8.out.lt q hq).1; omega))
    clear hf RS8 GS8 DB8 OB8
    go_wp2_with fail
    refine (HES.out _ _ _ _ _ (own_reads GS9.out) (own_reads RS9.out)).mono ?_
    rintro e w10 ⟨rfl, hd⟩
    have hb := hd.below w9.heap.size
    have HB10 := Lib.hid (HB9.out.trans (hb.mono HB9.out.size))
    have RS10 := Lib.hid (own_below RS9.out hb)
    have GS10 := Lib.hid (own_below GS9.out hb)
    clear RS9 GS9
    clear hb hd
    go_wp2_with fail
    refine (markStringS_any ta s.length tc _ (strs s) 1 1 w10 (by omega) (by omega) (by omega) (by omega) GS10.out).mono ?_
    rintro e w11 ⟨rfl, hown, hg⟩
    have HB11 := Lib.hid (HB10.out.grown hg HB10.out.size (fun q hq => Nat.le_trans HB4.out.size (GS10.out.lt q hq).1))
    have RS11 := Lib.hid (own_kept RS10.out hg (fun q hq e => by have := (RS3.out.lt q hq).2; have := (GS10.out.lt q e).1; have := HS34.out; omega))
    have GS11 := Lib.hid hown
    clear hown hg RS10 GS10
    have hn2 : ¬ (1 + (s.length : Int) < 0) := by omega
    go_wp2_with fail
    refine (heldStringS_any ta s.length tc 1 1 w11 (by omega) (by omega) (by omega) (by omega) (own_reads GS11.out)).mono ?_
    rintro e w12 ⟨rfl, hb⟩
    have HB12 := Lib.hid (HB11.out.trans (hb.mono HB11.out.size))
    have RS12 := Lib.hid (own_below RS11.out hb)
    have GS12 := Lib.hid (own_below GS11.out hb)
    clear RS11 GS11
    clear hb
    go_wp2_with fail
    refine (HTO.out _ HB12.out).mono ?_
    rintro e w13 ⟨g4, fs, rfl, hzz, hbl, _, hb⟩
    have HB13 := Lib.hid (HB12.out.trans (hb.mono HB12.out.size))
    have RS13 := Lib.hid (own_below RS12.out hb)
    have GS13 := Lib.hid (own_below GS12.out hb)
    clear RS12 GS12
    clear hb
    have HIC2 := Lib.hid (HIM.out g4 fs w13 hzz hbl)
    clear hzz hbl
    go_wp2_with fail
    refine HIC2.out.mono ?_
    intro e w14 hfo
    obtain ⟨va, vc, rfl, KS, hb⟩ := hfo.look
    simp only at KS
    have HB14 := Lib.hid (HB13.out.trans (hb.mono HB13.out.size))
    have RS14 := Lib.hid (own_below RS13.out hb)
    have GS14 := Lib.hid (own_below GS13.out hb)
    clear RS13 GS13
    clear hb hfo
    go_wp2_with fail
    refine (HES.out _ _ _ _ _ (own_reads KS.out) (own_reads RS14.out)).mono ?_
    rintro e w15 ⟨rfl, hd⟩
    have hb := hd.below w14.heap.size
    have HB15 := Lib.hid (HB14.out.trans (hb.mono HB14.out.size))
    have RS15 := Lib.hid (own_below RS14.out hb)
    have GS15 := Lib.hid (own_below GS14.out hb)
    clear RS14 GS14
    clear hb hd
    go_wp2_with fail
    refine (heldStringS_any ta s.length tc 1 1 w15 (by omega) (by omega) (by omega) (by omega) (own_reads GS15.out)).mono ?_
    rintro e w16 ⟨rfl, hb⟩
    have HB16 := Lib.hid (HB15.out.trans (hb.mono HB15.out.size))
    have RS16 := Lib.hid (own_below RS15.out hb)
    have GS16 := Lib.hid (own_below GS15.out hb)
    clear RS15 GS15
    clear hb
    go_wp2_with fail
    go_ret
    exact ⟨rfl, HB16.out⟩
end Go.Proofs.Ytenedmkjbmbapaa
