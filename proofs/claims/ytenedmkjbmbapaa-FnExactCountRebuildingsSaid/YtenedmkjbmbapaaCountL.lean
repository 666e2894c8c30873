/- The law of CountRebuildings, walked out of the contracts. -/
import Derived.Test.YtenedmkjbmbapaaBlkA
import Derived.Test.YtenedmkjbmbapaaCountM
namespace Go.Proofs.Ytenedmkjbmbapaa
open Go.RowKit
set_option maxRecDepth 100000 in
set_option maxHeartbeats 8000000 in
theorem FnExactCountRebuildings_walk {w : World} (r : Int) (c : Int) (x : Slc × List BlkT) (m : Int) (_ : (Lit.int .i64 r).wf = true) (_ : (Lit.int .i64 c).wf = true) (hx : BlocksIn w x.1 x.2) (_ : (Lit.int .i64 m).wf = true) :
    Calls Try.prog 3 #[.int .i64 r, .int .i64 c, x.1.val, .int .i64 m] w fun e w' => e = .returned (.bool true) ∧ Below w.heap.size w w' := by
  obtain ⟨⟨ad, len, cap⟩, bs⟩ := x
  obtain ⟨hs, hm, hat, hf⟩ := hx
  simp only at hs hm hat hf
  subst hs
  have HAT := Lib.hid hat
  have HF := Lib.hid hf
  have HS := Lib.hid (szBlockS_any ad cap bs 1048576 w hm hf hat (Nat.le_refl _))
  clear hat hf
  by_cases hbig : 1048576 < totB bs
  · have HBIG := Lib.hid hbig
    clear hbig
    go_enter Try.func3, Try.ntmps3
    go_wp2_with fail
    refine HS.out.mono ?_
    rintro e w1 ⟨⟨z, rfl, hz⟩, hb⟩
    have hz2 : z < 0 := by have := HBIG.out; omega
    have HB := Lib.hid hb
    clear hz hb
    go_wp2_with fail
    go_ret
    exact ⟨rfl, HB.out⟩
  have hlen : bs.length ≤ 1048576 := by unfold totB at hbig; omega
  have hz : ∀ b ∈ bs, b.zs.length ≤ 1048576 := fun b hb => by have := totB_mem hb; omega
  have HZ2 := Lib.hid (fun b (hb : b ∈ bs) => (show b.zs.length ≤ 2097152 by have := hz b hb; omega))
  have HTO := Lib.hid (fun (w' : World) (h : Below w.heap.size w w') => toBlockS_any ad cap bs w' (by omega) HZ2.out (HAT.out.below h))
  have hfz : ∀ cs : List BlkT, zssB cs = zssB bs → Fits cs := fun cs e b hb => by
    have h1 : b.zs ∈ zssB bs := by rw [← e]; exact List.mem_map_of_mem hb
    obtain ⟨b', hb', e2⟩ := List.mem_map.1 h1
    rw [← e2]; exact HF.out b' hb'
  have hlz : ∀ cs : List BlkT, zssB cs = zssB bs → cs.length = bs.length := fun cs e => by
    have := congrArg List.length e; rwa [zssB_length, zssB_length] at this
  have HSP := Lib.hid (fun (g : Nat) (cs : List BlkT) (w' : World) (e : zssB cs = zssB bs) (h : BlksAt w' (some ⟨g, 0, none⟩) cs) => (show Calls Try.prog 9 #[.int .i64 r, .int .i64 c, .slice (some ⟨g, 0, none⟩) bs.length bs.length, .int .i64 m] w' fun e w'' => e = .returned (.tuple #[.int .i64 (cntR r c (zssB bs) m), .bool (okC r c (zssB bs) m)]) ∧ Below w'.heap.size w' w'' by
    have := specCount_any r c (some ⟨g, 0, none⟩) bs.length cs m w' (by rw [hlz cs e]; exact hm) (hfz cs e) h
    rw [hlz cs e, e] at this; exact this))
  have HIM := Lib.hid (fun (g : Nat) (cs : List BlkT) (w' : World) (e : zssB cs = zssB bs) (h : BlksAt w' (some ⟨g, 0, none⟩) cs) => (show Calls Try.prog 11 #[.int .i64 r, .int .i64 c, .slice (some ⟨g, 0, none⟩) bs.length bs.length, .int .i64 m] w' fun e w'' => e = .returned (.tuple #[.int .i64 (cntR r c (zssB bs) m), .bool (okC r c (zssB bs) m)]) ∧ Below w'.heap.size w' w'' by
    have := implCount_any r c (some ⟨g, 0, none⟩) bs.length cs m w' (by rw [hlz cs e]; exact hm) (by rw [hlz cs e]; exact Nat.le_refl _) (hfz cs e) h
    rw [hlz cs e, e] at this; exact this))
  have HEQ := Lib.hid (fun (g g2 : Nat) (cs ds : List BlkT) (w' : World) (e : zssB cs = zssB bs) (e2 : zssB ds = zssB bs) (h : BlksAt w' (some ⟨g, 0, none⟩) cs) (h2 : BlksAt w' (some ⟨g2, 0, none⟩) ds) => (show Calls Try.prog 12 #[.slice (some ⟨g, 0, none⟩) bs.length bs.length, .slice (some ⟨g2, 0, none⟩) bs.length bs.length] w' fun e w'' => e = .returned (.bool true) ∧ Below w'.heap.size w' w'' by
    have := eqBlockS_same (some ⟨g, 0, none⟩) (some ⟨g2, 0, none⟩) bs.length bs.length cs ds w' (e.trans e2.symm) (by rw [hlz cs e]; exact hm) (fun x hx => (hfz cs e x hx).1) h h2
    rw [hlz cs e] at this; exact this))
  generalize cntR r c (zssB bs) m = n at HSP HIM
  generalize okC r c (zssB bs) m = ok at HSP HIM
  clear hz hfz hlz hbig HZ2 HF
  have hlen0 := hlen
  clear hlen0
  cases ok
  all_goals
    go_enter Try.func3, Try.ntmps3
    go_wp2_with fail
    refine HS.out.mono ?_
    rintro e w1 ⟨⟨z, rfl, hz⟩, hb⟩
    have HB1 := Lib.hid hb
    clear hb
    rcases (show z < 0 ∨ 0 ≤ z by omega) with hz2 | hz2
    · clear hz
      go_wp2_with fail
      go_ret
      exact ⟨rfl, HB1.out⟩
    have hz3 : ¬ z < 0 := by omega
    clear hz
    go_wp2_with fail
    refine (HTO.out _ HB1.out).mono ?_
    rintro e w2 ⟨g, cs, rfl, hzz, hbl, hb⟩
    have HB2 := Lib.hid (HB1.out.trans (hb.mono HB1.out.size))
    have HSC := Lib.hid (HSP.out g cs w2 hzz hbl)
    clear hzz hbl hb
    go_wp2_with fail
    refine HSC.out.mono ?_
    rintro e w3 ⟨rfl, hb⟩
    have HB3 := Lib.hid (HB2.out.trans (hb.mono HB2.out.size))
    clear hb
    go_wp2_with fail
    refine (HTO.out _ HB3.out).mono ?_
    rintro e w4 ⟨g2, ds, rfl, hzz, hbl, hb⟩
    have HB4 := Lib.hid (HB3.out.trans (hb.mono HB3.out.size))
    have HIC := Lib.hid (HIM.out g2 ds w4 hzz hbl)
    have HDZ := Lib.hid hzz
    have HDB := Lib.hid hbl
    clear hzz hbl hb
    go_wp2_with fail
    refine HIC.out.mono ?_
    rintro e w5 ⟨rfl, hb⟩
    have HB5 := Lib.hid (HB4.out.trans (hb.mono HB4.out.size))
    have HDB5 := Lib.hid (HDB.out.below hb)
    clear hb
    go_wp2_with fail
    refine (HTO.out _ HB5.out).mono ?_
    rintro e w6 ⟨g3, es, rfl, hzz, hbl, hb⟩
    have HB6 := Lib.hid (HB5.out.trans (hb.mono HB5.out.size))
    have HEC := Lib.hid (HEQ.out g2 g3 ds es w6 HDZ.out hzz (HDB5.out.below hb) hbl)
    clear hzz hbl hb
    go_wp2_with fail
    refine HEC.out.mono ?_
    rintro e w7 ⟨rfl, hb⟩
    have HB7 := Lib.hid (HB6.out.trans (hb.mono HB6.out.size))
    clear hb
    go_wp2_with fail
    go_ret
    exact ⟨rfl, HB7.out⟩
end Go.Proofs.Ytenedmkjbmbapaa
