/- The fullest rebuilding: the reference's side. -/
import Derived.Test.YtenedmkjbmbapaaCntS
import Derived.Test.YtenedmkjbmbapaaTextB
import Derived.Test.YtenedmkjbmbapaaAskM
import Derived.Test.YtenedmkjbmbapaaBlankS
import Derived.Deep.RegionHeld3
namespace Go.Proofs.Ytenedmkjbmbapaa
open Go.RowKit

/-- the sheet with the fewest points so far -/
def fullStep (st : List ByteArray × Nat) (l : Leaf) : List ByteArray × Nat := if ptsF l.2 < st.2 then (l.2, ptsF l.2) else st
def fullF (L : List Leaf) (st : List ByteArray × Nat) : List ByteArray × Nat := L.foldl fullStep st
theorem fullF_app (a b : List Leaf) (st : List ByteArray × Nat) : fullF (a ++ b) st = fullF b (fullF a st) := by simp [fullF]
theorem fullF_le (L : List Leaf) : ∀ st : List ByteArray × Nat, (fullF L st).2 ≤ st.2 := by
  induction L with
  | nil => intro st; exact Nat.le_refl _
  | cons l L ih =>
    intro st
    refine Nat.le_trans (ih (fullStep st l)) ?_
    unfold fullStep
    split <;> simp <;> omega
def FullOut (B : Nat) (w : World) (r : List ByteArray × Nat) (e : Ending) (w' : World) : Prop := ∃ ra rc, e = .returned (.tuple #[.slice ra r.1.length rc, .int .i64 (r.2 : Int)]) ∧
  w'.ownsRow B 9 1 (.slice ra r.1.length rc) r.1.length (strs r.1) ∧ Below w.heap.size w w'
theorem grid_small {zs : List ByteArray} (h : gridB zs 5 = true) : zs.length ≤ 1048576 ∧ ∀ z ∈ zs, z.size ≤ 1048576 := by
  obtain ⟨_, l2, _⟩ := gridB_bd h
  exact ⟨by omega, fun z hz => by have := gridB_mem h z hz; omega⟩
set_option maxRecDepth 100000 in
set_option maxHeartbeats 4000000 in
theorem l4Fullest_any (B : Nat) (ba : Option Addr) (bc : Nat) (bs : List BlkT) (hbl : bs.length ≤ 4) (hbg : ∀ b ∈ bs, gridB b.zs 3 = true) : ∀ (n j : Nat), bs.length - j = n → j ≤ bs.length → ∀ (sa : Option Addr) (sc : Nat) (s : List ByteArray) (ta : Option Addr) (tc : Nat) (bst : List ByteArray) (least : Nat) (ps : List (Int × Int)) (w : World),
    gridB s 5 = true → B ≤ w.heap.size → w.ownsRow B 9 1 (.slice sa s.length sc) s.length (strs s) → w.ownsRow B 9 1 (.slice ta bst.length tc) bst.length (strs bst) → least ≤ 99 → BlksAt w ba bs →
    Calls Try.prog 65 #[.slice sa s.length sc, .slice ba bs.length bc, .int .i64 (j : Int), .slice ta bst.length tc, .int .i64 (least : Int)] w (FullOut B w (fullF (leaves (zssB (bs.drop j)) s ps) (bst, least))) := by
  intro n
  induction n with
  | zero =>
    intro j hn hj sa sc s ta tc bst least ps w gs hB hs ht hl hb
    obtain rfl : j = bs.length := by omega
    have HR := Lib.hid (show fullF (leaves (zssB (bs.drop bs.length)) s ps) (bst, least) = fullStep (bst, least) (ps, s) by rw [List.drop_length]; rfl)
    rw [HR.out]
    have HP := Lib.hid (l4Points_any sa sc s w (grid_small gs).1 (grid_small gs).2 (own_reads hs))
    have HS := Lib.hid hs
    have HT := Lib.hid ht
    clear hs ht hb hbg gs
    by_cases hlt : ptsF s < least
    · have hd : decide (ptsF s < least) = true := by simpa using hlt
      have HF := Lib.hid (show fullStep (bst, least) (ps, s) = (s, ptsF s) by simp [fullStep, hlt])
      rw [HF.out]
      go_enter Try.func65, Try.ntmps65
      go_wp2_with (go_at_call 83; refine HP.out.mono ?_; rintro e w' ⟨rfl, rfl⟩)
      go_ret2
      exact ⟨_, _, rfl, HS.out, Below.refl _ _⟩
    · have hd : decide (ptsF s < least) = false := by simpa using hlt
      have HF := Lib.hid (show fullStep (bst, least) (ps, s) = (bst, least) by simp [fullStep, hlt])
      rw [HF.out]
      go_enter Try.func65, Try.ntmps65
      go_wp2_with (go_at_call 83; refine HP.out.mono ?_; rintro e w' ⟨rfl, rfl⟩)
      go_ret2
      exact ⟨_, _, rfl, HT.out, Below.refl _ _⟩
  | succ n ih =>
    intro j hn hj sa sc s ta tc bst least ps w gs hB hs ht hl hb
    have hjl : j < bs.length := by omega
    have HG := Lib.hid gs
    have gb := hbg _ (List.getElem_mem hjl)
    have HZ := Lib.hid (zssB_drop hjl)
    have HS := Lib.hid (own_reads hs)
    have HT := Lib.hid ht
    have HBB := Lib.hid hB
    have HB := Lib.hid hb
    have hin := hb.inner _ (List.getElem_mem hjl)
    have hne2 : ((j : Int) == (bs.length : Int)) = false := by simp; omega
    rcases hb.outer with h0 | ⟨b, off, rfl, hbk, hc⟩
    · have := blks_length bs; rw [h0] at this; simp at this; omega
    have hc0 := hc _ _ (blks_get hjl)
    obtain ⟨⟨ya, yc, ys⟩, hy⟩ : ∃ y, y = bs[j] := ⟨_, rfl⟩
    rw [← hy] at hc0 hin gb HZ
    simp only at hc0 hin gb HZ
    have HY := Lib.hid hin
    have HGB := Lib.hid gb
    have HC0 := Lib.hid hc0
    obtain ⟨rest, hrest⟩ : ∃ rest, rest = zssB (bs.drop (j + 1)) := ⟨_, rfl⟩
    rw [← hrest] at HZ
    have HIH := Lib.hid (fun sa sc s ta tc bst least ps w g1 g2 g3 g4 g5 g6 => ih (j + 1) (by omega) (by omega) sa sc s ta tc bst least ps w g1 g2 g3 g4 g5 g6)
    rw [← hrest] at HIH
    rw [HZ.out]
    have HALL := Lib.hid (leavesTo_all ys rest s ps)
    have HSUC := Lib.hid (fun k h => leavesTo_succ (b := ys) (bs := rest) (s := s) (ps := ps) (k := k) h)
    have hj0 : (0 : Int) ≤ (j : Int) := by omega
    have hj1 : (j : Int) < (bs.length : Int) := by omega
    have hnl : ¬ j = bs.length := by omega
    clear ih hs ht hb hin gb hc hy hrest gs hB
    go_enter Try.func65, Try.ntmps65
    go_wp2_with fail
    refine (l4Places_any _ _ _ _ s ys _ HG.out HGB.out HS.out HY.out).mono ?_
    rintro e w1 ⟨pa, pc, rfl, hown, hb1⟩
    have HPL := Lib.hid hown
    have HB1 := Lib.hid hb1
    have hpl := plF_len' (ys := ys) HG.out
    clear hown hb1
    go_wp2_with fail
    obtain ⟨pl, hpe⟩ : ∃ pl, pl = plF s ys := ⟨_, rfl⟩
    rw [← hpe] at HPL hpl HALL ⊢
    have HPE := Lib.hid hpe
    clear hpe
    go_loopw [3, 4, 14] (fun t q i wr => ∃ (i0 : Nat) (ua : Option Addr) (uc : Nat) (ust : List ByteArray) (ul : Nat), i0 ≤ pl.length ∧ i = .int .i64 i0 ∧ t = .slice ua ust.length uc ∧ q = .int .i64 (ul : Int) ∧ Hid (fullF (leavesTo ys rest s ps i0) (bst, least) = (ust, ul)) ∧ ul ≤ 99 ∧ Hid (wr.ownsRow B 9 1 (.slice ua ust.length uc) ust.length (strs ust)) ∧ Below w1.heap.size w1 wr) (fun _ _ i _ => pl.length - (intOf i).toNat)
    case atStart => exact ⟨0, ta, tc, bst, least, by omega, rfl, rfl, rfl, Lib.hid (by rw [leavesTo_zero]; rfl), hl, Lib.hid (own_below HT.out HB1.out), Below.refl _ _⟩
    case round =>
      obtain ⟨i, ua, uc, ust, ul, hi, rfl, rfl, rfl, hrun, hul, hown2, hbel⟩ := hrel
      by_cases hil : i < pl.length
      · have hpm : pl[i] ∈ plF s ys := by rw [← HPE.out]; exact List.getElem_mem hil
        have hpg := layR_grid HG.out HGB.out hpm
        have hlr := layR_len hpm
        have hsuc : leavesTo ys rest s ps (i + 1) = leavesTo ys rest s ps i ++ leaves rest (layR s ys pl[i].1 pl[i].2) (ps ++ [pl[i]]) := by
          have h := HSUC.out i (by rw [← HPE.out]; exact hil)
          simp only [← HPE.out] at h; exact h
        have HLY := Lib.hid (fun w hx hy => l4LayR_any sa ya sc yc s ys pl[i] w HG.out HGB.out hpm hx hy)
        obtain ⟨s2, hs2⟩ : ∃ s2, s2 = layR s ys pl[i].1 pl[i].2 := ⟨_, rfl⟩
        rw [← hs2] at hpg hlr hsuc HLY
        have hBwr : B ≤ wr.heap.size := Nat.le_trans HBB.out (Nat.le_trans HB1.out.size hbel.size)
        have HBwr := Lib.hid hBwr
        have HCN := Lib.hid (fun (sa : Option Addr) (sc : Nat) w hB hr ht hb => HIH.out sa sc s2 ua uc ust ul (ps ++ [pl[i]]) w hpg hB hr ht hul hb)
        obtain ⟨⟨nst, nl⟩, hnew⟩ : ∃ r, r = fullF (leaves rest s2 (ps ++ [pl[i]])) (ust, ul) := ⟨_, rfl⟩
        rw [← hnew, hlr] at HCN
        have HNEW : Hid (fullF (leavesTo ys rest s ps (i + 1)) (bst, least) = (nst, nl)) := Lib.hid (by rw [hsuc, fullF_app, hrun.out, hnew])
        have hnl2 : nl ≤ 99 := by
          have := fullF_le (leaves rest s2 (ps ++ [pl[i]])) (ust, ul)
          rw [← hnew] at this; simp only at this; omega
        have hplr := own_reads HPL.out
        rcases hplr with h0 | ⟨pb, po, rfl, hpb, hpc⟩
        · have := pairs_length pl; rw [h0] at this; simp at this; omega
        obtain ⟨g0, g1⟩ := pairs_get hil
        have d0 := (hbel.cell (p := ⟨pb, _, none⟩) hpb).trans (hpc _ _ g0)
        have d1 := (hbel.cell (p := ⟨pb, _, none⟩) hpb).trans (hpc _ _ g1)
        simp only [← Nat.add_assoc] at d1
        obtain ⟨p1, hp1⟩ : ∃ x, x = pl[i].1 := ⟨_, rfl⟩
        obtain ⟨p2, hp2⟩ : ∃ x, x = pl[i].2 := ⟨_, rfl⟩
        rw [← hp1] at d0 HLY
        rw [← hp2] at d1 HLY
        have hB2 := HB1.out.trans (hbel.mono HB1.out.size)
        have cB := (hB2.cell (p := ⟨b, off + j, none⟩) hbk).trans HC0.out
        have HSr := Lib.hid (HS.out.below hB2)
        have HYr := Lib.hid (HY.out.below hB2)
        have HBr := Lib.hid (HB.out.below hB2)
        have HTr := Lib.hid hown2.out
        have HBL := Lib.hid hbel
        have hw1 : IntKind.i64.wrap ((j : Int) + 1) = ((j + 1 : Nat) : Int) := by rw [small_in (by omega) (by omega)]; omega
        have i0 : (0 : Int) ≤ (i : Int) := by omega
        have i1 : (i : Int) < (pl.length : Int) := by omega
        clear hpm hpg hlr hsuc hs2 hnew g0 g1 hpc hp1 hp2 hB2 hbel hrun hown2 hBwr
        go_wp2_with fail
        go_region_held3 (fun w' => w'.cell? ⟨b, off + j, none⟩ = some (.slice ya ys.length yc) ∧ w'.cell? ⟨pb, po + i * 2, none⟩ = some (.int .i64 p1) ∧ w'.cell? ⟨pb, po + i * 2 + 1, none⟩ = some (.int .i64 p2))
          (first | exact ⟨cB, d0, d1⟩ | exact ⟨cell_later hb2 cB, cell_later hb2 d0, cell_later hb2 d1⟩ | exact ⟨cell_later hb3 (cell_later hb2 cB), cell_later hb3 (cell_later hb2 d0), cell_later hb3 (cell_later hb2 d1)⟩)
          (first
            | (go_at_call 79; refine (HLY.out _ (Reads.drew HSr.out) (Reads.drew HYr.out)).mono ?_; rintro e w2 ⟨ad2, cp2, rfl, ho2, hb2⟩)
            | (go_at_call 65; refine (HCN.out _ _ _ (Nat.le_trans HBwr.out hb2.size) (World.ownsRow.mono ho2 HBwr.out) (own_below HTr.out.drew hb2) ((HBr.out.below ((Below.refl _ _).drew)).below hb2)).mono ?_; rintro e w3 ⟨ua3, uc3, rfl, ho3, hb3⟩))
        have HBB3 := Lib.hid (HBL.out.trans ((((Below.refl wr.heap.size wr).drew.trans (hb2.mono (Nat.le_refl _))).trans (hb3.mono hb2.size)).mono HBL.out.size))
        have HO3 := Lib.hid ho3
        clear hb2 hb3 ho2 ho3 cB d0 d1
        go_wp2_with fail
        go_roundw
        case rel => exact ⟨i + 1, _, _, _, nl, by omega, by go_num, rfl, rfl, HNEW, hnl2, HO3, HBB3.out⟩
        case measure => simp [intOf]; omega
      · obtain rfl : i = pl.length := by omega
        have HBR := Lib.hid (HB1.out.trans (hbel.mono HB1.out.size))
        have HFIN : Hid (fullF (leaves (ys :: rest) s ps) (bst, least) = (ust, ul)) := Lib.hid (by rw [← HALL.out]; exact hrun.out)
        have HO := Lib.hid hown2.out
        clear hbel hrun hown2
        go_wp2_with fail
        go_ret2
        rw [HFIN.out]
        exact ⟨_, _, rfl, HO.out, HBR.out⟩
end Go.Proofs.Ytenedmkjbmbapaa
