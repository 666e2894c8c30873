/- How many rebuildings there are: the reference's side. -/
import Derived.Test.YtenedmkjbmbapaaRebP
import Derived.Test.YtenedmkjbmbapaaLayS
import Derived.Deep.RegionHeld3
namespace Go.Proofs.Ytenedmkjbmbapaa
open Go.RowKit

theorem l4LayR_any (a b : Option Addr) (ca cb : Nat) (xs ys : List ByteArray) (p : Int × Int) (w : World) (gx : gridB xs 5 = true) (gy : gridB ys 3 = true) (hp : p ∈ plF xs ys) (hx : Reads w a (strs xs)) (hy : Reads w b (strs ys)) :
    Calls Try.prog 79 #[.slice a xs.length ca, .agg #[.slice b ys.length cb], .int .i64 p.1, .int .i64 p.2] w fun e w' => ∃ ad cp, e = .returned (.slice ad xs.length cp) ∧
      w'.ownsRow w.heap.size 9 1 (.slice ad xs.length cp) xs.length (strs (layR xs ys p.1 p.2)) ∧ Below w.heap.size w w' := by
  obtain ⟨r, c, rfl, _, _, hf⟩ := plF_in hp
  obtain ⟨_, h1, _, h2, h3⟩ := fits_of hf
  rw [Int.toNat_natCast, Int.toNat_natCast] at h3
  refine (l4Lay_any a b ca cb xs ys r c w gx gy (by omega) (by omega) hx hy).mono ?_
  rintro e w' ⟨ad, cp, rfl, ho, hb⟩
  rw [layS_all gy h3] at ho
  exact ⟨ad, cp, rfl, by rw [layR_of hf]; exact ho, hb⟩
def zssB (bs : List BlkT) : List (List ByteArray) := bs.map BlkT.zs
theorem zssB_drop {bs : List BlkT} {j : Nat} (h : j < bs.length) : zssB (bs.drop j) = bs[j].zs :: zssB (bs.drop (j + 1)) := by
  rw [List.drop_eq_getElem_cons h]; rfl
set_option maxRecDepth 100000 in
set_option maxHeartbeats 4000000 in
theorem l4Count_any (ba : Option Addr) (bc : Nat) (bs : List BlkT) (hbl : bs.length ≤ 4) (hbg : ∀ b ∈ bs, gridB b.zs 3 = true) : ∀ (n j : Nat), bs.length - j = n → j ≤ bs.length → ∀ (sa : Option Addr) (sc : Nat) (s : List ByteArray) (w : World) (most : Nat),
    gridB s 5 = true → 1 ≤ most → most ≤ 1000 → Reads w sa (strs s) → BlksAt w ba bs →
    Calls Try.prog 50 #[.slice sa s.length sc, .slice ba bs.length bc, .int .i64 (j : Int), .int .i64 (most : Int)] w fun e w' => e = .returned (.int .i64 ((min (cntB (zssB (bs.drop j)) s) most : Nat) : Int)) ∧ Below w.heap.size w w' := by
  intro n
  induction n with
  | zero =>
    intro j hn hj sa sc s w most gs h1 h2 hs hb
    obtain rfl : j = bs.length := by omega
    have HR := Lib.hid (show min (cntB (zssB (bs.drop bs.length)) s) most = 1 by rw [List.drop_length]; show min 1 most = 1; omega)
    clear hs hb hbg gs
    go_enter Try.func50, Try.ntmps50
    go_wp2_with fail
    go_ret
    exact ⟨by rw [HR.out]; rfl, Below.refl _ _⟩
  | succ n ih =>
    intro j hn hj sa sc s w most gs h1 h2 hs hb
    have hjl : j < bs.length := by omega
    have HG := Lib.hid gs
    have gb := hbg _ (List.getElem_mem hjl)
    have HZ := Lib.hid (zssB_drop hjl)
    have HS := Lib.hid hs
    have HB := Lib.hid hb
    have hin := hb.inner _ (List.getElem_mem hjl)
    have hne : ¬ ((j : Int) == (bs.length : Int)) = true := by simp; omega
    have hne2 : ((j : Int) == (bs.length : Int)) = false := by simpa using hne
    rcases hb.outer with h0 | ⟨b, off, rfl, hbk, hc⟩
    · have := blks_length bs; rw [h0] at this; simp at this; omega
    have hc0 := hc _ _ (blks_get hjl)
    obtain ⟨⟨ya, yc, ys⟩, hy⟩ : ∃ y, y = bs[j] := ⟨_, rfl⟩
    rw [← hy] at hc0 hin gb HZ
    simp only at hc0 hin gb HZ
    have HY := Lib.hid hin
    have HGB := Lib.hid gb
    have HC0 := Lib.hid hc0
    obtain ⟨rest, hrest⟩ : ∃ rest, rest = zssB (bs.drop (j + 1)) := ⟨_, rfl⟩
    rw [← hrest] at HZ
    have HIH := Lib.hid (fun sa sc s w most g1 g2 g3 hr hb => ih (j + 1) (by omega) (by omega) sa sc s w most g1 g2 g3 hr hb)
    rw [← hrest] at HIH
    have hj0 : (0 : Int) ≤ (j : Int) := by omega
    have hj1 : (j : Int) < (bs.length : Int) := by omega
    have hnl : ¬ j = bs.length := by omega
    clear ih hs hb hin gb hc hy hrest gs hne
    go_enter Try.func50, Try.ntmps50
    go_wp2_with fail
    refine (l4Places_any _ _ _ _ s ys _ HG.out HGB.out HS.out HY.out).mono ?_
    rintro e w1 ⟨pa, pc, rfl, hown, hb1⟩
    have HPL := Lib.hid hown
    have HB1 := Lib.hid hb1
    have hpl := plF_len' (ys := ys) HG.out
    clear hown hb1
    go_wp2_with fail
    obtain ⟨pl, hpe⟩ : ∃ pl, pl = plF s ys := ⟨_, rfl⟩
    rw [← hpe] at HPL hpl ⊢
    have HPE := Lib.hid hpe
    clear hpe
    go_loopw [10, 11] (fun q i wr => ∃ (i0 sum : Nat), i0 ≤ pl.length ∧ i = .int .i64 i0 ∧ q = .int .i64 (sum : Int) ∧ Hid (sum = min (cntTo' ys rest s i0) most) ∧ sum ≤ most ∧ Below w1.heap.size w1 wr) (fun _ i _ => pl.length - (intOf i).toNat)
    case atStart => exact ⟨0, 0, by omega, rfl, by go_num, Lib.hid (by simp [cntTo']), by omega, Below.refl _ _⟩
    case round =>
      obtain ⟨i, sum, hi, rfl, rfl, hsum, hsm, hbel⟩ := hrel
      by_cases hgo : i < pl.length ∧ sum < most
      · obtain ⟨hil, hsl⟩ := hgo
        have hd1 : decide (sum < most) = true := by simpa using hsl
        have hpm : pl[i] ∈ plF s ys := by rw [← HPE.out]; exact List.getElem_mem hil
        have hpg := layR_grid HG.out HGB.out hpm
        have hps := plF_small HG.out hpm
        have hlr := layR_len hpm
        have hsuc : cntTo' ys rest s (i + 1) = cntTo' ys rest s i + cntB rest (layR s ys pl[i].1 pl[i].2) := by
          have h := cntTo'_succ (b := ys) (bs := rest) (s := s) (k := i) (by rw [← HPE.out]; exact hil)
          simp only [← HPE.out] at h; exact h
        obtain ⟨s2, hs2⟩ : ∃ s2, s2 = layR s ys pl[i].1 pl[i].2 := ⟨_, rfl⟩
        have HLY := Lib.hid (fun w hx hy => l4LayR_any sa ya sc yc s ys pl[i] w HG.out HGB.out hpm hx hy)
        rw [← hs2] at hpg hlr hsuc HLY
        have HCN := Lib.hid (fun (sa : Option Addr) (sc : Nat) w hr hb => HIH.out sa sc s2 w (most - sum) hpg (by omega) (by omega) hr hb)
        rw [hlr] at HCN
        obtain ⟨cnt, hcnt⟩ : ∃ c, c = min (cntB rest s2) (most - sum) := ⟨_, rfl⟩
        rw [← hcnt] at HCN
        have HNEW : Hid (sum + cnt = min (cntTo' ys rest s (i + 1)) most) := Lib.hid (by rw [hsuc, hcnt]; have := hsum.out; omega)
        have hcl : sum + cnt ≤ most := by omega
        have hplr := own_reads HPL.out
        rcases hplr with h0 | ⟨pb, po, rfl, hpb, hpc⟩
        · have := pairs_length pl; rw [h0] at this; simp at this; omega
        obtain ⟨g0, g1⟩ := pairs_get hil
        have d0 := (hbel.cell (p := ⟨pb, _, none⟩) hpb).trans (hpc _ _ g0)
        have d1 := (hbel.cell (p := ⟨pb, _, none⟩) hpb).trans (hpc _ _ g1)
        simp only [← Nat.add_assoc] at d1
        obtain ⟨p1, hp1⟩ : ∃ x, x = pl[i].1 := ⟨_, rfl⟩
        obtain ⟨p2, hp2⟩ : ∃ x, x = pl[i].2 := ⟨_, rfl⟩
        rw [← hp1] at d0 HLY
        rw [← hp2] at d1 HLY
        have hB2 := HB1.out.trans (hbel.mono HB1.out.size)
        have cB := (hB2.cell (p := ⟨b, off + j, none⟩) hbk).trans HC0.out
        have HSr := Lib.hid (HS.out.below hB2)
        have HYr := Lib.hid (HY.out.below hB2)
        have HBr := Lib.hid (HB.out.below hB2)
        have HBL := Lib.hid hbel
        have hw1 : IntKind.i64.wrap ((j : Int) + 1) = ((j + 1 : Nat) : Int) := by rw [small_in (by omega) (by omega)]; omega
        have hw2 : IntKind.i64.wrap ((most : Int) - (sum : Int)) = ((most - sum : Nat) : Int) := by rw [small_in (by omega) (by omega)]; omega
        have i0 : (0 : Int) ≤ (i : Int) := by omega
        have i1 : (i : Int) < (pl.length : Int) := by omega
        clear hpm hpg hps hlr hsuc hs2 hcnt g0 g1 hpc hp1 hp2 hB2 hbel
        go_wp2_with fail
        have hw3 : IntKind.i64.wrap ((sum : Int) + (cnt : Int)) = ((sum + cnt : Nat) : Int) := by rw [small_in (by omega) (by omega)]; omega
        go_region_held3 (fun w' => w'.cell? ⟨b, off + j, none⟩ = some (.slice ya ys.length yc) ∧ w'.cell? ⟨pb, po + i * 2, none⟩ = some (.int .i64 p1) ∧ w'.cell? ⟨pb, po + i * 2 + 1, none⟩ = some (.int .i64 p2))
          (first | exact ⟨cB, d0, d1⟩ | exact ⟨cell_later hb2 cB, cell_later hb2 d0, cell_later hb2 d1⟩ | exact ⟨cell_later hb3 (cell_later hb2 cB), cell_later hb3 (cell_later hb2 d0), cell_later hb3 (cell_later hb2 d1)⟩)
          (first
            | (go_at_call 79; refine (HLY.out _ (Reads.drew HSr.out) (Reads.drew HYr.out)).mono ?_; rintro e w2 ⟨ad2, cp2, rfl, ho2, hb2⟩)
            | (go_at_call 50; refine (HCN.out _ _ _ (own_reads ho2) ((HBr.out.below ((Below.refl _ _).drew)).below hb2)).mono ?_; rintro e w3 ⟨rfl, hb3⟩))
        have HBB := Lib.hid (HBL.out.trans ((((Below.refl wr.heap.size wr).drew.trans (hb2.mono (Nat.le_refl _))).trans (hb3.mono hb2.size)).mono HBL.out.size))
        clear hb2 hb3 ho2 cB d0 d1
        go_wp2_with fail
        go_roundw
        case rel => exact ⟨i + 1, sum + cnt, by omega, by go_num, by go_num, HNEW, hcl, HBB.out⟩
        case measure => simp [intOf]; omega
      · have HBR := Lib.hid (HB1.out.trans (hbel.mono HB1.out.size))
        have HFIN : Hid (min (sum : Int) (most : Int) = ((min (cntB (zssB (bs.drop j)) s) most : Nat) : Int)) := Lib.hid (by
          have hall := cntTo'_all ys rest s
          have hle := cntTo'_le ys rest s i
          have h3 := hsum.out
          rw [HZ.out]
          rw [← HPE.out] at hall
          by_cases e : i = pl.length
          · subst e; rw [hall] at h3; omega
          · omega)
        clear hbel
        by_cases e : i < pl.length
        · have hsl : ¬ sum < most := fun h => hgo ⟨e, h⟩
          have hd1 : decide (sum < most) = false := by simpa using hsl
          clear hgo
          go_wp2_with (go_at_call 88; refine (l1Least_any _ _ _).mono ?_; rintro e w' ⟨rfl, rfl⟩)
          go_ret
          exact ⟨ret_int HFIN.out, HBR.out⟩
        · clear hgo
          go_wp2_with (go_at_call 88; refine (l1Least_any _ _ _).mono ?_; rintro e w' ⟨rfl, rfl⟩)
          go_ret
          exact ⟨ret_int HFIN.out, HBR.out⟩
end Go.Proofs.Ytenedmkjbmbapaa
