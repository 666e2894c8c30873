/- The law FnBlocks, walked out of the contracts. -/
import Derived.Test.YtenedmkjbmbapaaBlocksP
import Derived.Test.YtenedmkjbmbapaaDrawL
import Derived.Test.YtenedmkjbmbapaaVText
import Derived.Test.YtenedmkjbmbapaaAgreeS
import Derived.Test.YtenedmkjbmbapaaAgreeI
namespace Go.Proofs.Ytenedmkjbmbapaa
open Go.ChangeShapes Go.WideShapes Go.ChangeAt Go.RowKit

theorem vBig_any (a : Option Addr) (len cap : Nat) (w : World) : Calls Try.prog 24 #[.slice a len cap] w fun e w' => e = .returned (.bool (decide ((65536 : Int) < (len : Int)))) ∧ w = w' := by
  go_enter Try.func24, Try.ntmps24
  go_wp2_with fail
  go_ret
  exact ⟨rfl, rfl⟩
theorem TxR.m1 {w : World} {a : Option Addr} {cp : Nat} {zs : List ByteArray} (h : TxR w a cp zs) : zs.length ≤ maxLen := by have := h.len; unfold maxLen; omega
theorem TxR.m2 {w : World} {a : Option Addr} {cp : Nat} {zs : List ByteArray} (h : TxR w a cp zs) : ∀ z ∈ zs, z.size ≤ maxLen := fun z hz => by have := h.tx z hz; unfold maxLen; omega
theorem TxR.k2 {w : World} {a : Option Addr} {cp : Nat} {zs : List ByteArray} (h : TxR w a cp zs) : ∀ z ∈ zs, z.size ≤ 1048576 := fun z hz => by have := h.tx z hz; omega
set_option maxRecDepth 100000 in
set_option maxHeartbeats 40000000 in
theorem FnBlocks_walk {w : World} (x : Slc × List Int) (h : BytesIn w x.1 x.2) : Calls Try.prog 6 #[x.1.val] w fun e w' => e = .returned (.bool true) ∧ Below w.heap.size w w' := by
  obtain ⟨⟨ad, len, cap⟩, cs⟩ := x
  obtain ⟨hs, hm, hr, hz⟩ := h
  simp only at hs hm hr hz
  subst hs
  have HR := Lib.hid hr
  have HM := Lib.hid hm
  have HZ := Lib.hid hz
  have hR := fun w => vBig_any ad cs.length cap w
  clear hr hz
  by_cases hbig : (65536 : Int) < (cs.length : Int)
  · rw [decide_eq_true hbig] at hR
    have HRB := Lib.hid hR
    clear hR hm hbig
    go_enter Try.func6, Try.ntmps6
    go_wp2_with fail
    refine (HRB.out _).mono ?_
    rintro e _ ⟨rfl, rfl⟩
    go_wp2_with fail
    go_ret
    exact ⟨rfl, Below.refl _ _⟩
  rw [decide_eq_false hbig] at hR
  have HRB := Lib.hid hR
  clear hR hm hbig
  go_enter Try.func6, Try.ntmps6
  go_wp2_with fail
  refine (HRB.out _).mono ?_
  rintro e _ ⟨rfl, rfl⟩
  go_wp2_with fail
  refine (drawPlacesFor_any _ _ cs _ HM.out HR.out HZ.out).mono ?_
  rintro e w1 ⟨xa, xc, xs, ya, yc, ys, rfl, htx, hty, hb⟩
  have hB1 : Below w.heap.size w (w1.alloc (.cells #[.slice ya ys.length yc] 45)) := hb.alloc hb.size _
  have HB1 := Lib.hid hB1
  have HX1 := Lib.hid (htx.below (Go.Joins.below_alloc1 w1 (.cells #[.slice ya ys.length yc] 45)))
  have HY1 := Lib.hid (hty.below (Go.Joins.below_alloc1 w1 (.cells #[.slice ya ys.length yc] 45)))
  have BX1 : Hid (RowIs (w1.alloc (.cells #[.slice ya ys.length yc] 45)) w1.heap.size 45 [.slice ya ys.length yc]) := Lib.hid (RowIs.new w1 45 [.slice ya ys.length yc])
  have H1 := Lib.hid (fun w h1 h2 => implPlacesFor_any xa ya xc yc xs ys w htx.m1 hty.m1 htx.m2 hty.m2 h1 h2)
  have H2 := Lib.hid (fun w h1 h2 => specPlacesFor_any xa ya xc yc xs ys w htx.m1 hty.m1 htx.m2 hty.m2 h1 h2)
  have H3 := Lib.hid (fun w h => implIsSheet_any xa xc xs w htx.m1 htx.m2 h)
  have H4 := Lib.hid (fun w h => implIsBlock_any ya yc ys w hty.m1 hty.m2 h)
  have H5 := Lib.hid (fun r c w r1 r2 c1 c2 h1 h2 => implLay_any xa ya xc yc xs ys r c w r1 r2 c1 c2 htx.m1 hty.m1 htx.m2 hty.m2 h1 h2)
  have H6 := Lib.hid (fun w h => implPts_any xa xc xs w htx.cap (by have := htx.len; omega) htx.k2 h)
  have HPL := Lib.hid (fun p hp => okW_plF (xs := xs) (ys := ys) (p := p) hp)
  have HL30 := plR_len xs ys
  have HOK : Hid (okP xs ys = (gridB xs 5 && gridB ys 3)) := Lib.hid rfl
  obtain ⟨pl, hpl⟩ : ∃ pl, pl = plR xs ys := ⟨_, rfl⟩
  rw [← hpl] at H1 H2 HPL HL30
  rw [HOK.out] at H1 H2
  obtain ⟨b1, hb1⟩ : ∃ b, b = gridB xs 5 := ⟨_, rfl⟩
  obtain ⟨b2, hb2⟩ : ∃ b, b = gridB ys 3 := ⟨_, rfl⟩
  rw [← hb1, ← hb2] at H1 H2
  rw [← hb1] at H3
  rw [← hb2] at H4
  clear hB1 htx hty hb hpl HOK hb1 hb2
  have cX := BX1.out.cell (j := 0) rfl
  go_wp2_with fail
  generalize w1.alloc (.cells #[.slice ya ys.length yc] 45) = w2 at *
  refine (H1.out _ HX1.out.reads HY1.out.reads).mono ?_
  rintro e w3 ⟨pa, pc, rfl, ho, hb⟩
  have HB3 := Lib.hid (HB1.out.trans (hb.mono HB1.out.size))
  have HX3 := Lib.hid (HX1.out.below hb)
  have HY3 := Lib.hid (HY1.out.below hb)
  have BX3 := Lib.hid (BX1.out.below hb)
  have HP3 := Lib.hid (own_reads ho)
  clear cX ho hb HX1 HY1 BX1 HB1
  have cX := BX3.out.cell (j := 0) rfl
  go_wp2_with fail
  refine (H2.out _ HX3.out.reads HY3.out.reads).mono ?_
  rintro e w4 ⟨qa, qc, rfl, ho, hb⟩
  have HB4 := Lib.hid (HB3.out.trans (hb.mono HB3.out.size))
  have HX4 := Lib.hid (HX3.out.below hb)
  have HY4 := Lib.hid (HY3.out.below hb)
  have BX4 := Lib.hid (BX3.out.below hb)
  have HP4 := Lib.hid (HP3.out.below hb)
  have HQ4 := Lib.hid (own_reads ho)
  clear cX ho hb HX3 HY3 BX3 HB3 HP3 H1 H2
  have hmp : pl.length ≤ maxLen := by unfold maxLen; omega
  have HMP := Lib.hid hmp
  clear hmp
  go_wp2_with fail
  refine (vPairs_same pa qa pc qc pl _ HMP.out HP4.out HQ4.out).mono ?_
  rintro e w5 ⟨rfl, hd⟩
  have hb := hd.below w4.heap.size
  have HB5 := Lib.hid (HB4.out.trans (hb.mono HB4.out.size))
  have HX5 := Lib.hid (HX4.out.below hb)
  have HY5 := Lib.hid (HY4.out.below hb)
  have BX5 := Lib.hid (BX4.out.below hb)
  have HP5 := Lib.hid (HP4.out.below hb)
  clear hb hd HX4 HY4 BX4 HB4 HP4 HQ4
  go_wp2_with fail
  refine (H3.out _ HX5.out.reads).mono ?_
  rintro e w6 ⟨rfl, hb⟩
  have HB6 := Lib.hid (HB5.out.trans (hb.mono HB5.out.size))
  have HX6 := Lib.hid (HX5.out.below hb)
  have HY6 := Lib.hid (HY5.out.below hb)
  have BX6 := Lib.hid (BX5.out.below hb)
  have HP6 := Lib.hid (HP5.out.below hb)
  clear hb HX5 HY5 BX5 HB5 HP5
  have cX := BX6.out.cell (j := 0) rfl
  -- TAIL
  cases b1
  case' false =>
    go_wp2_with fail
    obtain ⟨w8, rfl⟩ : ∃ w8, w8 = w6 := ⟨w6, rfl⟩
    have HB8 := HB6
    have HX8 := HX6
    have HY8 := HY6
    have BX8 := BX6
    have HP8 := HP6
    clear HB6 HX6 HY6 BX6 HP6 cX H4
  case' true =>
    go_wp2_with fail
    refine (H4.out _ HY6.out.reads).mono ?_
    rintro e w8 ⟨rfl, hb⟩
    have HB8 := Lib.hid (HB6.out.trans (hb.mono HB6.out.size))
    have HX8 := Lib.hid (HX6.out.below hb)
    have HY8 := Lib.hid (HY6.out.below hb)
    have BX8 := Lib.hid (BX6.out.below hb)
    have HP8 := Lib.hid (HP6.out.below hb)
    clear hb HB6 HX6 HY6 BX6 HP6 cX H4
    cases b2
  case' true.false => go_wp2_with fail
  case' true.true => go_wp2_with fail
  all_goals
    go_loopw [9] (fun i wr => ∃ k : Nat, k ≤ pl.length ∧ i = .int .i64 k ∧ Below w8.heap.size w8 wr) (fun i _ => pl.length - (intOf i).toNat)
    case atStart => exact ⟨0, Nat.zero_le _, rfl, Below.refl _ _⟩
    case round =>
      obtain ⟨k, hk, rfl, hbel⟩ := hrel
      by_cases hlt : k < pl.length
      · obtain ⟨hok, hgx, ⟨r1, r2⟩, ⟨c1, c2⟩⟩ := HPL.out _ (List.getElem_mem hlt)
        have HGZ := Lib.hid (okW_grid hok)
        have hpts := pts_layW hok
        have hp6 := H6.out
        rw [ptsR_of hgx] at hp6
        have hl5 := H5.out pl[k].1 pl[k].2
        rw [hok] at hl5
        have hpr := HP8.out.below hbel
        rcases hpr with h0 | ⟨pb, po, rfl, hpb, hpc⟩
        · have := pairs_length pl; rw [h0] at this; simp at this; omega
        obtain ⟨g0, g1⟩ := pairs_get hlt
        have d0 := hpc _ _ g0
        have d1 := hpc _ _ g1
        simp only [← Nat.add_assoc] at d1
        obtain ⟨zs, hzs⟩ : ∃ zs, zs = layW xs ys pl[k].1 pl[k].2 := ⟨_, rfl⟩
        rw [← hzs] at hl5 hpts HGZ
        obtain ⟨n1, hn1⟩ : ∃ n, n = ptsF xs := ⟨_, rfl⟩
        rw [← hn1] at hp6 hpts
        obtain ⟨⟨p1, p2⟩, hp⟩ : ∃ p, p = pl[k] := ⟨_, rfl⟩
        rw [← hp] at d0 d1 hl5 r1 r2 c1 c2
        simp only at d0 d1 hl5 r1 r2 c1 c2
        have HLY := Lib.hid (fun w h1 h2 => hl5 w r1 r2 c1 c2 h1 h2)
        have HP1 := Lib.hid hp6
        have hp7 := fun a cp w hc h => implPts_any a cp zs w hc (grid_small HGZ.out).1 (grid_small HGZ.out).2 h
        rw [ptsR_of HGZ.out] at hp7
        obtain ⟨n2, hn2⟩ : ∃ n, n = ptsF zs := ⟨_, rfl⟩
        rw [← hn2] at hp7 hpts
        have HP2 := Lib.hid hp7
        have hd : decide (n1 < n2) = false := by simpa using hpts
        have HBR := Lib.hid hbel
        have HXr := Lib.hid (HX8.out.below hbel)
        have HYr := Lib.hid (HY8.out.below hbel)
        have cX := (BX8.out.below hbel).cell (j := 0) rfl
        have i0 : (0 : Int) ≤ (k : Int) := by omega
        have i1 : (k : Int) < (pl.length : Int) := by omega
        clear hok hgx hpts hp6 hl5 hpb hpc g0 g1 hzs hn1 hn2 hp hp7 hbel r1 r2 c1 c2
        go_wp2_with fail
        go_region_held3 (fun w' => w'.cell? ⟨w1.heap.size, 0, none⟩ = some (.slice ya ys.length yc) ∧ w'.cell? ⟨pb, po + k * 2, none⟩ = some (.int .i64 p1) ∧ w'.cell? ⟨pb, po + k * 2 + 1, none⟩ = some (.int .i64 p2))
          (first | exact ⟨cX, d0, d1⟩ | exact ⟨cell_later hb9 cX, cell_later hb9 d0, cell_later hb9 d1⟩)
          ((go_at_call 31; refine (HLY.out _ (Reads.drew HXr.out.reads) (Reads.drew HYr.out.reads)).mono ?_; rintro e w9 ⟨ad9, cp9, rfl, ho9, hb9⟩))
        have hb9' := (Below.refl wr.heap.size wr).drew.trans (hb9.mono (Nat.le_refl _))
        have HB9 := Lib.hid (HBR.out.trans (hb9'.mono HBR.out.size))
        have HX9 := Lib.hid (HXr.out.below hb9')
        have HZ9 := Lib.hid (own_reads ho9)
        have HZC := Lib.hid (own_le ho9)
        clear hb9 hb9' ho9 cX d0 d1 HXr HYr
        go_wp2_with fail
        refine (HP1.out _ HX9.out.reads).mono ?_
        rintro e w10 ⟨rfl, hb⟩
        have HB10 := Lib.hid (HB9.out.trans (hb.mono HB9.out.size))
        have HZ10 := Lib.hid (HZ9.out.below hb)
        clear hb
        go_wp2_with fail
        refine (HP2.out _ _ _ HZC.out HZ10.out).mono ?_
        rintro e w11 ⟨rfl, hb⟩
        have HB11 := Lib.hid (HB10.out.trans (hb.mono HB10.out.size))
        clear hb
        go_wp2_with fail
        go_roundw
        case rel => exact ⟨k + 1, by omega, by go_num, HB11.out⟩
        case measure => simp [intOf]; omega
      · have HBr := Lib.hid (HB8.out.trans (hbel.mono HB8.out.size))
        clear hbel hk HX8 HY8 BX8 HP8 HB8 H5 H6 HPL
        go_wp2_with fail
        refine (drawLayBlock_any _ _ cs _ HM.out (HR.out.below HBr.out) HZ.out).mono ?_
        rintro e w9 ⟨ua, uc, us, va, vc, vs, r, c, rfl, ⟨r1, r2⟩, ⟨c1, c2⟩, htu, htv, hb⟩
        have hba := Go.Joins.below_alloc1 w9 (.cells #[.slice va vs.length vc] 45)
        have hb10 := hb.trans (hba.mono hb.size)
        have HB10 := Lib.hid (HBr.out.trans (hb10.mono HBr.out.size))
        have HU10 := Lib.hid (htu.below hba)
        have HV10 := Lib.hid (htv.below hba)
        have BX10 : Hid (RowIs (w9.alloc (.cells #[.slice va vs.length vc] 45)) w9.heap.size 45 [.slice va vs.length vc]) := Lib.hid (RowIs.new w9 45 [.slice va vs.length vc])
        have hl1 := fun w h1 h2 => implLay_any ua va uc vc us vs r c w r1 r2 c1 c2 htu.m1 htv.m1 htu.m2 htv.m2 h1 h2
        have hl2 := fun w h1 h2 => specLay_any ua va uc vc us vs r c w r1 r2 c1 c2 htu.m1 htv.m1 htu.m2 htv.m2 h1 h2
        have hmz : (layW us vs r c).length ≤ maxLen := by
          unfold layW; split
          · rename_i h
            have := grid_len (okW_grid h)
            unfold layW at this; rw [if_pos h] at this; unfold maxLen; omega
          · simp [maxLen]
        obtain ⟨zs, hzs⟩ : ∃ zs, zs = layW us vs r c := ⟨_, rfl⟩
        obtain ⟨ok, hok⟩ : ∃ ok, ok = okW us vs r c := ⟨_, rfl⟩
        rw [← hzs, ← hok] at hl1 hl2
        rw [← hzs] at hmz
        have HL1 := Lib.hid hl1
        have HL2 := Lib.hid hl2
        have HMZ := Lib.hid hmz
        clear hl1 hl2 hmz hzs hok htu htv hb hba hb10 r1 r2 c1 c2 HBr
        have cX := BX10.out.cell (j := 0) rfl
        go_wp2_with fail
        generalize w9.alloc (.cells #[.slice va vs.length vc] 45) = w10 at *
        refine (HL1.out _ HU10.out.reads HV10.out.reads).mono ?_
        rintro e w11 ⟨la, lc, rfl, ho, hb⟩
        have HB11 := Lib.hid (HB10.out.trans (hb.mono HB10.out.size))
        have HU11 := Lib.hid (HU10.out.below hb)
        have HV11 := Lib.hid (HV10.out.below hb)
        have HZ11 := Lib.hid (own_reads ho)
        have BX11 := Lib.hid (BX10.out.below hb)
        clear cX ho hb HU10 HV10 BX10 HB10
        have cX := BX11.out.cell (j := 0) rfl
        go_wp2_with fail
        refine (HL2.out _ HU11.out.reads HV11.out.reads).mono ?_
        rintro e w12 ⟨la2, lc2, rfl, ho, hb⟩
        have HB12 := Lib.hid (HB11.out.trans (hb.mono HB11.out.size))
        have HZ12 := Lib.hid (HZ11.out.below hb)
        have HY12 := Lib.hid (own_reads ho)
        clear cX ho hb HU11 HV11 BX11 HB11 HZ11
        go_wp2_with fail
        refine (vTexts_same la la2 lc lc2 zs _ HMZ.out HZ12.out HY12.out).mono ?_
        rintro e w13 ⟨rfl, hd⟩
        have HB13 := Lib.hid (HB12.out.trans ((hd.below _).mono HB12.out.size))
        clear hd HB12 HZ12 HY12 HL1 HL2 HMZ
        go_wp2_with fail
        refine (drawDoAgree_any _ _ cs _ HM.out (HR.out.below HB13.out) HZ.out).mono ?_
        rintro e w14 ⟨ka, kc, ks, ma, mc, ms, r3, c3, rfl, ⟨r1, r2⟩, ⟨c1, c2⟩, htu, htv, hb⟩
        have hba := Go.Joins.below_alloc2 w14 (.cells #[.slice ka ks.length kc] 45) (.cells #[.slice ma ms.length mc] 45)
        have hb15 := hb.trans (hba.mono hb.size)
        have HB15 := Lib.hid (HB13.out.trans (hb15.mono HB13.out.size))
        have HU15 := Lib.hid (htu.below hba)
        have HV15 := Lib.hid (htv.below hba)
        have BX15 := Lib.hid (two_new w14 (.slice ka ks.length kc) (.slice ma ms.length mc) 45 45)
        have hg1 := fun w h1 h2 => implDoAgree_any ka ma kc mc ks ms r3 c3 w htu.m1 htv.m1 htu.m2 htv.m2 h1 h2
        have hg2 := fun w h1 h2 => implDoAgree_any ma ka mc kc ms ks (-r3) (-c3) w htv.m1 htu.m1 htv.m2 htu.m2 h1 h2
        have hg3 := fun w h1 h2 => specDoAgree_any ka ma kc mc ks ms r3 c3 w htu.m1 htv.m1 htu.m2 htv.m2 h1 h2
        rw [agF_flip] at hg2
        obtain ⟨⟨a1, a2⟩, ha⟩ : ∃ a, a = agF ks ms r3 c3 := ⟨_, rfl⟩
        rw [← ha] at hg1 hg2 hg3
        have HG1 := Lib.hid hg1
        have HG2 := Lib.hid hg2
        have HG3 := Lib.hid hg3
        clear hg1 hg2 hg3 ha htu htv hb hba hb15 HB13
        have cX := BX15.out.1.cell (j := 0) rfl
        have cY := BX15.out.2.cell (j := 0) rfl
        go_wp2_with fail
        generalize (w14.alloc (.cells #[.slice ka ks.length kc] 45)).alloc (.cells #[.slice ma ms.length mc] 45) = w15 at *
        refine (HG1.out _ HU15.out.reads HV15.out.reads).mono ?_
        rintro e w16 ⟨rfl, hb⟩
        have HB16 := Lib.hid (HB15.out.trans (hb.mono HB15.out.size))
        have HU16 := Lib.hid (HU15.out.below hb)
        have HV16 := Lib.hid (HV15.out.below hb)
        have BX16 := Lib.hid (BX15.out.1.below hb)
        have BY16 := Lib.hid (BX15.out.2.below hb)
        clear cX cY hb HU15 HV15 BX15 HB15
        have cX := BX16.out.cell (j := 0) rfl
        have cY := BY16.out.cell (j := 0) rfl
        go_wp2_with fail
        refine (HG2.out _ HV16.out.reads HU16.out.reads).mono ?_
        rintro e w17 ⟨rfl, hb⟩
        have HB17 := Lib.hid (HB16.out.trans (hb.mono HB16.out.size))
        have HU17 := Lib.hid (HU16.out.below hb)
        have HV17 := Lib.hid (HV16.out.below hb)
        have BX17 := Lib.hid (BX16.out.below hb)
        have BY17 := Lib.hid (BY16.out.below hb)
        clear cX cY hb HU16 HV16 BX16 BY16 HB16
        have cX := BX17.out.cell (j := 0) rfl
        have cY := BY17.out.cell (j := 0) rfl
        go_wp2_with fail
        refine (HG3.out _ HU17.out.reads HV17.out.reads).mono ?_
        rintro e w18 ⟨rfl, hb⟩
        have HB18 := Lib.hid (HB17.out.trans (hb.mono HB17.out.size))
        clear cX cY hb HU17 HV17 BX17 BY17 HB17 HG1 HG2 HG3
        go_wp2_with fail
        refine (drawPointsOn_any _ _ cs _ HM.out (HR.out.below HB18.out) HZ.out).mono ?_
        rintro e w19 ⟨sa, sc, ss, rfl, ht, hb⟩
        have HB19 := Lib.hid (HB18.out.trans (hb.mono HB18.out.size))
        have HS19 := Lib.hid ht
        have hp1 := fun w h => implPts_any sa sc ss w ht.cap (by have := ht.len; omega) ht.k2 h
        have hp2 := fun w h => specPts_any sa sc ss w (by have := ht.len; omega) ht.k2 h
        obtain ⟨⟨m1, m2⟩, hmm⟩ : ∃ m, m = ptsR ss := ⟨_, rfl⟩
        rw [← hmm] at hp1 hp2
        have HP1 := Lib.hid hp1
        have HP2 := Lib.hid hp2
        clear hp1 hp2 hmm ht hb HB18
        go_wp2_with fail
        refine (HP1.out _ HS19.out.reads).mono ?_
        rintro e w20 ⟨rfl, hb⟩
        have HB20 := Lib.hid (HB19.out.trans (hb.mono HB19.out.size))
        have HS20 := Lib.hid (HS19.out.below hb)
        clear hb HB19 HS19
        go_wp2_with fail
        refine (HP2.out _ HS20.out.reads).mono ?_
        rintro e w21 ⟨rfl, hb⟩
        have HB21 := Lib.hid (HB20.out.trans (hb.mono HB20.out.size))
        clear hb HB20 HS20 HP1 HP2
        go_wp2_with fail
        refine (drawBlockText_any _ _ cs _ HM.out (HR.out.below HB21.out) HZ.out).mono ?_
        rintro e w22 ⟨ta, tc, ts, rfl, ht, hb⟩
        have hba := Go.Joins.below_alloc1 w22 (.cells #[.slice ta ts.length tc] 45)
        have hb23 := hb.trans (hba.mono hb.size)
        have HB23 := Lib.hid (HB21.out.trans (hb23.mono HB21.out.size))
        have HT23 := Lib.hid (ht.below hba)
        have BX23 : Hid (RowIs (w22.alloc (.cells #[.slice ta ts.length tc] 45)) w22.heap.size 45 [.slice ta ts.length tc]) := Lib.hid (RowIs.new w22 45 [.slice ta ts.length tc])
        have ht1 := fun w h => implText_any ta tc ts w ht.m1 ht.cap ht.m2 h
        have ht2 := fun w h => specText_any ta tc ts w ht.m1 ht.m2 h
        obtain ⟨tx, htx⟩ : ∃ t, t = (if gridB ts 3 = true then joinB ts slashB else ⟨#[]⟩) := ⟨_, rfl⟩
        obtain ⟨tb, htb⟩ : ∃ t, t = gridB ts 3 := ⟨_, rfl⟩
        rw [← htx] at ht1 ht2
        rw [← htb] at ht1 ht2
        have HT1 := Lib.hid ht1
        have HT2 := Lib.hid ht2
        clear ht1 ht2 htx htb ht hb hba hb23 HB21
        have cX := BX23.out.cell (j := 0) rfl
        go_wp2_with fail
        generalize w22.alloc (.cells #[.slice ta ts.length tc] 45) = w23 at *
        refine (HT1.out _ HT23.out.reads).mono ?_
        rintro e w24 ⟨rfl, hb⟩
        have HB24 := Lib.hid (HB23.out.trans (hb.mono HB23.out.size))
        have HT24 := Lib.hid (HT23.out.below hb)
        have BX24 := Lib.hid (BX23.out.below hb)
        clear cX hb HB23 HT23 BX23
        have cX := BX24.out.cell (j := 0) rfl
        go_wp2_with fail
        refine (HT2.out _ HT24.out.reads).mono ?_
        rintro e w25 ⟨rfl, hb⟩
        have HB25 := Lib.hid (HB24.out.trans (hb.mono HB24.out.size))
        clear cX hb HB24 HT24 BX24
        go_wp2_with fail
        go_ret
        exact ⟨rfl, HB25.out⟩
end Go.Proofs.Ytenedmkjbmbapaa
