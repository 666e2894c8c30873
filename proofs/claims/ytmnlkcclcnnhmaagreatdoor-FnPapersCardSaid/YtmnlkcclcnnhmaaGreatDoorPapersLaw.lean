/- The law FnPapers, walked out of the contracts. -/
import Derived.Test.YtmnlkcclcnnhmaaGreatDoorPapW
import Derived.Test.YtmnlkcclcnnhmaaGreatDoorErrS
import Derived.Deep.DeepCutAuto
import Derived.Deep.CutBlock
namespace Go.Proofs.YtmnlkcclcnnhmaaGreatDoor
open Go.ChangeShapes Go.WideShapes Go.ChangeAt Go.RowKit

theorem err_range_4 {x y z u : String × DataW Unit} {rest : List (String × DataW Unit)} {w : World} (h : laidMet Tryz.prog (x :: y :: z :: u :: ("strconv.ErrRange", Rows.laid_strconv_ErrRange) :: rest) w) : ErrVar w "strconv.ErrRange" := err_range (laidMet.tail (laidMet.tail (laidMet.tail (laidMet.tail h))))
theorem err_second_5 {x y z u v : String × DataW Unit} {rest : List (String × DataW Unit)} {w : World} (h : laidMet Tryz.prog (x :: y :: z :: u :: v :: ("strconv.ErrSyntax", Rows.laid_strconv_ErrSyntax) :: rest) w) : ErrVar w "strconv.ErrSyntax" := err_second (laidMet.tail (laidMet.tail (laidMet.tail (laidMet.tail (laidMet.tail h)))))
theorem ids_len (p : PaperT → Bool) (zs : List PaperT) : (idsOfPaper p zs).length ≤ zs.length := by
  rw [idsOfPaper, List.length_map]; exact List.length_filter_le _ _
set_option maxRecDepth 100000 in
set_option maxHeartbeats 40000000 in
theorem FnPapers_walk {w : World} (HL : laidMet Tryz.prog Rows.fnPapersRow.laid w) (hsh : w.ShapedOpen Tryz.prog) (x : Slc × List Int) (h : BytesIn w x.1 x.2) : Calls Tryz.prog 3 #[x.1.val] w fun e w' => e = .returned (.bool true) ∧ Below w.heap.size w w' := by
  have HT := Lib.hid (show Tabs w from ⟨powTab_of HL, err_range_4 HL, err_second_5 HL, maxCell_of hsh⟩)
  clear HL hsh
  obtain ⟨⟨ad, len, cap⟩, cs⟩ := x
  obtain ⟨hs, hm, hr, hz⟩ := h
  simp only at hs hm hr hz
  subst hs
  have HR := Lib.hid hr
  have HM := Lib.hid hm
  have HZ := Lib.hid hz
  have hR := fun w => rBig_any ad cs.length cap w
  clear hr hz
  by_cases hbig : (65536 : Int) < (cs.length : Int)
  · rw [decide_eq_true hbig] at hR
    have HRB := Lib.hid hR
    clear hR hm hbig
    go_enter Tryz.func3, Tryz.ntmps3
    go_wp2_with fail
    refine (HRB.out _).mono ?_
    rintro e _ ⟨rfl, rfl⟩
    go_wp2_with fail
    go_ret
    exact ⟨rfl, Below.refl _ _⟩
  rw [decide_eq_false hbig] at hR
  have HRB := Lib.hid hR
  have HB0 := Lib.hid (Below.refl w.heap.size w)
  clear hR hm hbig
  go_enter Tryz.func3, Tryz.ntmps3
  go_wp2_with fail
  refine (HRB.out _).mono ?_
  rintro e _ ⟨rfl, rfl⟩
  go_wp2_with fail
  refine (drawPaperText_any _ _ cs _ HM.out HR.out HZ.out).mono ?_
  rintro e w1 ⟨c, rfl, hcm, hb⟩
  obtain ⟨sx, hsx⟩ : ∃ sx, sx = (if paperOk c = true then pt3 c else .empty) := ⟨_, rfl⟩
  obtain ⟨ok, hok⟩ : ∃ ok, ok = paperOk c := ⟨_, rfl⟩
  have hmx : c.mark.size ≤ maxLen := by unfold maxLen; omega
  have q1 := fun w h => implPaperText_any c w hmx h
  have q2 := fun w => specPaperText_any c w hmx
  have q3 := fun w => implIsPaper_any c w hmx
  have hsz : sx.size ≤ 60 := by
    rw [hsx]; split
    · rename_i h; exact (pt3_size c h).2
    · decide
  have hgd : Good 3 sx := by
    rw [hsx]; split
    · rename_i h; exact (Good.text h).mono (by omega)
    · exact Good.empty 3
  obtain ⟨bk, hbk⟩ : ∃ bk, bk = finP sx (implP (splitF sx 32)) := ⟨_, rfl⟩
  have hback : ok = true → bk = (c, true) := fun h => by
    rw [hok] at h; rw [hbk, hsx, if_pos h]; exact finP_back h
  have q4 := fun w h => implParseP_any sx w (by omega) h hgd.not_bad
  rw [← hsx, ← hok] at q1 q2
  rw [← hok] at q3
  rw [← hbk] at q4
  clear hsx hok hbk hsz hgd hmx hcm
  obtain ⟨n0, n1, n2, n3, n4⟩ := c
  obtain ⟨⟨m0, m1, m2, m3, m4⟩, bb⟩ := bk
  have Q1 := Lib.hid q1
  have Q2 := Lib.hid q2
  have Q3 := Lib.hid q3
  have Q4 := Lib.hid q4
  have HBK : Hid (ok = false ∨ (ok = true ∧ m0 = n0 ∧ m1 = n1 ∧ m2 = n2 ∧ m3 = n3 ∧ m4 = n4 ∧ bb = true)) := Lib.hid (by
    cases ok
    · exact .inl rfl
    · have := hback rfl
      simp at this
      exact .inr ⟨rfl, this.1.1, this.1.2.1, this.1.2.2.1, this.1.2.2.2.1, this.1.2.2.2.2, this.2⟩)
  have HB1 := Lib.hid (HB0.out.trans (hb.mono HB0.out.size))
  have HX : Hid (RowIs (w1.alloc (.cells #[.int .i64 n0, .int .i64 n1, .int .i64 n2, .string n3, .bool n4] 25)) w1.heap.size 25 (⟨n0, n1, n2, n3, n4⟩ : PaperT).cells) := Lib.hid (RowIs.new w1 25 (⟨n0, n1, n2, n3, n4⟩ : PaperT).cells)
  have HB2 : Hid (Below w.heap.size w (w1.alloc (.cells #[.int .i64 n0, .int .i64 n1, .int .i64 n2, .string n3, .bool n4] 25))) := Lib.hid (HB1.out.alloc HB1.out.size _)
  clear q1 q2 q3 q4 hb hback
  go_wp2_with fail
  generalize w1.alloc (.cells #[.int .i64 n0, .int .i64 n1, .int .i64 n2, .string n3, .bool n4] 25) = w2 at *
  refine (Q1.out _ (HT.out.below HB2.out).pow).mono ?_
  rintro e w3 ⟨rfl, hb⟩
  have HB3 := Lib.hid (HB2.out.trans (hb.mono HB2.out.size))
  have HX3 := Lib.hid (HX.out.below hb)
  clear hb
  have x0 := HX3.out.cell (j := 0) rfl
  have x1 := HX3.out.cell (j := 1) rfl
  have x2 := HX3.out.cell (j := 2) rfl
  have x3 := HX3.out.cell (j := 3) rfl
  have x4 := HX3.out.cell (j := 4) rfl
  go_wp2_with fail
  refine (Q2.out _).mono ?_
  rintro e w4 ⟨rfl, hb⟩
  have HB4 := Lib.hid (HB3.out.trans (hb.mono HB3.out.size))
  have HX4 := Lib.hid (HX3.out.below hb)
  clear hb x0 x1 x2 x3 x4
  have x0 := HX4.out.cell (j := 0) rfl
  have x1 := HX4.out.cell (j := 1) rfl
  have x2 := HX4.out.cell (j := 2) rfl
  have x3 := HX4.out.cell (j := 3) rfl
  have x4 := HX4.out.cell (j := 4) rfl
  go_wp2_with fail
  refine (Q3.out _).mono ?_
  rintro e w5 ⟨rfl, hb⟩
  have HB5 := Lib.hid (HB4.out.trans (hb.mono HB4.out.size))
  have HX5 := Lib.hid (HX4.out.below hb)
  clear hb x0 x1 x2 x3 x4 HX HX3 HX4 HB1 HB2 HB3 HB4 Q1 Q2 Q3
  go_upto_if 75 with fail
  go_cut [] (fun wx => Below w.heap.size w wx)
  case first =>
    as_aux_lemma =>
      have HBQ := HBK.out
      clear HBK
      rcases HBQ with rfl | ⟨rfl, rfl, rfl, rfl, rfl, rfl, rfl⟩
      · go_wp2_with fail
        go_meet
        exact HB5.out
      · go_wp2_with fail
        refine (Q4.out _ (HT.out.below HB5.out)).mono ?_
        rintro e w6 ⟨rfl, hb⟩
        have HB6 := Lib.hid (HB5.out.trans (hb.mono HB5.out.size))
        have hx := (HX5.out.below hb).alloc (.cells #[.int .i64 m0, .int .i64 m1, .int .i64 m2, .string m3, .bool m4] 25)
        have x0 := hx.cell (j := 0) rfl
        have x1 := hx.cell (j := 1) rfl
        have x2 := hx.cell (j := 2) rfl
        have x3 := hx.cell (j := 3) rfl
        have x4 := hx.cell (j := 4) rfl
        have HB7 : Hid (Below w.heap.size w (w6.alloc (.cells #[.int .i64 m0, .int .i64 m1, .int .i64 m2, .string m3, .bool m4] 25))) := Lib.hid (HB6.out.alloc HB6.out.size _)
        clear hb hx Q4 HX5
        go_wp2_with fail
        go_meet
        exact HB7.out
  case rest =>
    as_aux_lemma =>
      have HB7 := Lib.hid hcut
      clear hcut HBK HX5 HB5 Q4
      go_wp2_with fail
      refine (drawParsePaper_any _ _ cs _ HM.out (HR.out.below HB7.out) HZ.out).mono ?_
      rintro e w10 ⟨s, rfl, hsp, hb⟩
      have HB10 := Lib.hid (HB7.out.trans (hb.mono HB7.out.size))
      have hs1 := hsp.1
      have q5 := fun w h => implParseP_any s w (by omega) h hsp.2.not_bad
      have q6 := fun w => specParseP_any s w (by omega)
      rw [finP_eq s] at q5
      generalize finP s (specP s (splitF s 32)) = r at q5 q6
      obtain ⟨⟨p0, p1, p2, p3, p4⟩, told⟩ := r
      have Q5 := Lib.hid q5
      have Q6 := Lib.hid q6
      clear q5 q6 hb hsp hs1
      go_wp2_with fail
      refine (Q5.out _ (HT.out.below HB10.out)).mono ?_
      rintro e w11 ⟨rfl, hb⟩
      have HB11 := Lib.hid (HB10.out.trans (hb.mono HB10.out.size))
      have HX12 : Hid (RowIs (w11.alloc (.cells #[.int .i64 p0, .int .i64 p1, .int .i64 p2, .string p3, .bool p4] 25)) w11.heap.size 25 (⟨p0, p1, p2, p3, p4⟩ : PaperT).cells) := Lib.hid (RowIs.new w11 25 (⟨p0, p1, p2, p3, p4⟩ : PaperT).cells)
      have HB12 : Hid (Below w.heap.size w (w11.alloc (.cells #[.int .i64 p0, .int .i64 p1, .int .i64 p2, .string p3, .bool p4] 25))) := Lib.hid (HB11.out.alloc HB11.out.size _)
      clear hb
      go_wp2_with fail
      generalize w11.alloc (.cells #[.int .i64 p0, .int .i64 p1, .int .i64 p2, .string p3, .bool p4] 25) = w12 at *
      refine (Q6.out _).mono ?_
      rintro e w13 ⟨rfl, hb⟩
      have HB13 := Lib.hid (HB12.out.trans (hb.mono HB12.out.size))
      have HB14 : Hid (Below w.heap.size w (w13.alloc (.cells #[.int .i64 p0, .int .i64 p1, .int .i64 p2, .string p3, .bool p4] 25))) := Lib.hid (HB13.out.alloc HB13.out.size _)
      have hx := (HX12.out.below hb).alloc (.cells #[.int .i64 p0, .int .i64 p1, .int .i64 p2, .string p3, .bool p4] 25)
      have x0 := hx.cell (j := 0) rfl
      have x1 := hx.cell (j := 1) rfl
      have x2 := hx.cell (j := 2) rfl
      have x3 := hx.cell (j := 3) rfl
      have x4 := hx.cell (j := 4) rfl
      clear hb hx HB10 HB11 HB12 HX12 HB13 Q5 Q6
      go_wp2_with fail
      clear x0 x1 x2 x3 x4
      generalize w13.alloc (.cells #[.int .i64 p0, .int .i64 p1, .int .i64 p2, .string p3, .bool p4] 25) = w14 at *
      refine (drawMatchPapers_any _ _ cs _ HM.out (HR.out.below HB14.out) HZ.out).mono ?_
      rintro e w15 ⟨la, lc, zs, th, off, tint, rfl, hld⟩
      have HB15 := Lib.hid (HB14.out.trans (hld.2.2.2.mono HB14.out.size))
      have hl13 := hld.1
      have HLR := Lib.hid hld.reads
      have HLF := Lib.hid hld.fits
      obtain ⟨tm, htm⟩ : ∃ tm, tm = mAsk zs th off tint := ⟨_, rfl⟩
      obtain ⟨L, hL⟩ : ∃ L, L = (if mAsk zs th off tint = true then idsOfPaper (mTest th off tint) zs else []) := ⟨_, rfl⟩
      have q1 := fun w hr => implMatchP_any la lc zs th off tint w (by unfold maxLen; omega) hr HLF.out
      have q2 := fun w hr => specMatchP_any la lc zs th off tint w (by unfold maxLen; omega) hr HLF.out
      rw [← hL, ← htm] at q1 q2
      have hl2 : L.length ≤ 13 := by
        rw [hL]; split
        · exact Nat.le_trans (ids_len _ _) hl13
        · simp
      have HOK : Hid (tm = true → papersOk zs = true ∧ (1 ≤ th ∧ th ≤ 300) ∧ (0 ≤ off ∧ off ≤ 50) ∧ L = idsOfPaper (mTest th off tint) zs) := Lib.hid (fun h => by
        rw [htm] at h
        have hp := mAsk_parts h
        exact ⟨hp.1, hp.2.1, hp.2.2.1, by rw [hL, if_pos h]⟩)
      have Q1 := Lib.hid q1
      have Q2 := Lib.hid q2
      clear q1 q2 hld hL htm
      go_wp2_with fail
      refine (Q1.out _ HLR.out).mono ?_
      rintro e w16 ⟨ia, ic, rfl, hown, hb⟩
      have HB16 := Lib.hid (HB15.out.trans (hb.mono HB15.out.size))
      have HLR16 := Lib.hid (HLR.out.below hb)
      have HI16 := Lib.hid hown
      clear hown hb
      go_wp2_with fail
      refine (Q2.out _ HLR16.out).mono ?_
      rintro e w17 ⟨ja, jc, rfl, hown, hb⟩
      have HB17 := Lib.hid (HB16.out.trans (hb.mono HB16.out.size))
      have HI17 := Lib.hid (own_below HI16.out hb)
      have HLR17 := Lib.hid (HLR16.out.below hb)
      have HQ : Hid (Calls Tryz.prog 15 #[.slice ia L.length ic, .slice ja L.length jc] w17 fun e w' => e = .returned (.bool true) ∧ Dr w17 w') := Lib.hid (by
        have := rInts_any ia ja ic jc L L w17 (by unfold maxLen; omega) (by unfold maxLen; omega) (own_reads HI17.out) (own_reads hown)
        simpa using this)
      clear hown hb
      go_wp2_with fail
      refine HQ.out.mono ?_
      rintro e w18 ⟨rfl, hd⟩
      have HB18 := Lib.hid (HB17.out.trans (hd.below _))
      have HIR := Lib.hid (own_reads (own_dr HI17.out hd))
      have HLR18 := Lib.hid (HLR17.out.below (hd.below _))
      clear hd HQ HI16 HI17 HLR HLR16 HLR17 HB14 HB15 HB16 HB17 Q1 Q2
      go_upto_block 0 with fail
      go_cut [] (fun wx => w18 = wx)
      case first =>
        as_aux_lemma =>
          go_wp2_with fail
          go_loopw [23] (fun i wr => ∃ k : Nat, k ≤ zs.length ∧ i = .int .i64 k ∧ w18 = wr) (fun i _ => zs.length - (intOf i).toNat)
          case atStart => exact ⟨0, Nat.zero_le _, rfl, rfl⟩
          case round =>
            as_aux_lemma =>
              obtain ⟨k, hk, rfl, rfl⟩ := hrel
              by_cases hgo : k < zs.length ∧ tm = true
              · obtain ⟨hlt, rfl⟩ := hgo
                obtain ⟨hpo, hth, hoff, hLe⟩ := HOK.out rfl
                rcases HLR18.out with h0 | ⟨b, ofs, hla, hb2, hc⟩
                · have := papers_length zs; rw [h0] at this; simp at this; omega
                subst hla
                obtain ⟨g0, g1, g2, g3, g4⟩ := papers_get hlt
                have hc0 := hc _ _ g0
                have hc1 := hc _ _ g1
                have hc2 := hc _ _ g2
                simp only [← Nat.add_assoc] at hc1 hc2
                have hin := in_ids hpo (mTest th off tint) hlt
                rw [← hLe, mTest_eq] at hin
                have hbd := paperOk_thick (papersOk_at hpo hlt)
                have HH := fun w hx => rHas_any ia ic L zs[k].id w (by unfold maxLen; omega) hx
                generalize zs[k] = z at *
                obtain ⟨z0, z1, z2, z3, z4⟩ := z
                simp only at hc0 hc1 hc2 hin hbd HH
                rw [hin] at HH
                have HHH := Lib.hid HH
                clear hc g0 g1 g2 g3 g4 hin HH hLe hpo
                have s1 : IntKind.i64.wrap (z1 - th) = z1 - th := IntWalk.i64_in _ (by omega)
                have s2 : IntKind.i64.wrap (th - z1) = th - z1 := IntWalk.i64_in _ (by omega)
                cases b1 : decide (z1 - th ≤ off)
                · skip
                  have HV := HHH.out
                  simp only [b1, Bool.false_and] at HV
                  have HVH := Lib.hid HV
                  clear HV HHH
                  go_wp2_with fail
                  refine (HVH.out _ HIR.out).mono ?_
                  rintro e _ ⟨rfl, rfl⟩
                  go_wp2_with fail
                  go_roundw
                  case rel => exact ⟨k + 1, by omega, by go_num, trivial⟩
                  case measure => simp [intOf]; omega
                cases b2 : decide (th - z1 ≤ off)
                · skip
                  have HV := HHH.out
                  simp only [b1, b2, Bool.and_false, Bool.false_and] at HV
                  have HVH := Lib.hid HV
                  clear HV HHH
                  go_wp2_with fail
                  refine (HVH.out _ HIR.out).mono ?_
                  rintro e _ ⟨rfl, rfl⟩
                  go_wp2_with fail
                  go_roundw
                  case rel => exact ⟨k + 1, by omega, by go_num, trivial⟩
                  case measure => simp [intOf]; omega
                cases b3 : (tint == -1)
                rotate_left
                · skip
                  have HV := HHH.out
                  simp only [b1, b2, b3, Bool.true_and, Bool.true_or] at HV
                  have HVH := Lib.hid HV
                  clear HV HHH
                  go_wp2_with fail
                  refine (HVH.out _ HIR.out).mono ?_
                  rintro e _ ⟨rfl, rfl⟩
                  go_wp2_with fail
                  go_roundw
                  case rel => exact ⟨k + 1, by omega, by go_num, trivial⟩
                  case measure => simp [intOf]; omega
                cases b4 : (tint == z2)
                · skip
                  have HV := HHH.out
                  simp only [b1, b2, b3, b4, Bool.and_false, Bool.or_false] at HV
                  have HVH := Lib.hid HV
                  clear HV HHH
                  go_wp2_with fail
                  refine (HVH.out _ HIR.out).mono ?_
                  rintro e _ ⟨rfl, rfl⟩
                  go_wp2_with fail
                  go_roundw
                  case rel => exact ⟨k + 1, by omega, by go_num, trivial⟩
                  case measure => simp [intOf]; omega
                · skip
                  have HV := HHH.out
                  simp only [b1, b2, b3, b4, Bool.true_and, Bool.or_true] at HV
                  have HVH := Lib.hid HV
                  clear HV HHH
                  go_wp2_with fail
                  refine (HVH.out _ HIR.out).mono ?_
                  rintro e _ ⟨rfl, rfl⟩
                  go_wp2_with fail
                  go_roundw
                  case rel => exact ⟨k + 1, by omega, by go_num, trivial⟩
                  case measure => simp [intOf]; omega
              · have hex : ¬ k < zs.length ∨ (k < zs.length ∧ tm = false) := by
                  by_cases h : k < zs.length
                  · right; refine ⟨h, ?_⟩; cases tm; rfl; exact absurd ⟨h, rfl⟩ hgo
                  · exact .inl h
                clear hgo HOK
                rcases hex with hex | ⟨hex, rfl⟩
                all_goals
                  clear hk
                  go_wp2_with fail
                  go_meet
                  rfl
      case rest =>
        as_aux_lemma =>
          obtain rfl := hcut
          clear HOK
          go_wp2_with fail
          refine (drawNearestPaper_any _ _ cs _ HM.out (HR.out.below HB18.out) HZ.out).mono ?_
          rintro e w19 ⟨ra, rc, ls, nn, rfl, hld⟩
          have HB19 := Lib.hid (HB18.out.trans (hld.2.2.2.mono HB18.out.size))
          have HLR19 := Lib.hid (HLR18.out.below hld.2.2.2)
          have hr13 := hld.1
          have HRR := Lib.hid hld.reads
          have HRF := Lib.hid hld.fits
          obtain ⟨F, hF⟩ : ∃ F, F = nearF ls nn := ⟨_, rfl⟩
          have q1 := fun w hr => implNear_any ra rc ls nn w (by unfold maxLen; omega) hr HRF.out
          have q2 := fun w hr => specNear_any ra rc ls nn w (by unfold maxLen; omega) hr HRF.out
          rw [← hF] at q1 q2
          obtain ⟨best, least, kn⟩ := F
          simp only at q1 q2
          have HNE : Hid (kn = true → papersOk ls = true ∧ (1 ≤ nn ∧ nn ≤ 300) ∧ (0 ≤ least ∧ least ≤ 301) ∧ ∀ i (hi : i < ls.length), ¬ (ls[i].thick - nn < least ∧ nn - ls[i].thick < least)) := Lib.hid (fun h => by
            rw [nearF] at hF
            split at hF
            · rename_i hask
              injection hF with _ hF
              injection hF with hF _
              have hp := near_parts hask
              have hbd := nearTo_bd ls nn hp.1 hp.2.1 hp.2.2 ls.length (Nat.le_refl _)
              rw [hF]
              exact ⟨hp.1, hp.2, ⟨hbd.1, hbd.2.1⟩, fun i hi => near_no hi⟩
            · injection hF with _ hF
              injection hF with _ hF
              rw [hF] at h; cases h)
          have Q1 := Lib.hid q1
          have Q2 := Lib.hid q2
          clear q1 q2 hld hF
          go_wp2_with fail
          refine (Q1.out _ HRR.out).mono ?_
          rintro e w20 ⟨rfl, hb⟩
          have HB20 := Lib.hid (HB19.out.trans (hb.mono HB19.out.size))
          have HLR20 := Lib.hid (HLR19.out.below hb)
          have HRR20 := Lib.hid (HRR.out.below hb)
          clear hb
          go_wp2_with fail
          refine (Q2.out _ HRR20.out).mono ?_
          rintro e w21 ⟨rfl, hb⟩
          have HB21 := Lib.hid (HB20.out.trans (hb.mono HB20.out.size))
          have HLR21 := Lib.hid (HLR20.out.below hb)
          have HRR21 := Lib.hid (HRR20.out.below hb)
          clear hb HB18 HB19 HB20 HLR18 HLR19 HLR20 HRR HRR20 Q1 Q2 HIR
          go_upto_block 2 with fail
          go_cut [] (fun wx => w21 = wx)
          case first =>
            as_aux_lemma =>
              go_wp2_with fail
              go_loopw [33] (fun i wr => ∃ k : Nat, k ≤ ls.length ∧ i = .int .i64 k ∧ w21 = wr) (fun i _ => ls.length - (intOf i).toNat)
              case atStart => exact ⟨0, Nat.zero_le _, rfl, rfl⟩
              case round =>
                as_aux_lemma =>
                  obtain ⟨k, hk, rfl, rfl⟩ := hrel
                  by_cases hgo : k < ls.length ∧ kn = true
                  · obtain ⟨hlt, rfl⟩ := hgo
                    obtain ⟨hpo, hth, hlb, hno⟩ := HNE.out rfl
                    rcases HRR21.out with h0 | ⟨b, ofs, hra, hb2, hc⟩
                    · have := papers_length ls; rw [h0] at this; simp at this; omega
                    subst hra
                    have hc1 := hc _ _ (papers_get hlt).2.1
                    simp only [← Nat.add_assoc] at hc1
                    have hno2 := hno k hlt
                    have hbd := paperOk_thick (papersOk_at hpo hlt)
                    clear hno
                    generalize ls[k] = z at *
                    obtain ⟨z0, z1, z2, z3, z4⟩ := z
                    simp only at hc1 hno2 hbd
                    clear hc hpo
                    have s1 : IntKind.i64.wrap (z1 - nn) = z1 - nn := IntWalk.i64_in _ (by omega)
                    have s2 : IntKind.i64.wrap (nn - z1) = nn - z1 := IntWalk.i64_in _ (by omega)
                    cases b1 : decide (z1 - nn < least)
                    · skip
                      clear hno2
                      go_wp2_with fail
                      go_roundw
                      case rel => exact ⟨k + 1, by omega, by go_num, trivial⟩
                      case measure => simp [intOf]; omega
                    · have b2 : decide (nn - z1 < least) = false := by rw [decide_eq_false_iff_not]; rw [decide_eq_true_eq] at b1; omega
                      clear hno2
                      go_wp2_with fail
                      go_roundw
                      case rel => exact ⟨k + 1, by omega, by go_num, trivial⟩
                      case measure => simp [intOf]; omega
                  · have hex : ¬ k < ls.length ∨ (k < ls.length ∧ kn = false) := by
                      by_cases h : k < ls.length
                      · right; refine ⟨h, ?_⟩; cases kn; rfl; exact absurd ⟨h, rfl⟩ hgo
                      · exact .inl h
                    clear hgo HNE
                    rcases hex with hex | ⟨hex, rfl⟩
                    all_goals
                      clear hk
                      go_wp2_with fail
                      go_meet
                      rfl
          case rest =>
            as_aux_lemma =>
              obtain rfl := hcut
              clear HNE
              obtain ⟨nm, hnm⟩ : ∃ nm, nm = namR ls := ⟨_, rfl⟩
              obtain ⟨pk, hpk⟩ : ∃ pk, pk = papersOk ls := ⟨_, rfl⟩
              have q3 := fun w hr => implNames_any ra rc ls w (by unfold maxLen; omega) hr HRF.out
              have q4 := fun w hr => specNames_any ra rc ls w (by unfold maxLen; omega) hr HRF.out
              rw [← hnm, ← hpk] at q3 q4
              have hnl : nm.length ≤ 10 := by rw [hnm]; exact namR_len ls
              have HNM : Hid (∀ i (hi : i < nm.length), wAsk ls nm[i] = true ∧ 0 < (idsOfPaper (wTest nm[i]) ls).length ∧ nm[i].size ≤ 1048576) := Lib.hid (fun i hi => by
                have hm : nm[i] ∈ namR ls := by rw [← hnm]; exact List.getElem_mem hi
                have hpo : papersOk ls = true := by
                  cases h : papersOk ls
                  · rw [namR, h] at hm; simp at hm
                  · rfl
                have h2 := names_of hpo hm
                refine ⟨h2.1, h2.2, ?_⟩
                have h3 := h2.1
                simp only [wAsk, Bool.and_eq_true, Bool.or_eq_true] at h3
                rcases h3.2 with h4 | h4
                · rw [empty_of h4]; decide
                · have := (word_in h4).2; omega)
              have Q3 := Lib.hid q3
              have Q4 := Lib.hid q4
              clear q3 q4 hnm hpk
              go_wp2_with fail
              refine (Q3.out _ HRR21.out).mono ?_
              rintro e w22 ⟨na, nc, rfl, hown, hb⟩
              have HB22 := Lib.hid (HB21.out.trans (hb.mono HB21.out.size))
              have HLR22 := Lib.hid (HLR21.out.below hb)
              have HRR22 := Lib.hid (HRR21.out.below hb)
              have HN22 := Lib.hid hown
              clear hown hb
              go_wp2_with fail
              refine (Q4.out _ HRR22.out).mono ?_
              rintro e w23 ⟨ta, tc, rfl, hown, hb⟩
              have HB23 := Lib.hid (HB22.out.trans (hb.mono HB22.out.size))
              have HLR23 := Lib.hid (HLR22.out.below hb)
              have HRR23 := Lib.hid (HRR22.out.below hb)
              have HN23 := Lib.hid (own_below HN22.out hb)
              have HQ : Hid (Calls Tryz.prog 22 #[.slice na nm.length nc, .slice ta nm.length tc] w23 fun e w' => e = .returned (.bool true) ∧ Dr w23 w') := Lib.hid (by
                have := rTexts_any na ta nc tc nm nm w23 (by unfold maxLen; omega) (by unfold maxLen; omega) (own_reads HN23.out) (own_reads hown)
                simpa using this)
              clear hown hb
              go_wp2_with fail
              refine HQ.out.mono ?_
              rintro e w24 ⟨rfl, hd⟩
              have HB24 := Lib.hid (HB23.out.trans (hd.below _))
              have HLR24 := Lib.hid (HLR23.out.below (hd.below _))
              have HRR24 := Lib.hid (HRR23.out.below (hd.below _))
              have HNR24 := Lib.hid (own_reads (own_dr HN23.out hd))
              clear hd HQ HN22 HN23 HRR21 HRR22 HRR23 HLR21 HLR22 HLR23 HB21 HB22 HB23 Q3 Q4
              go_wp2_with fail
              go_loopw [38] (fun i wr => ∃ k : Nat, k ≤ nm.length ∧ i = .int .i64 k ∧ Below w24.heap.size w24 wr) (fun i _ => nm.length - (intOf i).toNat)
              case atStart => exact ⟨0, Nat.zero_le _, rfl, Below.refl _ _⟩
              case round =>
                as_aux_lemma =>
                  obtain ⟨k, hk, rfl, hbel⟩ := hrel
                  have HBL := Lib.hid hbel
                  clear hbel
                  by_cases hlt : k < nm.length
                  · obtain ⟨hw1, hw2, hw3⟩ := HNM.out k hlt
                    rcases HNR24.out.below HBL.out with h0 | ⟨b, ofs, hna, hb2, hc⟩
                    · simp [strs] at h0; subst h0; simp at hlt
                    subst hna
                    have hc0 := hc k _ (strs_get hlt)
                    have q5 := fun w hr => implWithP_any ra rc ls nm[k] w (by unfold maxLen; omega) hr HRF.out (by unfold maxLen; omega)
                    rw [if_pos hw1, hw1] at q5
                    obtain ⟨m, hm⟩ : ∃ m, m = nm[k] := ⟨_, rfl⟩
                    obtain ⟨I, hI⟩ : ∃ I, I = idsOfPaper (wTest nm[k]) ls := ⟨_, rfl⟩
                    rw [← hI] at q5 hw2
                    rw [← hm] at q5 hc0
                    have Q5 := Lib.hid q5
                    have hi0 : ((I.length : Int) == 0) = false := by rw [beq_eq_false_iff_ne]; omega
                    clear hc q5 hm hI hw1 hw3
                    go_wp2_with fail
                    refine (Q5.out _ (HRR24.out.below HBL.out)).mono ?_
                    rintro e w25 ⟨pa, pc, rfl, _, hb⟩
                    have HBL2 := Lib.hid (HBL.out.trans (hb.mono HBL.out.size))
                    clear hb hc0
                    go_wp2_with fail
                    go_roundw
                    case rel => exact ⟨k + 1, by omega, by go_num, HBL2.out⟩
                    case measure => simp [intOf]; omega
                  · have HB25 := Lib.hid (HB24.out.trans (HBL.out.mono HB24.out.size))
                    have HLR25 := Lib.hid (HLR24.out.below HBL.out)
                    clear HNM HNR24 HRR24 HLR24 HB24 HBL
                    go_wp2_with fail
                    refine (drawPapersWith_any _ _ cs _ HM.out (HR.out.below HB25.out) HZ.out).mono ?_
                    rintro e w26 ⟨ua, uc, us, mk, rfl, hmk, hld⟩
                    have HB26 := Lib.hid (HB25.out.trans (hld.2.2.2.mono HB25.out.size))
                    have HLR26 := Lib.hid (HLR25.out.below hld.2.2.2)
                    have hu13 := hld.1
                    have HUR := Lib.hid hld.reads
                    have HUF := Lib.hid hld.fits
                    obtain ⟨is, his⟩ : ∃ is, is = wAsk us mk := ⟨_, rfl⟩
                    obtain ⟨U, hU⟩ : ∃ U, U = (if wAsk us mk = true then idsOfPaper (wTest mk) us else []) := ⟨_, rfl⟩
                    have q1 := fun w hr => implWithP_any ua uc us mk w (by unfold maxLen; omega) hr HUF.out (by unfold maxLen; omega)
                    have q2 := fun w hr => specWithP_any ua uc us mk w (by unfold maxLen; omega) hr HUF.out (by unfold maxLen; omega)
                    have q3 := fun w hr => implArePapers_any la lc zs w (by unfold maxLen; omega) hr HLF.out
                    have q4 := fun w hr => specArePapers_any la lc zs w (by unfold maxLen; omega) hr HLF.out
                    rw [← hU, ← his] at q1 q2
                    have hu2 : U.length ≤ 13 := by
                      rw [hU]; split
                      · exact Nat.le_trans (ids_len _ _) hu13
                      · simp
                    generalize papersOk zs = zok at q3 q4
                    have Q1 := Lib.hid q1
                    have Q2 := Lib.hid q2
                    have Q3 := Lib.hid q3
                    have Q4 := Lib.hid q4
                    clear q1 q2 q3 q4 hld hU his
                    go_wp2_with fail
                    refine (Q1.out _ HUR.out).mono ?_
                    rintro e w27 ⟨va, vc, rfl, hown, hb⟩
                    have HB27 := Lib.hid (HB26.out.trans (hb.mono HB26.out.size))
                    have HLR27 := Lib.hid (HLR26.out.below hb)
                    have HUR27 := Lib.hid (HUR.out.below hb)
                    have HV27 := Lib.hid hown
                    clear hown hb
                    go_wp2_with fail
                    refine (Q2.out _ HUR27.out).mono ?_
                    rintro e w28 ⟨ya, yc, rfl, hown, hb⟩
                    have HB28 := Lib.hid (HB27.out.trans (hb.mono HB27.out.size))
                    have HLR28 := Lib.hid (HLR27.out.below hb)
                    have HQ : Hid (Calls Tryz.prog 15 #[.slice va U.length vc, .slice ya U.length yc] w28 fun e w' => e = .returned (.bool true) ∧ Dr w28 w') := Lib.hid (by
                      have := rInts_any va ya vc yc U U w28 (by unfold maxLen; omega) (by unfold maxLen; omega) (own_reads (own_below HV27.out hb)) (own_reads hown)
                      simpa using this)
                    clear hown hb
                    go_wp2_with fail
                    refine HQ.out.mono ?_
                    rintro e w29 ⟨rfl, hd⟩
                    have HB29 := Lib.hid (HB28.out.trans (hd.below _))
                    have HLR29 := Lib.hid (HLR28.out.below (hd.below _))
                    clear hd HQ
                    go_wp2_with fail
                    refine (Q3.out _ HLR29.out).mono ?_
                    rintro e w30 ⟨rfl, hb⟩
                    have HB30 := Lib.hid (HB29.out.trans (hb.mono HB29.out.size))
                    have HLR30 := Lib.hid (HLR29.out.below hb)
                    clear hb
                    go_wp2_with fail
                    refine (Q4.out _ HLR30.out).mono ?_
                    rintro e w31 ⟨rfl, hb⟩
                    have HB31 := Lib.hid (HB30.out.trans (hb.mono HB30.out.size))
                    clear hb
                    go_wp2_with fail
                    go_ret
                    exact ⟨rfl, HB31.out⟩
end Go.Proofs.YtmnlkcclcnnhmaaGreatDoor
