/- The law FnStamps, walked out of the contracts. -/
import Derived.Test.YtoomjionojfjgaaDoorCurP
import Derived.Test.YtoomjionojfjgaaDoorGridV
import Derived.Test.YtoomjionojfjgaaDoorByColor
import Derived.Test.YtoomjionojfjgaaDoorParseL
import Derived.Test.YtoomjionojfjgaaDoorErrS
namespace Go.Proofs.YtoomjionojfjgaaDoor
open Go.ChangeShapes Go.WideShapes Go.ChangeAt Go.RowKit

theorem vBig_any (a : Option Addr) (len cap : Nat) (w : World) : Calls Tryd.prog 4 #[.slice a len cap] w fun e w' => e = .returned (.bool (decide ((65536 : Int) < (len : Int)))) ∧ w = w' := by
  go_enter Tryd.func4, Tryd.ntmps4
  go_wp2_with fail
  go_ret
  exact ⟨rfl, rfl⟩
theorem implIsStamp_any (c : StampT) (w : World) :
    Calls Tryd.prog 9 #[c.val] w fun e w' => e = .returned (.bool (stampOk c)) ∧ Below w.heap.size w w' := by
  have H := Lib.hid (fun w => isStamp_any c w)
  go_enter Tryd.func9, Tryd.ntmps9
  go_wp2_with fail
  refine (H.out _).mono ?_
  rintro e w1 ⟨rfl, hb⟩
  have HB := Lib.hid hb
  clear hb
  go_wp2_with fail
  go_ret
  first
  | exact ⟨rfl, HB.out⟩
  | exact ⟨rfl, (Go.Joins.below_alloc1 _ _).trans (HB.out.mono (by simp))⟩
theorem fin_back {c : StampT} (hok : stampOk c = true) : finC (textF c) (implC (textF c)) = (c, true) := by
  rw [implC_text c hok, finC, if_pos ⟨hok, rfl⟩]
theorem fin_told {s : ByteArray} {o : Option StampT} : (finC s o = (stamp0, false)) ∨ (∃ c, finC s o = (c, true) ∧ stampOk c = true ∧ textF c = s) := by
  cases o with
  | none => exact .inl rfl
  | some c =>
    by_cases h : stampOk c = true ∧ textF c = s
    · exact .inr ⟨c, by rw [finC, if_pos h], h.1, h.2⟩
    · exact .inl (by rw [finC, if_neg h])
theorem stamps_sum (zs : List StampT) (n : Nat) : ((groupsTo zs n).map List.length).sum = (zs.filter (fun z => decide (0 ≤ z.color) && decide (z.color < (n : Int)))).length := by
  induction n with
  | zero =>
    rw [groupsTo_zero]
    symm
    simp only [List.map_nil, List.sum_nil, List.length_eq_zero_iff, List.filter_eq_nil_iff]
    intro z _
    simp
  | succ n ih =>
    have key : (zs.filter (fun z => decide (0 ≤ z.color) && decide (z.color < ((n + 1 : Nat) : Int)))).length = (zs.filter (fun z => decide (0 ≤ z.color) && decide (z.color < (n : Int)))).length + (idsOfStamp (byB n) zs).length := by
      rw [idsOfStamp, List.length_map]
      clear ih
      induction zs with
      | nil => rfl
      | cons z zs ih =>
        simp only [List.filter_cons]
        by_cases h1 : z.color = (n : Int)
        · have e1 : (decide (0 ≤ z.color) && decide (z.color < ((n + 1 : Nat) : Int))) = true := by simp; omega
          have e2 : (decide (0 ≤ z.color) && decide (z.color < (n : Int))) = false := by simp; omega
          have e3 : byB n z = true := by simp [byB, h1]
          simp only [e1, e2, e3, if_true, Bool.false_eq_true, if_false, List.length_cons]
          omega
        · have e3 : byB n z = false := by simp [byB, h1]
          by_cases h2 : 0 ≤ z.color ∧ z.color < (n : Int)
          · have e1 : (decide (0 ≤ z.color) && decide (z.color < ((n + 1 : Nat) : Int))) = true := by simp; omega
            have e2 : (decide (0 ≤ z.color) && decide (z.color < (n : Int))) = true := by simp; omega
            simp only [e1, e2, e3, if_true, Bool.false_eq_true, if_false, List.length_cons]
            omega
          · have e1 : (decide (0 ≤ z.color) && decide (z.color < ((n + 1 : Nat) : Int))) = false := by simp; omega
            have e2 : (decide (0 ≤ z.color) && decide (z.color < (n : Int))) = false := by simp; omega
            simp only [e1, e2, e3, Bool.false_eq_true, if_false]
            omega
    rw [key, ← ih]
    by_cases h : (idsOfStamp (byB n) zs).length = 0
    · rw [groupsTo_no h]; omega
    · rw [groupsTo_yes (by omega), List.map_append, List.sum_append]; simp
theorem offs_sum (rs : List Row2) : offs rs rs.length = ((zss rs).map List.length).sum := by
  simp [offs, zss, Function.comp_def]
theorem stamps_all {zs : List StampT} (h : stampsOk zs = true) : ((groupsTo zs 100).map List.length).sum = zs.length := by
  rw [stamps_sum, List.filter_eq_self.2]
  intro z hz
  obtain ⟨k, hk, rfl⟩ := List.getElem_of_mem hz
  have := (textIn_of (stampsOk_at h hk)).k
  simp
  omega
set_option maxRecDepth 100000 in
set_option maxHeartbeats 40000000 in
theorem FnStamps_walk {w : World} (HL : laidMet Tryd.prog Rows.fnStampsRow.laid w) (hsh : w.ShapedOpen Tryd.prog) (x : Slc × List Int) (h : BytesIn w x.1 x.2) : Calls Tryd.prog 3 #[x.1.val] w fun e w' => e = .returned (.bool true) ∧ Below w.heap.size w w' := by
  have HT := Lib.hid (show Tabs w from ⟨powTab_of HL, by first | exact err_range_of HL | exact err_range_4 HL, by first | exact err_second_of HL | exact err_second_5 HL, maxCell_of hsh⟩)
  clear HL hsh
  obtain ⟨⟨ad, len, cap⟩, cs⟩ := x
  obtain ⟨hs, hm, hr, hz⟩ := h
  simp only at hs hm hr hz
  subst hs
  have HR := Lib.hid hr
  have HM := Lib.hid hm
  have HZ := Lib.hid hz
  have hR := fun w => vBig_any ad cs.length cap w
  clear hr hz
  by_cases hbig : (65536 : Int) < (cs.length : Int)
  · rw [decide_eq_true hbig] at hR
    have HRB := Lib.hid hR
    clear hR hm hbig
    go_enter Tryd.func3, Tryd.ntmps3
    go_wp2_with fail
    refine (HRB.out _).mono ?_
    rintro e _ ⟨rfl, rfl⟩
    go_wp2_with fail
    go_ret
    exact ⟨rfl, Below.refl _ _⟩
  rw [decide_eq_false hbig] at hR
  have HRB := Lib.hid hR
  have HB0 := Lib.hid (Below.refl w.heap.size w)
  clear hR hm hbig
  go_enter Tryd.func3, Tryd.ntmps3
  go_wp2_with fail
  refine (HRB.out _).mono ?_
  rintro e _ ⟨rfl, rfl⟩
  go_wp2_with fail
  refine (drawStampText_any _ _ cs _ HM.out HR.out HZ.out).mono ?_
  rintro e w1 ⟨c, rfl, hb⟩
  obtain ⟨sx, hsx⟩ : ∃ sx, sx = (if stampOk c = true then textF c else .empty) := ⟨_, rfl⟩
  obtain ⟨ok, hok⟩ : ∃ ok, ok = stampOk c := ⟨_, rfl⟩
  have q1 := fun w h => implStampText_any c w h
  have q2 := fun w => specStampText_any c w
  have q3 := fun w => implIsStamp_any c w
  have hsz : sx.size ≤ 1000 := by
    rw [hsx]; split
    · rename_i h; exact (textF_bd h).2
    · decide
  obtain ⟨bk, hbk⟩ : ∃ bk, bk = finC sx (implC sx) := ⟨_, rfl⟩
  have hback : ok = true → bk = (c, true) := fun h => by
    rw [hok] at h; rw [hbk, hsx, if_pos h]; exact fin_back h
  have q4 := fun w h => implParseStamp_any sx w (by omega) h
  rw [← hsx, ← hok] at q1 q2
  rw [← hok] at q3
  rw [← hbk] at q4
  clear hsx hok hbk hsz
  obtain ⟨n0, n1, n2, n3⟩ := c
  obtain ⟨⟨m0, m1, m2, m3⟩, bb⟩ := bk
  have Q1 := Lib.hid q1
  have Q2 := Lib.hid q2
  have Q3 := Lib.hid q3
  have Q4 := Lib.hid q4
  have HBK : Hid (ok = false ∨ (ok = true ∧ m0 = n0 ∧ m1 = n1 ∧ m2 = n2 ∧ m3 = n3 ∧ bb = true)) := Lib.hid (by
    cases ok
    · exact .inl rfl
    · have := hback rfl
      simp at this
      exact .inr ⟨rfl, this.1.1, this.1.2.1, this.1.2.2.1, this.1.2.2.2, this.2⟩)
  have HB1 := Lib.hid (HB0.out.trans (hb.mono HB0.out.size))
  have HX : Hid (RowIs (w1.alloc (.cells #[.int .i64 n0, .int .i64 n1, .int .i64 n2, .int .i64 n3] 25)) w1.heap.size 25 (⟨n0, n1, n2, n3⟩ : StampT).cells) := Lib.hid (RowIs.new w1 25 (⟨n0, n1, n2, n3⟩ : StampT).cells)
  have HB2 : Hid (Below w.heap.size w (w1.alloc (.cells #[.int .i64 n0, .int .i64 n1, .int .i64 n2, .int .i64 n3] 25))) := Lib.hid (HB1.out.alloc HB1.out.size _)
  clear q1 q2 q3 q4 hb hback
  go_wp2_with fail
  generalize w1.alloc (.cells #[.int .i64 n0, .int .i64 n1, .int .i64 n2, .int .i64 n3] 25) = w2 at *
  refine (Q1.out _ (HT.out.below HB2.out).pow).mono ?_
  rintro e w3 ⟨rfl, hb⟩
  have HB3 := Lib.hid (HB2.out.trans (hb.mono HB2.out.size))
  have HX3 := Lib.hid (HX.out.below hb)
  clear hb
  go_wp2_with fail
  refine (Q4.out _ (HT.out.below HB3.out)).mono ?_
  rintro e w4 ⟨rfl, hb⟩
  have HB4 := Lib.hid (HB3.out.trans (hb.mono HB3.out.size))
  have hx := (HX3.out.below hb).alloc (.cells #[.int .i64 m0, .int .i64 m1, .int .i64 m2, .int .i64 m3] 25)
  have HX5 := Lib.hid hx
  have HY5 : Hid (RowIs (w4.alloc (.cells #[.int .i64 m0, .int .i64 m1, .int .i64 m2, .int .i64 m3] 25)) w4.heap.size 25 (⟨m0, m1, m2, m3⟩ : StampT).cells) := Lib.hid (RowIs.new w4 25 (⟨m0, m1, m2, m3⟩ : StampT).cells)
  have HB5 : Hid (Below w.heap.size w (w4.alloc (.cells #[.int .i64 m0, .int .i64 m1, .int .i64 m2, .int .i64 m3] 25))) := Lib.hid (HB4.out.alloc HB4.out.size _)
  have x0 := hx.cell (j := 0) rfl
  have x1 := hx.cell (j := 1) rfl
  have x2 := hx.cell (j := 2) rfl
  have x3 := hx.cell (j := 3) rfl
  clear hb hx
  go_wp2_with fail
  generalize w4.alloc (.cells #[.int .i64 m0, .int .i64 m1, .int .i64 m2, .int .i64 m3] 25) = w5 at *
  refine (Q2.out _).mono ?_
  rintro e w6 ⟨rfl, hb⟩
  have HB6 := Lib.hid (HB5.out.trans (hb.mono HB5.out.size))
  have HX6 := Lib.hid (HX5.out.below hb)
  have HY6 := Lib.hid (HY5.out.below hb)
  clear hb x0 x1 x2 x3
  have x0 := HX6.out.cell (j := 0) rfl
  have x1 := HX6.out.cell (j := 1) rfl
  have x2 := HX6.out.cell (j := 2) rfl
  have x3 := HX6.out.cell (j := 3) rfl
  go_wp2_with fail
  refine (Q3.out _).mono ?_
  rintro e w7 ⟨rfl, hb⟩
  have HB7 := Lib.hid (HB6.out.trans (hb.mono HB6.out.size))
  have HX7 := HX6.out.below hb
  have HY7 := HY6.out.below hb
  clear hb x0 x1 x2 x3
  have x0 := HX7.cell (j := 0) rfl
  have x1 := HX7.cell (j := 1) rfl
  have x2 := HX7.cell (j := 2) rfl
  have x3 := HX7.cell (j := 3) rfl
  have y0 := HY7.cell (j := 0) rfl
  have y1 := HY7.cell (j := 1) rfl
  have y2 := HY7.cell (j := 2) rfl
  have y3 := HY7.cell (j := 3) rfl
  clear HX7 HY7 HX HX3 HX5 HX6 HY5 HY6 HB2 HB3 HB4 HB5 HB6 HB1 Q1 Q2 Q3 Q4
  have HBQ := HBK.out
  clear HBK
  rcases HBQ with rfl | ⟨rfl, rfl, rfl, rfl, rfl, rfl⟩
  all_goals
    go_wp2_with fail
    refine (drawParseStamp_any _ _ cs _ HM.out (HR.out.below HB7.out) HZ.out).mono ?_
    rintro e w8 ⟨s, rfl, hss, hb⟩
    have q5 := fun w h => implParseStamp_any s w (by omega) h
    have q6 := fun w => specParseStamp_any s w (by omega)
    rw [fin_eq s] at q5
    have htold := fin_told (s := s) (o := specC s)
    generalize finC s (specC s) = r at q5 q6 htold
    obtain ⟨⟨p0, p1, p2, p3⟩, told⟩ := r
    have q7 := fun w h => implStampText_any ⟨p0, p1, p2, p3⟩ w h
    obtain ⟨sy, hsy⟩ : ∃ sy, sy = (if stampOk ⟨p0, p1, p2, p3⟩ = true then textF ⟨p0, p1, p2, p3⟩ else .empty) := ⟨_, rfl⟩
    obtain ⟨oky, hoky⟩ : ∃ oky, oky = stampOk ⟨p0, p1, p2, p3⟩ := ⟨_, rfl⟩
    have H8 : Hid (told = false ∨ (told = true ∧ oky = true ∧ sy = s)) := Lib.hid (by
      rcases htold with h | ⟨c, h, h1, h2⟩
      · injection h with _ h; exact .inl h
      · injection h with h h3
        rw [← h] at h1 h2
        exact .inr ⟨h3, by rw [hoky, h1], by rw [hsy, if_pos h1, h2]⟩)
    rw [← hsy, ← hoky] at q7
    have Q5 := Lib.hid q5
    have Q6 := Lib.hid q6
    have Q7 := Lib.hid q7
    have HB8 := Lib.hid (HB7.out.trans (hb.mono HB7.out.size))
    clear q5 q6 q7 hb htold hsy hoky hss x0 x1 x2 x3 y0 y1 y2 y3
    go_wp2_with fail
    refine (Q5.out _ (HT.out.below HB8.out)).mono ?_
    rintro e w9 ⟨rfl, hb⟩
    have HB9 := Lib.hid (HB8.out.trans (hb.mono HB8.out.size))
    have HB10 : Hid (Below w.heap.size w (w9.alloc (.cells #[.int .i64 p0, .int .i64 p1, .int .i64 p2, .int .i64 p3] 25))) := Lib.hid (HB9.out.alloc HB9.out.size _)
    have HX : Hid (RowIs (w9.alloc (.cells #[.int .i64 p0, .int .i64 p1, .int .i64 p2, .int .i64 p3] 25)) w9.heap.size 25 (⟨p0, p1, p2, p3⟩ : StampT).cells) := Lib.hid (RowIs.new w9 25 (⟨p0, p1, p2, p3⟩ : StampT).cells)
    clear hb
    go_wp2_with fail
    generalize w9.alloc (.cells #[.int .i64 p0, .int .i64 p1, .int .i64 p2, .int .i64 p3] 25) = w10 at *
    refine (Q7.out _ (HT.out.below HB10.out).pow).mono ?_
    rintro e w11 ⟨rfl, hb⟩
    have HB11 := Lib.hid (HB10.out.trans (hb.mono HB10.out.size))
    have HX11 := Lib.hid (HX.out.below hb)
    clear hb
    go_wp2_with fail
    refine (Q6.out _).mono ?_
    rintro e w12 ⟨rfl, hb⟩
    have HB12 := Lib.hid (HB11.out.trans (hb.mono HB11.out.size))
    have HB13 : Hid (Below w.heap.size w (w12.alloc (.cells #[.int .i64 p0, .int .i64 p1, .int .i64 p2, .int .i64 p3] 25))) := Lib.hid (HB12.out.alloc HB12.out.size _)
    have hx := (HX11.out.below hb).alloc (.cells #[.int .i64 p0, .int .i64 p1, .int .i64 p2, .int .i64 p3] 25)
    have x0 := hx.cell (j := 0) rfl
    have x1 := hx.cell (j := 1) rfl
    have x2 := hx.cell (j := 2) rfl
    have x3 := hx.cell (j := 3) rfl
    clear hb hx
    have H8Q := H8.out
    clear H8 HX HX11 Q5 Q6 Q7 HB7 HB8 HB9 HB10 HB11 HB12
    rcases H8Q with rfl | ⟨rfl, rfl, rfl⟩
    all_goals
      go_wp2_with fail
      refine (drawByColor_any _ _ cs _ HM.out (HR.out.below HB13.out) HZ.out).mono ?_
      rintro e w14 ⟨la, lc, zs, rfl, hld⟩
      have HL13 := hld.1
      have HLR := Lib.hid hld.reads
      have HB14 := Lib.hid (HB13.out.trans (hld.2.2.mono HB13.out.size))
      obtain ⟨fine, hfine⟩ : ∃ fine, fine = stampsOk zs := ⟨_, rfl⟩
      obtain ⟨L, hL⟩ : ∃ L, L = (if fine = true then groupsTo zs 100 else []) := ⟨_, rfl⟩
      have q8 := fun w hr => implColor_any la lc zs w (by unfold maxLen; omega) hr
      have q9 := fun w hr => specColor_any la lc zs w (by unfold maxLen; omega) hr
      rw [← hfine, ← hL] at q8 q9
      have HSUM : Hid (fine = true → (L.map List.length).sum = zs.length) := Lib.hid (fun h => by rw [hL, if_pos h]; exact stamps_all (hfine.symm.trans h))
      have HLL : Hid (L.length ≤ 100 ∧ ∀ l ∈ L, l.length ≤ 13) := Lib.hid (by
        rw [hL]; split
        · exact ⟨groupsTo_len _ _, fun l hl => Nat.le_trans (groupsTo_in hl) HL13⟩
        · simp)
      have Q8 := Lib.hid q8
      have Q9 := Lib.hid q9
      clear q8 q9 hld hfine hL x0 x1 x2 x3
      go_wp2_with fail
      refine (Q8.out _ HLR.out).mono ?_
      rintro e w15 ⟨ga, gc, rs, rfl, hrs, hown, hb⟩
      have HB15 := Lib.hid (HB14.out.trans (hb.mono HB14.out.size))
      have HLR15 := Lib.hid (HLR.out.below hb)
      have HO15 := Lib.hid hown
      have HRS := Lib.hid hrs
      clear hrs hown hb
      go_wp2_with fail
      refine (Q9.out _ HLR15.out).mono ?_
      rintro e w16 ⟨ta, tc, ts, rfl, hts, hown, hb⟩
      have HB16 := Lib.hid (HB15.out.trans (hb.mono HB15.out.size))
      have HO16 := Lib.hid (HO15.out.below hb)
      have HT16 := Lib.hid hown
      have hlr : rs.length ≤ 100 := by have := HLL.out.1; rw [← HRS.out] at this; simpa [zss] using this
      have HMR : Hid (∀ r ∈ rs, r.zs.length ≤ 13) := Lib.hid (fun r hr => HLL.out.2 _ (by rw [← HRS.out]; exact List.mem_map_of_mem hr))
      have HQ : Hid (Calls Tryd.prog 15 #[.slice ga rs.length gc, .slice ta ts.length tc] w16 fun e w' => e = .returned (.bool true) ∧ Dr w16 w') := Lib.hid (vGrid_any ga ta gc tc _ _ rs ts w16 (by omega) (fun r hr => Nat.le_trans (HMR.out r hr) (by omega)) (HRS.out.trans hts.symm) HO16.out HT16.out)
      have HTOT : Hid (fine = true → offs rs rs.length = zs.length) := Lib.hid (fun h => by rw [offs_sum, HRS.out]; exact HSUM.out h)
      have HMON := Lib.hid (fun j (hj : j ≤ rs.length) => offs_mono rs hj (Nat.le_refl _))
      clear hts hown hb
      go_wp2_with fail
      refine HQ.out.mono ?_
      rintro e w17 ⟨rfl, hd⟩
      have HB17 := Lib.hid (HB16.out.trans (hd.below _))
      have HO17 := Lib.hid (HO16.out.dr hd)
      clear hd HQ Q8 Q9 HLR HLR15 HO15 HT16 HO16 HB13 HB14 HB15 HB16 HSUM HLL HRS HMR
      have HZL := HL13
      cases fine
      rotate_left
      · have htot := HTOT.out rfl
        go_wp2_with fail
        go_loopw [22, 23] (fun n i wr => ∃ k : Nat, k ≤ rs.length ∧ n = .int .i64 (offs rs k : Int) ∧ i = .int .i64 k ∧ w17 = wr) (fun _ i _ => rs.length - (intOf i).toNat)
        case atStart => exact ⟨0, Nat.zero_le _, by rw [offs_zero]; rfl, rfl, rfl⟩
        case round =>
          obtain ⟨k, hk, rfl, rfl, rfl⟩ := hrel
          have hmon := HMON.out k hk
          by_cases hlt : k < rs.length
          · have hx := HO17.out
            obtain ⟨g1, rfl, _, _⟩ := own_form hx.outer (by omega)
            have c1 := hx.outer.cellAt k (by omega)
            rw [rows2_get hlt] at c1
            have hoff := offs_succ hlt
            have hmon2 := HMON.out (k + 1) hlt
            obtain ⟨r, hr⟩ : ∃ r, r = rs[k] := ⟨_, rfl⟩
            rw [← hr] at c1 hoff
            obtain ⟨ra, rc, rz⟩ := r
            simp only at hoff
            have HOF := Lib.hid hoff
            rw [hoff] at hmon2
            clear hx hr hoff
            go_wp2_with fail
            go_roundw
            case rel => exact ⟨k + 1, by omega, by rw [HOF.out]; go_num, by go_num, trivial⟩
            case measure => simp [intOf]; omega
          · obtain rfl : k = rs.length := by omega
            rw [htot]
            go_wp2_with fail
            refine (drawIssuedBy_any _ _ cs _ HM.out (HR.out.below HB17.out) HZ.out).mono ?_
            rintro e w18 ⟨ja, jc, zs2, yr, rfl, hld⟩
            have HL14 := hld.1
            have HJR := Lib.hid hld.reads
            have HB18 := Lib.hid (HB17.out.trans (hld.2.2.mono HB17.out.size))
            obtain ⟨L2, hL2⟩ : ∃ L2, L2 = (if yAsk zs2 yr = true then idsOfStamp (yTest yr) zs2 else []) := ⟨_, rfl⟩
            obtain ⟨ask, hask⟩ : ∃ ask, ask = yAsk zs2 yr := ⟨_, rfl⟩
            have hl2 : L2.length ≤ 13 := by
              rw [hL2]; split
              · unfold idsOfStamp
                rw [List.length_map]
                exact Nat.le_trans (List.length_filter_le _ _) HL14
              · simp
            have q1 := fun w hr => implIssued_any ja jc zs2 yr w (by unfold maxLen; omega) hr
            have q2 := fun w hr => specIssued_any ja jc zs2 yr w (by unfold maxLen; omega) hr
            rw [← hL2, ← hask] at q1 q2
            have Q1 := Lib.hid q1
            have Q2 := Lib.hid q2
            clear q1 q2 hld hL2 hask
            go_wp2_with fail
            refine (Q1.out _ HJR.out).mono ?_
            rintro e w19 ⟨ia, ic, rfl, hown, hb⟩
            have HB19 := Lib.hid (HB18.out.trans (hb.mono HB18.out.size))
            have HJR2 := Lib.hid (HJR.out.below hb)
            have HI := Lib.hid hown
            clear hown hb
            go_wp2_with fail
            refine (Q2.out _ HJR2.out).mono ?_
            rintro e w20 ⟨ka, kc, rfl, hown, hb⟩
            have HB20 := Lib.hid (HB19.out.trans (hb.mono HB19.out.size))
            have HQ : Hid (Calls Tryd.prog 19 #[.slice ia L2.length ic, .slice ka L2.length kc] w20 fun e w' => e = .returned (.bool true) ∧ Dr w20 w') := Lib.hid (by
              have := vInts_any ia ka ic kc L2 L2 w20 (by unfold maxLen; omega) (by unfold maxLen; omega) (own_reads (own_below HI.out hb)) (own_reads hown)
              simpa using this)
            clear hown hb
            go_wp2_with fail
            refine HQ.out.mono ?_
            rintro e w21 ⟨rfl, hd⟩
            have HB21 := Lib.hid (HB20.out.trans (hd.below _))
            clear hd HQ HI HJR HJR2 Q1 Q2
            go_wp2_with fail
            refine (drawFaceText_any _ _ cs _ HM.out (HR.out.below HB21.out) HZ.out).mono ?_
            rintro e w22 ⟨f, rfl, _, hb⟩
            have HB22 := Lib.hid (HB21.out.trans (hb.mono HB21.out.size))
            have q1 := fun w h => implFace_any f w h
            have q2 := fun w => specFace_any f w
            obtain ⟨sf, hsf⟩ : ∃ sf, sf = (if inB f 0 9999 then faceF f.toNat else .empty) := ⟨_, rfl⟩
            obtain ⟨okf, hokf⟩ : ∃ okf, okf = inB f 0 9999 := ⟨_, rfl⟩
            rw [← hsf, ← hokf] at q1 q2
            have Q1 := Lib.hid q1
            have Q2 := Lib.hid q2
            clear q1 q2 hsf hokf hb
            go_wp2_with fail
            refine (Q1.out _ (HT.out.below HB22.out).pow).mono ?_
            rintro e w23 ⟨rfl, hb⟩
            have HB23 := Lib.hid (HB22.out.trans (hb.mono HB22.out.size))
            clear hb
            go_wp2_with fail
            refine (Q2.out _).mono ?_
            rintro e w24 ⟨rfl, hd⟩
            have HB24 := Lib.hid (HB23.out.trans (hd.below _))
            clear hd
            go_wp2_with fail
            go_ret
            exact ⟨rfl, HB24.out⟩
      · go_wp2_with fail
        refine (drawIssuedBy_any _ _ cs _ HM.out (HR.out.below HB17.out) HZ.out).mono ?_
        rintro e w18 ⟨ja, jc, zs2, yr, rfl, hld⟩
        have HL14 := hld.1
        have HJR := Lib.hid hld.reads
        have HB18 := Lib.hid (HB17.out.trans (hld.2.2.mono HB17.out.size))
        obtain ⟨L2, hL2⟩ : ∃ L2, L2 = (if yAsk zs2 yr = true then idsOfStamp (yTest yr) zs2 else []) := ⟨_, rfl⟩
        obtain ⟨ask, hask⟩ : ∃ ask, ask = yAsk zs2 yr := ⟨_, rfl⟩
        have hl2 : L2.length ≤ 13 := by
          rw [hL2]; split
          · unfold idsOfStamp
            rw [List.length_map]
            exact Nat.le_trans (List.length_filter_le _ _) HL14
          · simp
        have q1 := fun w hr => implIssued_any ja jc zs2 yr w (by unfold maxLen; omega) hr
        have q2 := fun w hr => specIssued_any ja jc zs2 yr w (by unfold maxLen; omega) hr
        rw [← hL2, ← hask] at q1 q2
        have Q1 := Lib.hid q1
        have Q2 := Lib.hid q2
        clear q1 q2 hld hL2 hask
        go_wp2_with fail
        refine (Q1.out _ HJR.out).mono ?_
        rintro e w19 ⟨ia, ic, rfl, hown, hb⟩
        have HB19 := Lib.hid (HB18.out.trans (hb.mono HB18.out.size))
        have HJR2 := Lib.hid (HJR.out.below hb)
        have HI := Lib.hid hown
        clear hown hb
        go_wp2_with fail
        refine (Q2.out _ HJR2.out).mono ?_
        rintro e w20 ⟨ka, kc, rfl, hown, hb⟩
        have HB20 := Lib.hid (HB19.out.trans (hb.mono HB19.out.size))
        have HQ : Hid (Calls Tryd.prog 19 #[.slice ia L2.length ic, .slice ka L2.length kc] w20 fun e w' => e = .returned (.bool true) ∧ Dr w20 w') := Lib.hid (by
          have := vInts_any ia ka ic kc L2 L2 w20 (by unfold maxLen; omega) (by unfold maxLen; omega) (own_reads (own_below HI.out hb)) (own_reads hown)
          simpa using this)
        clear hown hb
        go_wp2_with fail
        refine HQ.out.mono ?_
        rintro e w21 ⟨rfl, hd⟩
        have HB21 := Lib.hid (HB20.out.trans (hd.below _))
        clear hd HQ HI HJR HJR2 Q1 Q2
        go_wp2_with fail
        refine (drawFaceText_any _ _ cs _ HM.out (HR.out.below HB21.out) HZ.out).mono ?_
        rintro e w22 ⟨f, rfl, _, hb⟩
        have HB22 := Lib.hid (HB21.out.trans (hb.mono HB21.out.size))
        have q1 := fun w h => implFace_any f w h
        have q2 := fun w => specFace_any f w
        obtain ⟨sf, hsf⟩ : ∃ sf, sf = (if inB f 0 9999 then faceF f.toNat else .empty) := ⟨_, rfl⟩
        obtain ⟨okf, hokf⟩ : ∃ okf, okf = inB f 0 9999 := ⟨_, rfl⟩
        rw [← hsf, ← hokf] at q1 q2
        have Q1 := Lib.hid q1
        have Q2 := Lib.hid q2
        clear q1 q2 hsf hokf hb
        go_wp2_with fail
        refine (Q1.out _ (HT.out.below HB22.out).pow).mono ?_
        rintro e w23 ⟨rfl, hb⟩
        have HB23 := Lib.hid (HB22.out.trans (hb.mono HB22.out.size))
        clear hb
        go_wp2_with fail
        refine (Q2.out _).mono ?_
        rintro e w24 ⟨rfl, hd⟩
        have HB24 := Lib.hid (HB23.out.trans (hd.below _))
        clear hd
        go_wp2_with fail
        go_ret
        exact ⟨rfl, HB24.out⟩
end Go.Proofs.YtoomjionojfjgaaDoor
