/- The law FnFrankings, walked out of the contracts. -/
import Derived.Test.YtieopadbbciciaaFrP
import Derived.Test.YtieopadbbciciaaFrE
import Derived.Test.YtieopadbbciciaaGridV
import Derived.Test.YtieopadbbciciaaStampL
namespace Go.Proofs.Ytieopadbbciciaa
open Go.ChangeShapes Go.WideShapes Go.ChangeAt Go.RowKit

theorem vBig_any (a : Option Addr) (len cap : Nat) (w : World) : Calls Try.prog 14 #[.slice a len cap] w fun e w' => e = .returned (.bool (decide ((65536 : Int) < (len : Int)))) ∧ w = w' := by
  go_enter Try.func14, Try.ntmps14
  go_wp2_with fail
  go_ret
  exact ⟨rfl, rfl⟩
theorem vInts_same (a b : Option Addr) (ca cb : Nat) (xs : List Int) (w : World) (hm : xs.length ≤ maxLen) (hx : Reads w a (ints xs)) (hy : Reads w b (ints xs)) :
    Calls Try.prog 18 #[.slice a xs.length ca, .slice b xs.length cb] w fun e w' => e = .returned (.bool true) ∧ Below w.heap.size w w' :=
  (vInts_any a b ca cb xs xs w hm hm hx hy).mono fun e w' h => ⟨by rw [h.1]; simp, h.2.below _⟩
set_option maxHeartbeats 1000000 in
theorem vHas_yes (a : Option Addr) (ca : Nat) (xs : List Int) (x : Int) (w : World) (hm : xs.length ≤ 1048576) (hx : Reads w a (ints xs)) (hmem : x ∈ xs) :
    Calls Try.prog 23 #[.slice a xs.length ca, .int .i64 x] w fun e w' => e = .returned (.bool true) ∧ w = w' := by
  have HX := Lib.hid hx
  have HMEM := Lib.hid hmem
  clear hx hmem
  go_enter Try.func23, Try.ntmps23
  go_wp2_with fail
  go_loop [5] (fun i => ∃ k : Nat, k ≤ xs.length ∧ i = .int .i64 k ∧ Hid (x ∉ xs.take k)) (fun i => xs.length - (intOf i).toNat)
  case atStart => exact ⟨0, Nat.zero_le _, rfl, Lib.hid (by simp)⟩
  case round =>
    obtain ⟨k, hk, rfl, hno⟩ := hrel
    by_cases hlt : k < xs.length
    · have hd : decide (k < xs.length) = true := by simpa using hlt
      rcases HX.out with h0 | ⟨b, off, rfl, hb, hc⟩
      · simp [ints] at h0; subst h0; simp at hlt
      have hc1 := hc k _ (ints_get hlt)
      have i0 : (0 : Int) ≤ (k : Int) := by omega
      have i1 : (k : Int) < (xs.length : Int) := by omega
      clear hc
      obtain ⟨z, hz⟩ : ∃ z, z = xs[k] := ⟨_, rfl⟩
      have HT := Lib.hid (show xs.take (k + 1) = xs.take k ++ [z] by rw [List.take_succ_eq_append_getElem hlt, hz])
      rw [← hz] at hc1
      clear hz
      by_cases he : z = x
      · have hb2 : (z == x) = true := by simpa using he
        clear he
        go_wp2_with fail
        go_ret
        exact ⟨rfl, rfl⟩
      · have hb2 : (z == x) = false := by simpa using he
        have HNX := Lib.hid (show x ∉ xs.take (k + 1) by rw [HT.out]; simp only [List.mem_append, List.mem_singleton, not_or]; exact ⟨hno.out, fun e => he e.symm⟩)
        clear he
        go_wp2_with fail
        go_round
        case rel => exact ⟨k + 1, by omega, by go_num, HNX⟩
        case measure => simp [intOf]; omega
    · exfalso
      have : k = xs.length := by omega
      have h1 := hno.out
      rw [this, List.take_length] at h1
      exact h1 HMEM.out
theorem least_bd {zs : List StampT} {q y : Int} {ids : List Int} {nn : Int} (h : leastR zs q y = ((ids, nn), true)) : (1 ≤ q ∧ q ≤ 2000) ∧ 0 ≤ nn ∧ nn ≤ 100000 := by
  unfold leastR at h
  split at h
  case isFalse => exact absurd (congrArg Prod.snd h) (by simp)
  rename_i hok
  split at h
  case isTrue => exact absurd (congrArg Prod.snd h) (by simp)
  rename_i hneg
  have he := congrArg Prod.fst h
  simp only at he
  simp only [leastOk, Bool.and_eq_true, inB_true] at hok
  obtain ⟨hz, hq, _⟩ := hok
  have := foldB_bd (L := lv zs true q y.toNat [] 0 0) (st := none0) (by simp) (lv_bd hz _ _ _ _ _ _ (by omega))
  rw [he] at this hneg
  simp only at this hneg
  exact ⟨hq, by omega, this.2⟩
def canR (zs : List StampT) (q : Int) : List Int := if cAsk zs q = true then canIds zs q.toNat else []
theorem canR_len (zs : List StampT) (q : Int) : (canR zs q).length ≤ 500 := by
  unfold canR
  split
  · rename_i h
    simp only [cAsk, Bool.and_eq_true, inB_true] at h
    have := canIds_le zs q.toNat; omega
  · simp
theorem fewR_len2 (zs : List StampT) (q y : Int) : (fewR zs q y).length ≤ 1048576 := by
  have := fewR_len zs q y
  omega
set_option maxRecDepth 100000 in
set_option maxHeartbeats 40000000 in
theorem FnFrankings_walk {w : World} (x : Slc × List Int) (h : BytesIn w x.1 x.2) : Calls Try.prog 4 #[x.1.val] w fun e w' => e = .returned (.bool true) ∧ Below w.heap.size w w' := by
  obtain ⟨⟨ad, len, cap⟩, cs⟩ := x
  obtain ⟨hs, hm, hr, hz⟩ := h
  simp only at hs hm hr hz
  subst hs
  have HR := Lib.hid hr
  have HM := Lib.hid hm
  have HZ := Lib.hid hz
  have hR := fun w => vBig_any ad cs.length cap w
  clear hr hz
  by_cases hbig : (65536 : Int) < (cs.length : Int)
  · rw [decide_eq_true hbig] at hR
    have HRB := Lib.hid hR
    clear hR hm hbig
    go_enter Try.func4, Try.ntmps4
    go_wp2_with fail
    refine (HRB.out _).mono ?_
    rintro e _ ⟨rfl, rfl⟩
    go_wp2_with fail
    go_ret
    exact ⟨rfl, Below.refl _ _⟩
  rw [decide_eq_false hbig] at hR
  have HRB := Lib.hid hR
  clear hR hm hbig
  go_enter Try.func4, Try.ntmps4
  go_wp2_with fail
  refine (HRB.out _).mono ?_
  rintro e _ ⟨rfl, rfl⟩
  go_wp2_with fail
  refine (drawFew_any _ _ cs _ HM.out HR.out HZ.out).mono ?_
  rintro e w1 ⟨za, zc, zs, q, y, rfl, hst, hb⟩
  have HB1 := Lib.hid hb
  have ST1 := Lib.hid hst
  have hmz : zs.length ≤ maxLen := by have := hst.len; unfold maxLen; omega
  have h1 := fun w hr => implFew_any za zc zs q y w hmz hr
  have h2 := fun w hr => specFew_any za zc zs q y w hmz hst.cap hr
  have h3 := fun w hr => implAreStamps_any za zc zs w hmz hr
  have h4 := fun w hr => specAreStamps_any za zc zs w hmz hr
  have hRL := fewR_len2 zs q y
  have hFV := fun h => few_value (zs := zs) (q := q) (y := y) h
  obtain ⟨R, hR⟩ : ∃ r, r = fewR zs q y := ⟨_, rfl⟩
  obtain ⟨ok, hok⟩ : ∃ r, r = fewOk zs q y := ⟨_, rfl⟩
  obtain ⟨sk, hsk⟩ : ∃ r, r = stampsOk zs := ⟨_, rfl⟩
  rw [← hR, ← hok] at h1 h2
  rw [← hsk] at h3 h4
  rw [← hR] at hRL
  rw [← hR, ← hok] at hFV
  have H1 := Lib.hid h1
  have H2 := Lib.hid h2
  have H3 := Lib.hid h3
  have H4 := Lib.hid h4
  have HFV := Lib.hid hFV
  have HRL := Lib.hid (show R.length ≤ maxLen by unfold maxLen; omega)
  have HVO := Lib.hid (fun fa fc w h1 h2 => implValueOf_any za fa zc fc zs R w hmz (by unfold maxLen; omega) h1 h2)
  have HCN := Lib.hid (fun w hr => implCan_any za zc zs q w hmz hr)
  clear h1 h2 h3 h4 hR hok hsk hst hb hFV hRL hmz
  go_wp2_with fail
  refine (H1.out _ ST1.out.reads).mono ?_
  rintro e w2 ⟨fa, fc, rfl, ho, hb⟩
  have HB2 := Lib.hid (HB1.out.trans (hb.mono HB1.out.size))
  have ST2 := Lib.hid (ST1.out.below hb)
  have HF2 := Lib.hid (own_reads ho)
  clear ho hb ST1 HB1
  go_wp2_with fail
  refine (H2.out _ ST2.out.reads).mono ?_
  rintro e w3 ⟨fb, fd, rfl, ho, hb⟩
  have HB3 := Lib.hid (HB2.out.trans (hb.mono HB2.out.size))
  have ST3 := Lib.hid (ST2.out.below hb)
  have HF3 := Lib.hid (HF2.out.below hb)
  have HG3 := Lib.hid (own_reads ho)
  clear ho hb ST2 HB2 HF2
  go_wp2_with fail
  refine (vInts_same fa fb fc fd R _ HRL.out HF3.out HG3.out).mono ?_
  rintro e w4 ⟨rfl, hb⟩
  have HB4 := Lib.hid (HB3.out.trans (hb.mono HB3.out.size))
  have ST4 := Lib.hid (ST3.out.below hb)
  have HF4 := Lib.hid (HF3.out.below hb)
  clear hb ST3 HB3 HF3 HG3
  go_wp2_with fail
  refine (H3.out _ ST4.out.reads).mono ?_
  rintro e w5 ⟨rfl, hb⟩
  have HB5 := Lib.hid (HB4.out.trans (hb.mono HB4.out.size))
  have ST5 := Lib.hid (ST4.out.below hb)
  have HF5 := Lib.hid (HF4.out.below hb)
  clear hb ST4 HB4 HF4
  go_wp2_with fail
  refine (H4.out _ ST5.out.reads).mono ?_
  rintro e w6 ⟨rfl, hb⟩
  have HB6 := Lib.hid (HB5.out.trans (hb.mono HB5.out.size))
  have ST6 := Lib.hid (ST5.out.below hb)
  have HF6 := Lib.hid (HF5.out.below hb)
  clear hb ST5 HB5 HF5 H1 H2 H3 H4
  cases ok
  case' false =>
    go_wp2_with fail
    obtain ⟨wz, rfl⟩ : ∃ wz, wz = w6 := ⟨w6, rfl⟩
    have HBz := HB6
    clear HB6 ST6 HF6 HFV HVO HCN HRL
  case' true =>
    obtain ⟨hv, hc⟩ := HFV.out rfl
    rw [hv] at HVO
    clear HFV hv
    go_wp2_with fail
    refine (HVO.out _ _ _ ST6.out.reads HF6.out).mono ?_
    rintro e w7 ⟨rfl, hb⟩
    have HB7 := Lib.hid (HB6.out.trans (hb.mono HB6.out.size))
    have ST7 := Lib.hid (ST6.out.below hb)
    clear hb HB6 ST6 HF6 HVO
    obtain ⟨b5, hd5⟩ : ∃ b, decide (q ≤ 500) = b := ⟨_, rfl⟩
    cases b5
    case' true =>
      have h500 := of_decide_eq_true hd5
      obtain ⟨hc1, hc2⟩ := hc h500
      rw [hc1, if_pos rfl] at HCN
      have hcl := canIds_le zs q.toNat
      obtain ⟨ci, hci⟩ : ∃ c, c = canIds zs q.toNat := ⟨_, rfl⟩
      rw [← hci] at HCN hc2 hcl
      have HIN := Lib.hid hc2
      have HCL := Lib.hid (show ci.length ≤ 1048576 by omega)
      clear hc hc1 hc2 hcl hci h500
      go_wp2_with fail
      refine (HCN.out _ ST7.out.reads).mono ?_
      rintro e w8 ⟨ca, cc, rfl, ho, hb⟩
      have HBz := Lib.hid (HB7.out.trans (hb.mono HB7.out.size))
      have HC8 := Lib.hid (own_reads ho)
      clear ho hb HB7 ST7 HCN
      go_wp2_with fail
      refine (vHas_yes ca cc ci q _ HCL.out HC8.out HIN.out).mono ?_
      rintro e _ ⟨rfl, rfl⟩
      clear HC8 HIN HCL
      go_wp2_with fail
      obtain ⟨wz, rfl⟩ : ∃ wz, wz = w8 := ⟨w8, rfl⟩
    case' false =>
      have HBz := HB7
      clear hc HB7 ST7 HCN
      go_wp2_with fail
      obtain ⟨wz, rfl⟩ : ∃ wz, wz = w7 := ⟨w7, rfl⟩
  all_goals
    refine (drawLeast_any _ _ cs _ HM.out (HR.out.below HBz.out) HZ.out).mono ?_
    rintro e w9 ⟨xa, xc, xs, c, m, rfl, hst, hb⟩
    have HB9 := Lib.hid (HBz.out.trans (hb.mono HBz.out.size))
    have SX9 := Lib.hid hst
    have hmx : xs.length ≤ maxLen := by have := hst.len; unfold maxLen; omega
    obtain ⟨⟨⟨ids, nn⟩, told⟩, hres⟩ : ∃ res, res = leastR xs c m := ⟨_, rfl⟩
    have hil := leastR_len xs c m
    rw [← hres] at hil
    simp only at hil
    have HL1 := Lib.hid (fun w hr => implLeast2 hres.symm xa xc w hmx hr)
    have HL2 := Lib.hid (fun w hr => specLeast2 hres.symm xa xc w hmx hr)
    have HIL := Lib.hid (show ids.length ≤ maxLen by unfold maxLen; omega)
    have HLV : Hid (told = true → _) := Lib.hid (fun (e : told = true) => (⟨least_value (zs := xs) (q := c) (y := m) (ids := ids) (nn := nn) (by rw [← hres, e]), least_bd (zs := xs) (q := c) (y := m) (ids := ids) (nn := nn) (by rw [← hres, e])⟩ : _ ∧ _))
    have HXV := Lib.hid (fun fa fc w h1 h2 => implValueOf_any xa fa xc fc xs ids w hmx (by unfold maxLen; omega) h1 h2)
    have HXF := Lib.hid (fun q w hr => implFew_any xa xc xs q 2100 w hmx hr)
    clear hres hst hb HBz hmx
    go_wp2_with fail
    refine (HL1.out _ SX9.out.reads).mono ?_
    rintro e w10 ⟨ia, ic, rfl, ho, hb⟩
    have HB10 := Lib.hid (HB9.out.trans (hb.mono HB9.out.size))
    have SX10 := Lib.hid (SX9.out.below hb)
    have HI10 := Lib.hid (own_reads ho)
    clear ho hb HB9 SX9 HL1
    go_wp2_with fail
    refine (HL2.out _ SX10.out.reads).mono ?_
    rintro e w11 ⟨ja, jc, rfl, ho, hb⟩
    have HB11 := Lib.hid (HB10.out.trans (hb.mono HB10.out.size))
    have SX11 := Lib.hid (SX10.out.below hb)
    have HI11 := Lib.hid (HI10.out.below hb)
    have HJ11 := Lib.hid (own_reads ho)
    clear ho hb HB10 SX10 HI10 HL2
    go_wp2_with fail
    refine (vInts_same ia ja ic jc ids _ HIL.out HI11.out HJ11.out).mono ?_
    rintro e w12 ⟨rfl, hb⟩
    have HB12 := Lib.hid (HB11.out.trans (hb.mono HB11.out.size))
    have SX12 := Lib.hid (SX11.out.below hb)
    have HI12 := Lib.hid (HI11.out.below hb)
    clear hb HB11 SX11 HI11 HJ11
    cases told
    case' false =>
      go_wp2_with fail
      obtain ⟨wy, rfl⟩ : ∃ wy, wy = w12 := ⟨w12, rfl⟩
      have HBy := HB12
      clear HB12 SX12 HI12 HLV HXV HXF HIL hil
    case' true =>
      obtain ⟨⟨hv, hlm, hfl⟩, ⟨q1, q2⟩, n1, n2⟩ := HLV.out rfl
      rw [hv] at HXV
      obtain ⟨two, htwo⟩ : ∃ t, t = fewOk xs (c + nn) 2100 := ⟨_, rfl⟩
      obtain ⟨lf, hlf⟩ : ∃ t, t = fewR xs (c + nn) 2100 := ⟨_, rfl⟩
      have HXF2 := Lib.hid (fun w hr => HXF.out (c + nn) w hr)
      rw [← htwo, ← hlf] at hfl HXF2
      have HFL := Lib.hid hfl
      have hwv : IntKind.i64.wrap (c + nn) = c + nn := small_in2 (by omega) (by omega)
      have hdl : decide (m < (ids.length : Int)) = false := by simp; omega
      clear HLV hv hfl htwo hlf HXF
      go_wp2_with fail
      refine (HXV.out _ _ _ SX12.out.reads HI12.out).mono ?_
      rintro e w13 ⟨rfl, hb⟩
      have HB13 := Lib.hid (HB12.out.trans (hb.mono HB12.out.size))
      have SX13 := Lib.hid (SX12.out.below hb)
      clear hb HB12 SX12 HI12 HXV
      go_wp2_with fail
      refine (HXF2.out _ SX13.out.reads).mono ?_
      rintro e wy ⟨ka, kc, rfl, _, hb⟩
      have HBy := Lib.hid (HB13.out.trans (hb.mono HB13.out.size))
      have hfl := HFL.out
      clear hb HB13 SX13 HXF2 HFL
      cases two
      case' false => (clear hfl; go_wp2_with fail)
      case' true =>
        have hfl2 := hfl rfl
        have hnl : ((lf.length : Int) != (ids.length : Int)) = false := by simp; omega
        clear hfl hfl2
        go_wp2_with fail
    all_goals
      refine (drawCan_any _ _ cs _ HM.out (HR.out.below HBy.out) HZ.out).mono ?_
      rintro e w14 ⟨ya, yc, ys, n, rfl, hst, hb⟩
      have HB14 := Lib.hid (HBy.out.trans (hb.mono HBy.out.size))
      have SY14 := Lib.hid hst
      have hmy : ys.length ≤ maxLen := by have := hst.len; unfold maxLen; omega
      have h1 := fun w hr => implCan_any ya yc ys n w hmy hr
      have h2 := fun w hr => specCan_any ya yc ys n w hmy hr
      have hcl := canR_len ys n
      unfold canR at hcl
      obtain ⟨cr, hcr⟩ : ∃ r, r = (if cAsk ys n = true then canIds ys n.toNat else []) := ⟨_, rfl⟩
      obtain ⟨cb, hcb⟩ : ∃ r, r = cAsk ys n := ⟨_, rfl⟩
      rw [← hcr] at h1 h2 hcl
      rw [← hcb] at h1 h2
      have HC1 := Lib.hid h1
      have HC2 := Lib.hid h2
      have HCL := Lib.hid (show cr.length ≤ maxLen by unfold maxLen; omega)
      clear h1 h2 hcr hcb hst hb HBy hmy hcl
      go_wp2_with fail
      refine (HC1.out _ SY14.out.reads).mono ?_
      rintro e w15 ⟨ca, cc, rfl, ho, hb⟩
      have HB15 := Lib.hid (HB14.out.trans (hb.mono HB14.out.size))
      have SY15 := Lib.hid (SY14.out.below hb)
      have HI15 := Lib.hid (own_reads ho)
      clear ho hb HB14 SY14 HC1
      go_wp2_with fail
      refine (HC2.out _ SY15.out.reads).mono ?_
      rintro e w16 ⟨da, dc, rfl, ho, hb⟩
      have HB16 := Lib.hid (HB15.out.trans (hb.mono HB15.out.size))
      have HI16 := Lib.hid (HI15.out.below hb)
      have HJ16 := Lib.hid (own_reads ho)
      clear ho hb HB15 SY15 HI15 HC2
      go_wp2_with fail
      refine (vInts_same ca da cc dc cr _ HCL.out HI16.out HJ16.out).mono ?_
      rintro e w17 ⟨rfl, hb⟩
      have HB17 := Lib.hid (HB16.out.trans (hb.mono HB16.out.size))
      clear hb HB16 HI16 HJ16
      go_wp2_with fail
      refine (drawValue_any _ _ cs _ HM.out (HR.out.below HB17.out) HZ.out).mono ?_
      rintro e w18 ⟨va, vc, vs, ua, uc, us, rfl, hst, hul, hur, hb⟩
      have HB18 := Lib.hid (HB17.out.trans (hb.mono HB17.out.size))
      have SV18 := Lib.hid hst
      have HU18 := Lib.hid hur
      have hmv : vs.length ≤ maxLen := by have := hst.len; unfold maxLen; omega
      have hmu : us.length ≤ maxLen := by unfold maxLen; omega
      have h1 := fun w h1 h2 => implValueOf_any va ua vc uc vs us w hmv hmu h1 h2
      have h2 := fun w h1 h2 => specValueOf_any va ua vc uc vs us w hmv hmu h1 h2
      obtain ⟨⟨f1, f2⟩, hf⟩ : ∃ f, f = valF vs us := ⟨_, rfl⟩
      rw [← hf] at h1 h2
      have HV1 := Lib.hid h1
      have HV2 := Lib.hid h2
      clear h1 h2 hf hst hur hb hmv hmu HB17
      go_wp2_with fail
      refine (HV1.out _ SV18.out.reads HU18.out).mono ?_
      rintro e w19 ⟨rfl, hb⟩
      have HB19 := Lib.hid (HB18.out.trans (hb.mono HB18.out.size))
      have SV19 := Lib.hid (SV18.out.below hb)
      have HU19 := Lib.hid (HU18.out.below hb)
      clear hb HB18 SV18 HU18 HV1
      go_wp2_with fail
      refine (HV2.out _ SV19.out.reads HU19.out).mono ?_
      rintro e w20 ⟨rfl, hb⟩
      have HB20 := Lib.hid (HB19.out.trans (hb.mono HB19.out.size))
      clear hb HB19 SV19 HU19 HV2
      go_wp2_with fail
      go_ret
      exact ⟨rfl, HB20.out⟩
end Go.Proofs.Ytieopadbbciciaa
