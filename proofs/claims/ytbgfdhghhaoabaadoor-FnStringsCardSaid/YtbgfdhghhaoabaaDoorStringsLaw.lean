/- The law FnStrings, walked out of the contracts. -/
import Derived.Test.YtbgfdhghhaoabaaDoorCurJ
import Derived.Test.YtbgfdhghhaoabaaDoorCurE
import Derived.Test.YtbgfdhghhaoabaaDoorSpoilM
import Derived.Test.YtbgfdhghhaoabaaDoorReadL
import Derived.StillTailTactics
namespace Go.Proofs.YtbgfdhghhaoabaaDoor
open Go.ChangeShapes Go.WideShapes Go.ChangeAt Go.RowKit

theorem ErrVar.stays {w w' : World} {n : String} {g : Nat} (hg : Tryd.prog.globalNamed n = some g) (h : ErrVar w n) (hb : Below w.heap.size w w') : ErrVar w' n := by
  obtain ⟨tp, p, h⟩ := h
  exact ⟨tp, p, Go.Joins.var_stays hg h hb (Nat.le_refl _)⟩
/-- the library's variables that the walk reads -/
structure Tabs (w : World) : Prop where
  pow : PowTab w
  e1 : ErrVar w "strconv.ErrRange"
  e2 : ErrVar w "strconv.ErrSyntax"
theorem Tabs.below {w w' : World} (h : Tabs w) (hb : Below w.heap.size w w') : Tabs w' :=
  ⟨h.pow.stays hb (Nat.le_refl _), h.e1.stays (g := 2) (by kernel_rfl) hb, h.e2.stays (g := 1) (by kernel_rfl) hb⟩
theorem seal_back {x : ByteArray} (h : sealOk x = true) : verOk (sealF x) = true ∧ verR (sealF x) = x := by
  simp only [sealOk, Bool.and_eq_true, decide_eq_true_eq, Bool.not_eq_true'] at h
  obtain ⟨⟨h1, h2⟩, h3⟩ := h
  have hx : (35 : UInt8) ∉ x.data.toList := by simpa [hasB] using h2
  have hh : headF (sealF x) = x := by
    rw [headF_data (sealF x) hx (seal_data x)]
  have hv : verOk (sealF x) = true := by rw [verOk, hh]; simp [h3]
  exact ⟨hv, by rw [verR, if_pos hv, hh]⟩
theorem seal_spoilt {x : ByteArray} {k : Nat} {b : UInt8} {y : ByteArray} (h : sealOk x = true) (hk : k < (sealF x).data.toList.length) (hb : b ≠ (sealF x).data.toList[k]) (hy : y.data.toList = (sealF x).data.toList.set k b) : verOk y = false := by
  refine spoil rfl ?_ hk hb hy
  simp only [sealOk, Bool.and_eq_true, decide_eq_true_eq, Bool.not_eq_true'] at h
  simpa [hasB] using h.1.2
set_option maxRecDepth 100000 in
set_option maxHeartbeats 8000000 in
theorem FnStrings_walk {w : World} (HL : laidMet Tryd.prog Rows.fnStringsRow.laid w) (x : Slc × List Int) (h : BytesIn w x.1 x.2) : Calls Tryd.prog 9 #[x.1.val] w fun e w' => e = .returned (.bool true) ∧ Below w.heap.size w w' := by
  have HT := Lib.hid (show Tabs w from ⟨powTab_of HL, err_range_of HL, err_second_of HL⟩)
  clear HL
  obtain ⟨⟨ad, len, cap⟩, cs⟩ := x
  obtain ⟨hs, hm, hr, hz⟩ := h
  simp only at hs hm hr hz
  subst hs
  have HR := Lib.hid hr
  have HM := Lib.hid hm
  have HZ := Lib.hid hz
  have hR := fun w => vBig_any ad cs.length cap w
  clear hr hz
  by_cases hbig : (65536 : Int) < (cs.length : Int)
  · rw [decide_eq_true hbig] at hR
    have HRB := Lib.hid hR
    clear hR hm hbig
    go_enter Tryd.func9, Tryd.ntmps9
    go_wp2_with fail
    refine (HRB.out _).mono ?_
    rintro e _ ⟨rfl, rfl⟩
    go_wp2_with fail
    go_ret
    exact ⟨rfl, Below.refl _ _⟩
  have HV := Lib.hid (fun (w : World) k i hi hk hr => vAt_any ad cap cs k i hi w (by omega) hk hr HZ.out)
  rw [decide_eq_false hbig] at hR
  have HRB := Lib.hid hR
  have HB0 := Lib.hid (Below.refl w.heap.size w)
  clear hR hm hbig
  go_enter Tryd.func9, Tryd.ntmps9
  go_wp2_with fail
  refine (HRB.out _).mono ?_
  rintro e _ ⟨rfl, rfl⟩
  go_wp2_with fail
  refine (drawFormat_any _ _ cs _ HM.out HR.out HZ.out).mono ?_
  rintro e w1 ⟨n, rfl, hb⟩
  have HB1 := Lib.hid (HB0.out.trans (hb.mono HB0.out.size))
  obtain ⟨sn, hsn⟩ : ∃ sn, sn = (if inB n (-999999) 999999 then numF n else .empty) := ⟨_, rfl⟩
  obtain ⟨okn, hokn⟩ : ∃ okn, okn = inB n (-999999) 999999 := ⟨_, rfl⟩
  have q1 := fun w h => implFormat_any n w h
  have q2 := fun w => specFormat_any n w
  rw [← hokn] at q1 q2 hsn
  rw [← hsn] at q1 q2
  have Q1 := Lib.hid q1
  have Q2 := Lib.hid q2
  have HSN := Lib.hid hsn
  have HOKN := Lib.hid hokn
  clear q1 q2 hsn hokn hb
  go_wp2_with fail
  refine (Q1.out _ (HT.out.below HB1.out).pow).mono ?_
  rintro e w2 ⟨rfl, hb⟩
  have HB2 := Lib.hid (HB1.out.trans (hb.mono HB1.out.size))
  clear hb
  go_wp2_with fail
  refine (Q2.out _).mono ?_
  rintro e w3 ⟨rfl, hd⟩
  have HB3 := Lib.hid (HB2.out.trans (hd.below _))
  clear hd
  go_wp2_with fail
  refine (drawParse_any _ _ cs _ HM.out (HR.out.below HB3.out) HZ.out).mono ?_
  rintro e w4 ⟨t, rfl, ht, hb⟩
  have HB4 := Lib.hid (HB3.out.trans (hb.mono HB3.out.size))
  obtain ⟨rd, hrd⟩ : ∃ rd, rd = readR t := ⟨_, rfl⟩
  obtain ⟨r1, r2⟩ := rd
  have q3 := fun w h1 h2 h3 => implParse_any t w (by omega) h1 h2 h3
  have q4 := fun w => specParse_any t w (by omega)
  rw [← hrd] at q3 q4
  have Q3 := Lib.hid q3
  have Q4 := Lib.hid q4
  clear q3 q4 hrd hb
  go_wp2_with fail
  refine (Q3.out _ (HT.out.below HB4.out).pow (HT.out.below HB4.out).e1 (HT.out.below HB4.out).e2).mono ?_
  rintro e w5 ⟨rfl, hb⟩
  have HB5 := Lib.hid (HB4.out.trans (hb.mono HB4.out.size))
  clear hb
  go_wp2_with fail
  refine (Q4.out _).mono ?_
  rintro e w6 ⟨rfl, hd⟩
  have HB6 := Lib.hid (HB5.out.trans (hd.below _))
  clear hd
  go_wp2_with fail
  refine (drawAppend_any _ _ cs _ HM.out (HR.out.below HB6.out) HZ.out).mono ?_
  rintro e w7 ⟨x, rfl, hx, hb⟩
  have HB7 := Lib.hid (HB6.out.trans (hb.mono HB6.out.size))
  have q5 := fun w h => implAppend_any x w (by omega) h
  have q6 := fun w => specAppend_any x w (by omega)
  have hback : Hid (sealOk x = true → verOk (sealF x) = true ∧ verR (sealF x) = x) := Lib.hid seal_back
  have hspo : Hid (∀ (k : Nat) (b : UInt8) (y : ByteArray), sealOk x = true → ∀ (hk : k < (sealF x).data.toList.length), b ≠ (sealF x).data.toList[k] → y.data.toList = (sealF x).data.toList.set k b → verOk y = false) := Lib.hid (fun k b y h hk hb hy => seal_spoilt h hk hb hy)
  have hszy : Hid (sealOk x = true → (sealF x).size ≤ 4000) := Lib.hid (fun h => by simp [sealOk] at h; exact h.2)
  have hszy2 : Hid (0 < (sealF x).size) := Lib.hid (by rw [sealF_size]; omega)
  obtain ⟨y, hy⟩ : ∃ y, y = sealR x := ⟨_, rfl⟩
  obtain ⟨oky, hoky⟩ : ∃ oky, oky = sealOk x := ⟨_, rfl⟩
  have HYD := Lib.hid (show y = if oky = true then sealF x else .empty by rw [hy, sealR, hoky])
  rw [← hy, ← hoky] at q5 q6
  rw [← hoky] at hback hspo hszy
  generalize sealF x = z at HYD hback hspo hszy hszy2
  have Q5 := Lib.hid q5
  have Q6 := Lib.hid q6
  clear q5 q6 hy hoky hb hx
  go_wp2_with fail
  refine (Q5.out _ (HT.out.below HB7.out).pow).mono ?_
  rintro e w8 ⟨rfl, hb⟩
  have HB8 := Lib.hid (HB7.out.trans (hb.mono HB7.out.size))
  clear hb
  go_wp2_with fail
  refine (Q6.out _).mono ?_
  rintro e w9 ⟨rfl, hd⟩
  have HB9 := Lib.hid (HB8.out.trans (hd.below _))
  clear hd
  have hnn : (n != n) = false := by simp
  obtain ⟨rb, hrb⟩ : ∃ rb, rb = readR sn := ⟨_, rfl⟩
  have hsns : sn.size ≤ 20 := by
    rw [HSN.out]
    split
    · rename_i hi
      rw [HOKN.out] at hi
      have := inB_true.1 hi
      have := numF_size (n := n) (by omega) (by omega)
      omega
    · simp
  have hrb2 : Hid (okn = true → rb = (n, true)) := Lib.hid (fun ho => by
    have hi := inB_true.1 (HOKN.out.symm.trans ho)
    obtain ⟨k1, k2⟩ := read_num (n := n) (by omega) (by omega)
    rw [hrb, HSN.out, if_pos ho, readR, if_pos k2, k1])
  have q7 := fun w h1 h2 h3 => implParse_any sn w (by omega) h1 h2 h3
  rw [← hrb] at q7
  have Q7 := Lib.hid q7
  clear q7 hrb hsns
  obtain ⟨rb1, rb2⟩ := rb
  go_wp2_with fail
  refine (Q7.out _ (HT.out.below HB9.out).pow (HT.out.below HB9.out).e1 (HT.out.below HB9.out).e2).mono ?_
  rintro e w10 ⟨rfl, hb⟩
  have HB10 := Lib.hid (HB9.out.trans (hb.mono HB9.out.size))
  clear hb
  have hcheck : Hid ((okn = false) ∨ (okn = true ∧ rb1 = n ∧ rb2 = true)) := Lib.hid (by
    cases ho : okn
    · exact .inl rfl
    · have := hrb2.out ho
      injection this with h1 h2
      exact .inr ⟨rfl, h1, h2⟩)
  clear hrb2
  cases oky
  · obtain rfl : y = .empty := by simpa using HYD.out
    rcases hcheck.out with rfl | ⟨rfl, rfl, rfl⟩
    · go_wp2_with fail
      go_ret
      exact ⟨rfl, HB10.out⟩
    · go_wp2_with fail
      go_ret
      exact ⟨rfl, HB10.out⟩
  obtain rfl : y = z := by simpa using HYD.out
  obtain ⟨v1, v2⟩ := hback.out rfl
  have hszz := hszy.out rfl
  have q8 := fun w h => implVer_any y w (by omega) h
  rw [v1, v2] at q8
  have Q8 := Lib.hid q8
  have HSP := Lib.hid (fun k b y2 => hspo.out k b y2 rfl)
  have hll : y.data.toList.length = y.size := by simp
  have HLL := Lib.hid hll
  have hpos := hszy2.out
  clear hback hspo hszy hszy2 q8 v1 v2 hll
  rcases hcheck.out with rfl | ⟨rfl, rfl, rfl⟩
  all_goals
    go_wp2_with fail
    refine (Q8.out _ (HT.out.below HB10.out).pow).mono ?_
    rintro e w11 ⟨rfl, hb⟩
    have HB11 := Lib.hid (HB10.out.trans (hb.mono HB10.out.size))
    clear hb
    have hcv := Lib.run_convert_string_bytes (P := Tryd.prog) w11 9 35 5 y Tryd.underlying9 Tryd.underlying35 Tryd.underlying5
    have HBN := Lib.hid (bytes_new w11 y)
    go_wp2_with fail
    generalize Lib.bytesWorld w11 5 y = wB at *
    clear hcv
    have HBB := Lib.hid (HB11.out.trans (HBN.out.below.mono HB11.out.size))
    refine ((HV.out _ 9 _ rfl (by omega) (HR.out.below HBB.out)).mono fun e w' h => (show e = .returned (.int .i64 (vAtF cs 9)) ∧ wB = w' from ⟨h.1, h.2.symm⟩)).mono ?_
    rintro e _ ⟨rfl, rfl⟩
    have hv9 := vAtF_bd HZ.out 9
    generalize vAtF cs 9 = v9 at *
    obtain ⟨v91, v92⟩ := hv9
    go_wp2_with fail
    obtain ⟨kk, hkk⟩ : ∃ kk : Nat, v9 % (y.size : Int) = (kk : Int) := ⟨(v9 % (y.size : Int)).toNat, by have := Int.emod_nonneg v9 (show (y.size : Int) ≠ 0 by omega); omega⟩
    have hkl : kk < y.size := by have := Int.emod_lt_of_pos v9 (show 0 < (y.size : Int) by omega); omega
    rw [hkk]
    clear hkk
    have HCV : Hid (Calls Tryd.prog 34 #[.slice ad cs.length cap, .int .i64 10] wB.drew fun e w' => e = .returned (.int .i64 (vAtF cs 10)) ∧ w' = wB.drew) := Lib.hid (HV.out _ 10 _ rfl (by omega) (HR.out.below HBB.out).drew)
    have hv10 := vAtF_bd HZ.out 10
    obtain ⟨v10, hv10e⟩ : ∃ v10, v10 = vAtF cs 10 := ⟨_, rfl⟩
    rw [← hv10e] at HCV hv10
    obtain ⟨m, hm0, hm1, hm2⟩ : ∃ m : Int, v10.tmod 255 = m ∧ 0 ≤ m ∧ m ≤ 254 := ⟨v10 % 255, by rw [Int.tmod_eq_emod_of_nonneg hv10.1], by omega, by omega⟩
    have hcell := HBN.out.cell kk (by rw [HLL.out]; exact hkl)
    have hfree := HBN.out.free kk (by rw [HLL.out]; exact hkl)
    obtain ⟨u, hu⟩ : ∃ u : UInt8, u = y.data.toList[kk]'(by rw [HLL.out]; exact hkl) := ⟨_, rfl⟩
    rw [← hu] at hcell
    have hul := u.toNat_lt
    obtain ⟨b, hb1, hb2⟩ := xor_byte (a := (u.toNat : Int)) (b := 1 + m) (by omega) (by omega) (by omega) (by omega)
    have HU := Lib.hid hu
    have HNE := Lib.hid hb2
    have hw1 : IntKind.i64.wrap (1 + m) = 1 + m := IntWalk.i64_in _ (by omega)
    have hw2 : IntKind.u8.wrap (1 + m) = 1 + m := by simp [IntKind.wrap, IntKind.bits, IntKind.signed]; omega
    have i1 : (0 : Int) ≤ (kk : Int) := by omega
    have i2 : (kk : Int) < (y.size : Int) := by omega
    clear hb2 hu hv10e hul hv10
    refine wp_region_still_tail 13 (by kernel_rfl) (by kernel_rfl) ?_
    simp only [List.take_succ_cons, List.take_zero, List.drop_succ_cons, List.drop_zero]
    repeat (first | still_step | still_call (HCV.out))
    refine wpStill_nil ?_
    change wpList _ _ _ _ _ wB.drew
    have HB12 := Lib.hid (HBB.out.drew)
    have hcell2 : ∀ j (h : j < y.data.toList.length), wB.drew.cell? ⟨w11.heap.size, j, none⟩ = some (.int .u8 (y.data.toList[j].toNat : Int)) := HBN.out.cell
    have hcell3 : wB.drew.cell? ⟨w11.heap.size, kk, none⟩ = some (.int .u8 (u.toNat : Int)) := hcell
    have hfree2 : wB.drew.frozen? ⟨w11.heap.size, kk, none⟩ = false := hfree
    have hge := HB11.out.size
    generalize wB.drew = wD at *
    have hcells : ∀ j (hj : j < (y.data.toList.set kk b).length), (wD.setCell ⟨w11.heap.size, kk, none⟩ (.int .u8 (b.toNat : Int))).cell? ((⟨w11.heap.size, 0, none⟩ : Addr).add j) = some (.int .u8 ((y.data.toList.set kk b)[j].toNat : Int)) := by
      intro j hj
      have hj2 : j < y.data.toList.length := by simpa using hj
      rw [show ((⟨w11.heap.size, 0, none⟩ : Addr).add j) = ⟨w11.heap.size, j, none⟩ from by simp [Addr.add]; omega]
      by_cases e : j = kk
      · subst e
        rw [List.getElem_set_self]
        exact World.cell?_setCell_same _ _ _ hcell3
      · rw [List.getElem_set_ne (fun h => e h.symm), World.cell?_setCell_other _ _ _ _ (by simp)]
        exact hcell2 j hj2
    have hcv2 := run_convert_bytes_back (P := Tryd.prog) (wD.setCell ⟨w11.heap.size, kk, none⟩ (.int .u8 (b.toNat : Int))) 35 9 5 ⟨w11.heap.size, 0, none⟩ (grownCap w11 y.size 0 5) (y.data.toList.set kk b) Tryd.underlying35 Tryd.underlying5 Tryd.underlying9 hcells
    rw [List.length_set, HLL.out] at hcv2
    have hvn := HSP.out kk b ⟨(y.data.toList.set kk b).toArray⟩ (by rw [HLL.out]; exact hkl) (fun e => HNE.out (by rw [e, ← HU.out])) (by simp)
    have hy2 : (⟨(y.data.toList.set kk b).toArray⟩ : ByteArray).size = y.size := by
      show (y.data.toList.set kk b).toArray.size = _
      rw [List.size_toArray, List.length_set, HLL.out]
    generalize (⟨(y.data.toList.set kk b).toArray⟩ : ByteArray) = y2 at hcv2 hvn hy2
    have q9 := fun w h => implVer_any y2 w (by omega) h
    rw [hvn] at q9
    have Q9 := Lib.hid q9
    have HB13 := Lib.hid (HB12.out.setCell (p := ⟨w11.heap.size, kk, none⟩) hge (.int .u8 (b.toNat : Int)))
    clear hcells hcell2 hvn hy2 q9 hcell hfree HBN hw1 hw2 hm0
    go_wp2_with fail
    refine (Q9.out _ (HT.out.below HB13.out).pow).mono ?_
    rintro e w14 ⟨rfl, hb⟩
    have HB14 := Lib.hid (HB13.out.trans (hb.mono HB13.out.size))
    clear hb
    go_wp2_with fail
    go_ret
    exact ⟨rfl, HB14.out⟩
end Go.Proofs.YtbgfdhghhaoabaaDoor
