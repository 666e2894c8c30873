/- The law FnTeeth, walked out of the contracts. -/
import Derived.Test.YtidiecffahaojaaCurN
import Derived.Test.YtidiecffahaojaaTeethF
import Derived.Test.YtidiecffahaojaaHolesOn
namespace Go.Proofs.Ytidiecffahaojaa
open Go.ChangeShapes Go.WideShapes Go.ChangeAt Go.RowKit

theorem rBig_any (a : Option Addr) (len cap : Nat) (w : World) : Calls Try.prog 14 #[.slice a len cap] w fun e w' => e = .returned (.bool (decide ((65536 : Int) < (len : Int)))) ∧ w = w' := by
  go_enter Try.func14, Try.ntmps14
  go_wp2_with fail
  go_ret
  exact ⟨rfl, rfl⟩
theorem ints_map_snoc (zs : List Int) {k : Nat} (h : k < zs.length) : (moved zs).take (k + 1) = (moved zs).take k ++ [zs.getD k 0 + 1] := by
  rw [List.take_succ_eq_append_getElem (by rw [moved_length]; exact h)]
  rw [getD_of h]; simp [moved]
theorem len_take {zs : List Int} {k : Nat} (h : k ≤ zs.length) : ((moved zs).take k).length = k := by rw [List.length_take, moved_length, Nat.min_eq_left h]
set_option maxRecDepth 100000 in
set_option maxHeartbeats 40000000 in
theorem FnTeeth_walk {w : World} (x : Slc × List Int) (h : BytesIn w x.1 x.2) : Calls Try.prog 4 #[x.1.val] w fun e w' => e = .returned (.bool true) ∧ Below w.heap.size w w' := by
  obtain ⟨i0, hi, hy0, hy1, hy2⟩ := info_parts info_int
  obtain ⟨⟨ad, len, cap⟩, cs⟩ := x
  obtain ⟨hs, hm, hr, hz⟩ := h
  simp only at hs hm hr hz
  subst hs
  have HR := Lib.hid hr
  have HM := Lib.hid hm
  have HZ := Lib.hid hz
  have hR := fun w => rBig_any ad cs.length cap w
  clear hr hz
  by_cases hbig : (65536 : Int) < (cs.length : Int)
  · rw [decide_eq_true hbig] at hR
    have HRB := Lib.hid hR
    clear hR hm hbig
    go_enter Try.func4, Try.ntmps4
    go_wp2_with fail
    refine (HRB.out _).mono ?_
    rintro e _ ⟨rfl, rfl⟩
    go_wp2_with fail
    go_ret
    exact ⟨rfl, Below.refl _ _⟩
  rw [decide_eq_false hbig] at hR
  have HRB := Lib.hid hR
  clear hR hm hbig
  go_enter Try.func4, Try.ntmps4
  go_wp2_with fail
  refine (HRB.out _).mono ?_
  rintro e _ ⟨rfl, rfl⟩
  go_wp2_with fail
  refine (drawGaugeOf_any _ _ cs _ HM.out HR.out HZ.out).mono ?_
  rintro e w1 ⟨zd, zc, zs, rfl, hin, hrd, hb⟩
  have hlen : zs.length ≤ 42 := hin.1
  have hmx : zs.length ≤ maxLen := by unfold maxLen; omega
  have HIN := Lib.hid hin.2
  have HRD := Lib.hid hrd
  have HB1 := Lib.hid hb
  have q1 := fun w h => implGaugeOf_any zd zc zs w hmx h
  have q2 := fun w h => specGaugeOf_any zd zc zs w hmx h
  have q3 := fun w h => implEven_any zd zc zs w hmx h
  have q4 := fun w h => specEven_any zd zc zs w hmx h
  obtain ⟨g1, hg1⟩ : ∃ g, g = (gaugeOfF zs).1 := ⟨_, rfl⟩
  obtain ⟨g2, hg2⟩ : ∃ g, g = (gaugeOfF zs).2 := ⟨_, rfl⟩
  obtain ⟨e1, he1⟩ : ∃ g, g = (evenF zs).1 := ⟨_, rfl⟩
  obtain ⟨e2, he2⟩ : ∃ g, g = (evenF zs).2 := ⟨_, rfl⟩
  rw [← hg1, ← hg2] at q1 q2
  rw [← he1, ← he2] at q3 q4
  have Q1 := Lib.hid q1
  have Q2 := Lib.hid q2
  have Q3 := Lib.hid q3
  have Q4 := Lib.hid q4
  have HG1 := Lib.hid hg1
  have HG2 := Lib.hid hg2
  have HEV : Hid (e2 = holesB zs) := Lib.hid (by rw [he2]; unfold evenF; cases holesB zs <;> simp)
  clear q1 q2 q3 q4 hin hrd hb hg1 hg2 he1 he2
  go_wp2_with fail
  refine (Q1.out _ HRD.out).mono ?_
  rintro e w2 ⟨rfl, hd⟩
  have HB2 := Lib.hid (HB1.out.trans ((hd.below _).mono HB1.out.size))
  have HR2 := Lib.hid (HRD.out.below (hd.below _))
  clear hd
  go_wp2_with fail
  refine (Q2.out _ HR2.out).mono ?_
  rintro e w3 ⟨rfl, hd⟩
  have HB3 := Lib.hid (HB2.out.trans ((hd.below _).mono HB2.out.size))
  have HR3 := Lib.hid (HR2.out.below (hd.below _))
  clear hd
  go_wp2_with fail
  refine (Q3.out _ HR3.out).mono ?_
  rintro e w4 ⟨rfl, hd⟩
  have HB4 := Lib.hid (HB3.out.trans (hd.mono HB3.out.size))
  have HR4 := Lib.hid (HR3.out.below hd)
  clear hd
  go_wp2_with fail
  refine (Q4.out _ HR4.out).mono ?_
  rintro e w5 ⟨rfl, hd⟩
  have HB5 := Lib.hid (HB4.out.trans ((hd.below _).mono HB4.out.size))
  have HR5 := Lib.hid (HR4.out.below (hd.below _))
  clear hd HB1 HB2 HB3 HB4 HR2 HR3 HR4 HRD Q1 Q2 Q3 Q4
  have hev := HEV.out
  obtain ⟨hv, hhv⟩ : ∃ b, b = holesB zs := ⟨_, rfl⟩
  rw [← hhv] at hev
  have HHV := Lib.hid hhv
  clear HEV hhv
  subst hev
  have hzs : e2 = true → Holes zs := fun h => holes_of (by rw [← HHV.out]; exact h)
  have HHO := Lib.hid hzs
  clear hzs
  -- three ways: no holes; the last one is at the end; the others
  by_cases hC : e2 = true ∧ zs.getD (zs.length - 1) 0 < 9999
  rotate_left
  · cases e2
    · go_wp2_with fail
      obtain ⟨wz, hwz⟩ : ∃ wz, wz = w5 := ⟨w5, rfl⟩
      rw [← hwz]
      have HBz : Hid (Below w.heap.size w wz) := Lib.hid (by rw [hwz]; exact HB5.out)
      clear hC HHV HIN HG1 HG2 hwz HB5 HR5
      refine (drawIsPair_any _ _ cs _ HM.out (HR.out.below HBz.out) HZ.out).mono ?_
      rintro e w6 ⟨pa, pb, ca, cb, za, zb, off, rfl, hoff, hia, hib, hra, hrb, hb⟩
      have hla : za.length ≤ maxLen := by have := hia.1; unfold maxLen; omega
      have hlb : zb.length ≤ maxLen := by have := hib.1; unfold maxLen; omega
      have HB6 := Lib.hid (HBz.out.trans (hb.mono HBz.out.size))
      have HPA := Lib.hid hra
      have HPB := Lib.hid hrb
      obtain ⟨p1, hp1⟩ : ∃ g, g = (pairF za zb off).1 := ⟨_, rfl⟩
      obtain ⟨p2, hp2⟩ : ∃ g, g = (pairF za zb off).2 := ⟨_, rfl⟩
      have q1 := fun w h1 h2 => implPair_any pa pb ca cb za zb off w hla hlb h1 h2
      have q2 := fun w h1 h2 => specPair_any pa pb ca cb za zb off w hla hlb h1 h2
      have q3 := fun w h1 h2 => implPair_any pb pa cb ca zb za off w hlb hla h1 h2
      rw [pairF_symm zb za] at q3
      rw [← hp1, ← hp2] at q1 q2 q3
      have Q1 := Lib.hid q1
      have Q2 := Lib.hid q2
      have Q3 := Lib.hid q3
      clear q1 q2 q3 hp1 hp2 hla hlb hia hib hra hrb hb
      go_wp2_with fail
      refine (Q1.out _ HPA.out HPB.out).mono ?_
      rintro e w7 ⟨rfl, hd⟩
      have HB7 := Lib.hid (HB6.out.trans ((hd.below _).mono HB6.out.size))
      have HA7 := Lib.hid (HPA.out.below (hd.below _))
      have HP7 := Lib.hid (HPB.out.below (hd.below _))
      clear hd
      go_wp2_with fail
      refine (Q2.out _ HA7.out HP7.out).mono ?_
      rintro e w8 ⟨rfl, hd⟩
      have HB8 := Lib.hid (HB7.out.trans ((hd.below _).mono HB7.out.size))
      have HA8 := Lib.hid (HA7.out.below (hd.below _))
      have HP8 := Lib.hid (HP7.out.below (hd.below _))
      clear hd
      go_wp2_with fail
      refine (Q3.out _ HP8.out HA8.out).mono ?_
      rintro e w9 ⟨rfl, hd⟩
      have HB9 := Lib.hid (HB8.out.trans ((hd.below _).mono HB8.out.size))
      clear hd Q1 Q2 Q3 HA7 HA8 HP7 HP8 HPA HPB HB6 HB7 HB8
      go_wp2_with fail
      refine (drawMissing_any _ _ cs _ HM.out (HR.out.below HB9.out) HZ.out).mono ?_
      rintro e w10 ⟨ud, uc, us, ug, rfl, hug, hiu, hru, hb⟩
      have hlu : us.length ≤ maxLen := by have := hiu.1; unfold maxLen; omega
      have HB10 := Lib.hid (HB9.out.trans (hb.mono HB9.out.size))
      have HPU := Lib.hid hru
      have q1 := fun w h1 => implMissing_any ud uc us ug w hlu h1
      have q2 := fun w h1 => specMissing_any ud uc us ug w hlu h1
      have hm0 := missF_nonneg us ug
      obtain ⟨m1, hm1⟩ : ∃ g, g = (missF us ug).1 := ⟨_, rfl⟩
      obtain ⟨m2, hm2⟩ : ∃ g, g = (missF us ug).2 := ⟨_, rfl⟩
      rw [← hm1, ← hm2] at q1 q2
      rw [← hm1] at hm0
      have hmd : decide (m1 < 0) = false := by simpa using hm0
      have Q1 := Lib.hid q1
      have Q2 := Lib.hid q2
      clear q1 q2 hm1 hm2 hlu hiu hru hb hm0
      go_wp2_with fail
      refine (Q1.out _ HPU.out).mono ?_
      rintro e w11 ⟨rfl, hd⟩
      have HB11 := Lib.hid (HB10.out.trans ((hd.below _).mono HB10.out.size))
      have HU11 := Lib.hid (HPU.out.below (hd.below _))
      clear hd
      go_wp2_with fail
      refine (Q2.out _ HU11.out).mono ?_
      rintro e w12 ⟨rfl, hd⟩
      have HB12 := Lib.hid (HB11.out.trans ((hd.below _).mono HB11.out.size))
      clear hd Q1 Q2 HU11 HPU HB9 HB10 HB11
      go_wp2_with fail
      refine (drawHolesOn_any _ _ cs _ HM.out (HR.out.below HB12.out) HZ.out).mono ?_
      rintro e w13 ⟨hx, hy, rfl, hx1, hy1, hb⟩
      have HB13 := Lib.hid (HB12.out.trans (hb.mono HB12.out.size))
      obtain ⟨o1, ho1⟩ : ∃ g, g = (holesOnF hx hy).1 := ⟨_, rfl⟩
      obtain ⟨o2, ho2⟩ : ∃ g, g = (holesOnF hx hy).2 := ⟨_, rfl⟩
      have q1 := fun w => implHolesOn_any hx hy w
      have q2 := fun w => specHolesOn_any hx hy w
      rw [← ho1, ← ho2] at q1 q2
      have Q1 := Lib.hid q1
      have Q2 := Lib.hid q2
      clear q1 q2 ho1 ho2 hb HB12
      go_wp2_with fail
      refine (Q1.out _).mono ?_
      rintro e _ ⟨rfl, rfl⟩
      go_wp2_with fail
      refine (Q2.out _).mono ?_
      rintro e _ ⟨rfl, rfl⟩
      go_wp2_with fail
      go_ret
      exact ⟨rfl, HB13.out⟩
    · have hC' : ¬ zs.getD (zs.length - 1) 0 < 9999 := fun h => hC ⟨rfl, h⟩
      have q := HHO.out rfl
      have h2 := q.two
      rw [getD_of (show zs.length - 1 < zs.length by omega)] at hC'
      rcases HR5.out with h0 | ⟨b, off, rfl, hb, hc⟩
      · simp [ints] at h0; subst h0; simp at h2
      have hc1 := hc (zs.length - 1) _ (ints_get (show zs.length - 1 < zs.length by omega))
      obtain ⟨z, hz⟩ : ∃ z, z = zs[zs.length - 1] := ⟨_, rfl⟩
      rw [← hz] at hc1 hC'
      have hd : decide (z < 9999) = false := by simpa using hC'
      clear hc hz q
      go_wp2_with fail
      obtain ⟨wz, hwz⟩ : ∃ wz, wz = w5 := ⟨w5, rfl⟩
      rw [← hwz]
      have HBz : Hid (Below w.heap.size w wz) := Lib.hid (by rw [hwz]; exact HB5.out)
      clear hC HHV HIN HG1 HG2 hwz HB5 HR5 hc1
      refine (drawIsPair_any _ _ cs _ HM.out (HR.out.below HBz.out) HZ.out).mono ?_
      rintro e w6 ⟨pa, pb, ca, cb, za, zb, off, rfl, hoff, hia, hib, hra, hrb, hb⟩
      have hla : za.length ≤ maxLen := by have := hia.1; unfold maxLen; omega
      have hlb : zb.length ≤ maxLen := by have := hib.1; unfold maxLen; omega
      have HB6 := Lib.hid (HBz.out.trans (hb.mono HBz.out.size))
      have HPA := Lib.hid hra
      have HPB := Lib.hid hrb
      obtain ⟨p1, hp1⟩ : ∃ g, g = (pairF za zb off).1 := ⟨_, rfl⟩
      obtain ⟨p2, hp2⟩ : ∃ g, g = (pairF za zb off).2 := ⟨_, rfl⟩
      have q1 := fun w h1 h2 => implPair_any pa pb ca cb za zb off w hla hlb h1 h2
      have q2 := fun w h1 h2 => specPair_any pa pb ca cb za zb off w hla hlb h1 h2
      have q3 := fun w h1 h2 => implPair_any pb pa cb ca zb za off w hlb hla h1 h2
      rw [pairF_symm zb za] at q3
      rw [← hp1, ← hp2] at q1 q2 q3
      have Q1 := Lib.hid q1
      have Q2 := Lib.hid q2
      have Q3 := Lib.hid q3
      clear q1 q2 q3 hp1 hp2 hla hlb hia hib hra hrb hb
      go_wp2_with fail
      refine (Q1.out _ HPA.out HPB.out).mono ?_
      rintro e w7 ⟨rfl, hd⟩
      have HB7 := Lib.hid (HB6.out.trans ((hd.below _).mono HB6.out.size))
      have HA7 := Lib.hid (HPA.out.below (hd.below _))
      have HP7 := Lib.hid (HPB.out.below (hd.below _))
      clear hd
      go_wp2_with fail
      refine (Q2.out _ HA7.out HP7.out).mono ?_
      rintro e w8 ⟨rfl, hd⟩
      have HB8 := Lib.hid (HB7.out.trans ((hd.below _).mono HB7.out.size))
      have HA8 := Lib.hid (HA7.out.below (hd.below _))
      have HP8 := Lib.hid (HP7.out.below (hd.below _))
      clear hd
      go_wp2_with fail
      refine (Q3.out _ HP8.out HA8.out).mono ?_
      rintro e w9 ⟨rfl, hd⟩
      have HB9 := Lib.hid (HB8.out.trans ((hd.below _).mono HB8.out.size))
      clear hd Q1 Q2 Q3 HA7 HA8 HP7 HP8 HPA HPB HB6 HB7 HB8
      go_wp2_with fail
      refine (drawMissing_any _ _ cs _ HM.out (HR.out.below HB9.out) HZ.out).mono ?_
      rintro e w10 ⟨ud, uc, us, ug, rfl, hug, hiu, hru, hb⟩
      have hlu : us.length ≤ maxLen := by have := hiu.1; unfold maxLen; omega
      have HB10 := Lib.hid (HB9.out.trans (hb.mono HB9.out.size))
      have HPU := Lib.hid hru
      have q1 := fun w h1 => implMissing_any ud uc us ug w hlu h1
      have q2 := fun w h1 => specMissing_any ud uc us ug w hlu h1
      have hm0 := missF_nonneg us ug
      obtain ⟨m1, hm1⟩ : ∃ g, g = (missF us ug).1 := ⟨_, rfl⟩
      obtain ⟨m2, hm2⟩ : ∃ g, g = (missF us ug).2 := ⟨_, rfl⟩
      rw [← hm1, ← hm2] at q1 q2
      rw [← hm1] at hm0
      have hmd : decide (m1 < 0) = false := by simpa using hm0
      have Q1 := Lib.hid q1
      have Q2 := Lib.hid q2
      clear q1 q2 hm1 hm2 hlu hiu hru hb hm0
      go_wp2_with fail
      refine (Q1.out _ HPU.out).mono ?_
      rintro e w11 ⟨rfl, hd⟩
      have HB11 := Lib.hid (HB10.out.trans ((hd.below _).mono HB10.out.size))
      have HU11 := Lib.hid (HPU.out.below (hd.below _))
      clear hd
      go_wp2_with fail
      refine (Q2.out _ HU11.out).mono ?_
      rintro e w12 ⟨rfl, hd⟩
      have HB12 := Lib.hid (HB11.out.trans ((hd.below _).mono HB11.out.size))
      clear hd Q1 Q2 HU11 HPU HB9 HB10 HB11
      go_wp2_with fail
      refine (drawHolesOn_any _ _ cs _ HM.out (HR.out.below HB12.out) HZ.out).mono ?_
      rintro e w13 ⟨hx, hy, rfl, hx1, hy1, hb⟩
      have HB13 := Lib.hid (HB12.out.trans (hb.mono HB12.out.size))
      obtain ⟨o1, ho1⟩ : ∃ g, g = (holesOnF hx hy).1 := ⟨_, rfl⟩
      obtain ⟨o2, ho2⟩ : ∃ g, g = (holesOnF hx hy).2 := ⟨_, rfl⟩
      have q1 := fun w => implHolesOn_any hx hy w
      have q2 := fun w => specHolesOn_any hx hy w
      rw [← ho1, ← ho2] at q1 q2
      have Q1 := Lib.hid q1
      have Q2 := Lib.hid q2
      clear q1 q2 ho1 ho2 hb HB12
      go_wp2_with fail
      refine (Q1.out _).mono ?_
      rintro e _ ⟨rfl, rfl⟩
      go_wp2_with fail
      refine (Q2.out _).mono ?_
      rintro e _ ⟨rfl, rfl⟩
      go_wp2_with fail
      go_ret
      exact ⟨rfl, HB13.out⟩
  · obtain ⟨rfl, hl⟩ := hC
    have q := HHO.out rfl
    have h2 := q.two
    have h40 := q.forty
    have HHI : Hid (∀ i, i < zs.length → -1000 ≤ zs.getD i 0 ∧ zs.getD i 0 ≤ 20000) := Lib.hid (fun i h => by have := q.lo i h; have := q.hi i h; omega)
    have HLA := Lib.hid hl
    have hread := HR5.out
    rw [getD_of (show zs.length - 1 < zs.length by omega)] at hl
    rcases hread with h0 | ⟨b, off, rfl, hb, hc⟩
    · simp [ints] at h0; subst h0; simp at h2
    have hc1 := hc (zs.length - 1) _ (ints_get (show zs.length - 1 < zs.length by omega))
    obtain ⟨z, hz⟩ : ∃ z, z = zs[zs.length - 1] := ⟨_, rfl⟩
    rw [← hz] at hc1 hl
    have hd : decide (z < 9999) = true := by simpa using hl
    have HCC := Lib.hid hc
    clear hc hz q
    have HO0 : Hid ((w5.alloc (.cells #[] 3)).ownsRow w5.heap.size 3 1 (.slice (some ⟨w5.heap.size, 0, none⟩) 0 0) 0 (ints ((moved zs).take 0))) := Lib.hid (RowIs.owns (RowIs.new w5 3 ([] : List Value)) (n := 0) (sz := 1) rfl (by unfold maxLen; omega) (Nat.le_refl _))
    go_wp2_with fail
    clear hc1
    go_loopw [12, 13] (fun v i wr => ∃ k : Nat, k ≤ zs.length ∧ i = .int .i64 k ∧ (∃ ad cp, v = .slice ad k cp) ∧ wr.ownsRow w5.heap.size 3 1 v k (ints ((moved zs).take k)) ∧ Below w5.heap.size w5 wr) (fun _ i _ => 42 - (intOf i).toNat)
    case atStart => exact ⟨0, by omega, rfl, ⟨_, _, rfl⟩, HO0.out, Go.Joins.below_alloc1 _ _⟩
    case round =>
      obtain ⟨k, hk, rfl, ⟨yd, yc, rfl⟩, hown, hbel⟩ := hrel
      have HOW := Lib.hid hown
      have HBL := Lib.hid hbel
      clear hown hbel HO0
      by_cases hlt : k < zs.length
      · have hck := (HBL.out.cell (p := ⟨b, off + k, none⟩) hb).trans (HCC.out k _ (ints_get hlt))
        rw [← getD_of hlt] at hck
        obtain ⟨hz1, hz2⟩ := HHI.out k hlt
        have HSN : Hid (∀ u, u = zs.getD k 0 → ints ((moved zs).take (k + 1)) = ints ((moved zs).take k) ++ [.int .i64 (u + 1)]) := Lib.hid (fun u hu => by rw [hu, ints_map_snoc zs hlt]; simp [ints])
        obtain ⟨u, hu⟩ : ∃ u, u = zs.getD k 0 := ⟨_, rfl⟩
        have HSN2 := Lib.hid (HSN.out u hu)
        rw [← hu] at hck hz1 hz2
        clear hu HSN
        go_wp2_with (at_builtin; go_must (refine wpList_append_own _ rfl _ _ 36 rfl w5.heap.size 3 i0 (.int .i64 0) 1 8 Try.underlying36 hi hy0 hy1 hy2 rfl (by decide) _ _ _ rfl (HOW.out.alloc _) ⟨wr.heap.size, 0, none⟩ 1 1 [.int .i64 (u + 1)] rfl rfl (World.news_of_block (cs := #[.int .i64 (u + 1)]) (t := 3) (fr := (0, 0)) (heap_alloc_new _ _)) (by simp [Value.oneCell']) (by show k + 1 ≤ maxLen; unfold maxLen; omega) (show (k + 1) * 8 ≤ 140737488355328 by omega) (Nat.le_trans HBL.out.size (by simp)) ?_))
        intro v' w9 hown9 hgrow9 _
        obtain ⟨yg, yc9, hv⟩ := Go.Joins.ownsRow_form hown9 (by omega)
        have HB9 : Hid (Below w5.heap.size w5 w9) := Lib.hid ((HBL.out.alloc HBL.out.size _).grown hgrow9 (Nat.le_trans HBL.out.size (by simp)) (fun q hq => (HOW.out.lt q hq).1))
        have HO9 : Hid (w9.ownsRow w5.heap.size 3 1 v' (k + 1) (ints ((moved zs).take (k + 1)))) := Lib.hid (by rw [HSN2.out]; simpa only [ints, List.map_take] using hown9)
        clear hown9 hgrow9 hck hz1 hz2 HSN2
        go_wp2_with fail
        go_roundw
        case rel => exact ⟨k + 1, by omega, by go_num, ⟨_, _, hv⟩, HO9.out, HB9.out⟩
        case measure => simp [intOf]; omega
      · obtain rfl : k = zs.length := by omega
        have HTK : Hid (Reads wr yd (ints (moved zs))) := Lib.hid (by have := own_reads HOW.out; rwa [List.take_of_length_le (by rw [moved_length]; omega)] at this)
        have HRz := Lib.hid (HR5.out.below HBL.out)
        have HBr := Lib.hid (HB5.out.trans (HBL.out.mono HB5.out.size))
        have hlm : (moved zs).length ≤ maxLen := by rw [moved_length]; exact hmx
        have q1 := fun w h1 h2 => implPair_any (some ⟨b, off, none⟩) yd zc yc zs (moved zs) 0 w hmx hlm h1 h2
        have q2 := fun w h1 => implGaugeOf_any yd yc (moved zs) w hlm h1
        rw [moved_pair HHV.out.symm HLA.out, moved_length] at q1
        rw [moved_gauge HHV.out.symm HLA.out, ← HG1.out, ← HG2.out, moved_length] at q2
        have Q1 := Lib.hid q1
        have Q2 := Lib.hid q2
        clear q1 q2 hlm hl hd
        go_wp2_with fail
        refine (Q1.out _ HRz.out HTK.out).mono ?_
        rintro e w6 ⟨rfl, hd⟩
        have HBs := Lib.hid (HBr.out.trans ((hd.below _).mono HBr.out.size))
        have HTs := Lib.hid (HTK.out.below (hd.below _))
        clear hd
        go_wp2_with fail
        refine (Q2.out _ HTs.out).mono ?_
        rintro e wz ⟨rfl, hd⟩
        have HBz := Lib.hid (HBs.out.trans ((hd.below _).mono HBs.out.size))
        clear hd Q1 Q2 HTs HTK HRz HBr HBs HBL HOW HB5 HR5 HCC HLA HHI HHO HHV HIN HG1 HG2
        go_wp2_with fail
        refine (drawIsPair_any _ _ cs _ HM.out (HR.out.below HBz.out) HZ.out).mono ?_
        rintro e w6 ⟨pa, pb, ca, cb, za, zb, off, rfl, hoff, hia, hib, hra, hrb, hb⟩
        have hla : za.length ≤ maxLen := by have := hia.1; unfold maxLen; omega
        have hlb : zb.length ≤ maxLen := by have := hib.1; unfold maxLen; omega
        have HB6 := Lib.hid (HBz.out.trans (hb.mono HBz.out.size))
        have HPA := Lib.hid hra
        have HPB := Lib.hid hrb
        obtain ⟨p1, hp1⟩ : ∃ g, g = (pairF za zb off).1 := ⟨_, rfl⟩
        obtain ⟨p2, hp2⟩ : ∃ g, g = (pairF za zb off).2 := ⟨_, rfl⟩
        have q1 := fun w h1 h2 => implPair_any pa pb ca cb za zb off w hla hlb h1 h2
        have q2 := fun w h1 h2 => specPair_any pa pb ca cb za zb off w hla hlb h1 h2
        have q3 := fun w h1 h2 => implPair_any pb pa cb ca zb za off w hlb hla h1 h2
        rw [pairF_symm zb za] at q3
        rw [← hp1, ← hp2] at q1 q2 q3
        have Q1 := Lib.hid q1
        have Q2 := Lib.hid q2
        have Q3 := Lib.hid q3
        clear q1 q2 q3 hp1 hp2 hla hlb hia hib hra hrb hb
        go_wp2_with fail
        refine (Q1.out _ HPA.out HPB.out).mono ?_
        rintro e w7 ⟨rfl, hd⟩
        have HB7 := Lib.hid (HB6.out.trans ((hd.below _).mono HB6.out.size))
        have HA7 := Lib.hid (HPA.out.below (hd.below _))
        have HP7 := Lib.hid (HPB.out.below (hd.below _))
        clear hd
        go_wp2_with fail
        refine (Q2.out _ HA7.out HP7.out).mono ?_
        rintro e w8 ⟨rfl, hd⟩
        have HB8 := Lib.hid (HB7.out.trans ((hd.below _).mono HB7.out.size))
        have HA8 := Lib.hid (HA7.out.below (hd.below _))
        have HP8 := Lib.hid (HP7.out.below (hd.below _))
        clear hd
        go_wp2_with fail
        refine (Q3.out _ HP8.out HA8.out).mono ?_
        rintro e w9 ⟨rfl, hd⟩
        have HB9 := Lib.hid (HB8.out.trans ((hd.below _).mono HB8.out.size))
        clear hd Q1 Q2 Q3 HA7 HA8 HP7 HP8 HPA HPB HB6 HB7 HB8
        go_wp2_with fail
        refine (drawMissing_any _ _ cs _ HM.out (HR.out.below HB9.out) HZ.out).mono ?_
        rintro e w10 ⟨ud, uc, us, ug, rfl, hug, hiu, hru, hb⟩
        have hlu : us.length ≤ maxLen := by have := hiu.1; unfold maxLen; omega
        have HB10 := Lib.hid (HB9.out.trans (hb.mono HB9.out.size))
        have HPU := Lib.hid hru
        have q1 := fun w h1 => implMissing_any ud uc us ug w hlu h1
        have q2 := fun w h1 => specMissing_any ud uc us ug w hlu h1
        have hm0 := missF_nonneg us ug
        obtain ⟨m1, hm1⟩ : ∃ g, g = (missF us ug).1 := ⟨_, rfl⟩
        obtain ⟨m2, hm2⟩ : ∃ g, g = (missF us ug).2 := ⟨_, rfl⟩
        rw [← hm1, ← hm2] at q1 q2
        rw [← hm1] at hm0
        have hmd : decide (m1 < 0) = false := by simpa using hm0
        have Q1 := Lib.hid q1
        have Q2 := Lib.hid q2
        clear q1 q2 hm1 hm2 hlu hiu hru hb hm0
        go_wp2_with fail
        refine (Q1.out _ HPU.out).mono ?_
        rintro e w11 ⟨rfl, hd⟩
        have HB11 := Lib.hid (HB10.out.trans ((hd.below _).mono HB10.out.size))
        have HU11 := Lib.hid (HPU.out.below (hd.below _))
        clear hd
        go_wp2_with fail
        refine (Q2.out _ HU11.out).mono ?_
        rintro e w12 ⟨rfl, hd⟩
        have HB12 := Lib.hid (HB11.out.trans ((hd.below _).mono HB11.out.size))
        clear hd Q1 Q2 HU11 HPU HB9 HB10 HB11
        go_wp2_with fail
        refine (drawHolesOn_any _ _ cs _ HM.out (HR.out.below HB12.out) HZ.out).mono ?_
        rintro e w13 ⟨hx, hy, rfl, hx1, hy1, hb⟩
        have HB13 := Lib.hid (HB12.out.trans (hb.mono HB12.out.size))
        obtain ⟨o1, ho1⟩ : ∃ g, g = (holesOnF hx hy).1 := ⟨_, rfl⟩
        obtain ⟨o2, ho2⟩ : ∃ g, g = (holesOnF hx hy).2 := ⟨_, rfl⟩
        have q1 := fun w => implHolesOn_any hx hy w
        have q2 := fun w => specHolesOn_any hx hy w
        rw [← ho1, ← ho2] at q1 q2
        have Q1 := Lib.hid q1
        have Q2 := Lib.hid q2
        clear q1 q2 ho1 ho2 hb HB12
        go_wp2_with fail
        refine (Q1.out _).mono ?_
        rintro e _ ⟨rfl, rfl⟩
        go_wp2_with fail
        refine (Q2.out _).mono ?_
        rintro e _ ⟨rfl, rfl⟩
        go_wp2_with fail
        go_ret
        exact ⟨rfl, HB13.out⟩
end Go.Proofs.Ytidiecffahaojaa
