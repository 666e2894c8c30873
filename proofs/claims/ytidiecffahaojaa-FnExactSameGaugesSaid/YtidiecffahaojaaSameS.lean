/- SameGauges, the reference's side. -/
import Derived.Test.YtidiecffahaojaaSameM
namespace Go.Proofs.Ytidiecffahaojaa
open Go.RowKit

theorem sameB_code (x c : CombT) : sameB x c = ((c.wide == x.wide) && (c.high == x.high)) := by rw [sameB_symm]; rfl
def sameF (zs : List CombT) : List (List Int) := if combsOk zs = true then sameAll zs zs.length else []
set_option maxRecDepth 100000 in
set_option maxHeartbeats 4000000 in
theorem specSame_any (a : Option Addr) (cap : Nat) (zs : List CombT) (w : World) (hm : zs.length ≤ maxLen) (hr : Reads w a (combs zs)) :
    Calls Try.prog 6 #[.slice a zs.length cap] w fun e w' => ∃ ad cp rs, e = .returned (.tuple #[.slice ad rs.length cp, .bool (combsOk zs)]) ∧ zss rs = sameF zs ∧
      Own2 w' w.heap.size (.slice ad rs.length cp) rs ∧ Below w.heap.size w w' := by
  obtain ⟨i0, hi, hz0, hz1, hz2⟩ := info_parts info_int
  obtain ⟨j0, hj, hy0, hy1, hy2⟩ := info_parts info_slice
  have hA := fun w hr => l5Good_any a cap zs w hm hr
  have hown0 := Lib.hid (RowIs.owns (base := w.heap.size) (RowIs.made' w 36 ([] : List Value)) (n := 0) (sz := 1) rfl (by unfold maxLen; omega) (Nat.le_refl _))
  have hb0 := Lib.hid (Go.Joins.below_alloc1 w (.cells ([] : List Value).toArray 36))
  have HR := Lib.hid hr
  unfold sameF
  clear hr
  cases e1 : combsOk zs
  · rw [e1] at hA
    simp only [Bool.false_eq_true, if_false]
    have HA := Lib.hid hA
    clear hA
    unfold maxLen at hm
    go_enter Try.func6, Try.ntmps6
    go_wp2_with fail
    refine (HA.out _ (HR.out.below (Go.Joins.below_alloc1 w _))).mono ?_
    rintro e w1 ⟨rfl, hb⟩
    have HB := Lib.hid hb
    clear hb
    go_wp2_with fail
    go_ret2
    exact ⟨_, _, [], rfl, rfl, Own2.nil (own_below hown0.out HB.out), hb0.out.trans (HB.out.mono hb0.out.size)⟩
  rw [e1] at hA
  simp only [if_true]
  have q11 := combsOk_len e1
  have HA := Lib.hid hA
  clear hA e1
  unfold maxLen at hm
  go_enter Try.func6, Try.ntmps6
  go_wp2_with fail
  refine (HA.out _ (HR.out.below (Go.Joins.below_alloc1 w _))).mono ?_
  rintro e w1 ⟨rfl, hb⟩
  have HO1 := Lib.hid (Own2.nil (own_below hown0.out hb))
  have HB1 := Lib.hid (hb0.out.trans (hb.mono hb0.out.size))
  clear hb
  go_wp2_with fail
  go_loopw [4, 5] (fun v ci wr => ∃ (c : Nat) (rs : List Row2), c ≤ zs.length ∧ ci = .int .i64 c ∧ (∃ ad cp, v = .slice ad rs.length cp) ∧ zss rs = sameAll zs c ∧ Own2 wr w.heap.size v rs ∧ Below w.heap.size w wr) (fun _ ci _ => zs.length - (intOf ci).toNat)
  case atStart => exact ⟨0, [], by omega, rfl, ⟨_, _, rfl⟩, by simp [sameAll, firsts, zss], HO1.out, HB1.out⟩
  case round =>
    obtain ⟨c, rs, hc, rfl, ⟨ad, cp, rfl⟩, hzs, hown, hbel⟩ := hrel
    obtain ⟨wo, rfl⟩ : ∃ wo, wo = wr := ⟨wr, rfl⟩
    have HZS := Lib.hid hzs
    have HO := Lib.hid hown
    have HB := Lib.hid hbel
    have HRW := Lib.hid (HR.out.below hbel)
    have hlr : rs.length ≤ 10 := by have h1 := sameAll_len zs c; rw [← hzs] at h1; simp [zss] at h1; omega
    clear hzs hown hbel
    by_cases hlt : c < zs.length
    · have hu0 := Lib.hid (RowIs.owns (base := wo.heap.size) (RowIs.made' wo 3 ([] : List Value)) (n := 0) (sz := 1) rfl (by unfold maxLen; omega) (Nat.le_refl _))
      have hub := Lib.hid (Go.Joins.below_alloc1 wo (.cells ([] : List Value).toArray 3))
      have hd : decide ((c : Int) < (zs.length : Int)) = true := by simp; omega
      obtain ⟨x, hx⟩ : ∃ x, x = zs[c] := ⟨_, rfl⟩
      have HXC := Lib.hid hx
      have HGN := Lib.hid (fun h => sameAll_no (zs := zs) (i := c) hlt h)
      have HGY := Lib.hid (fun h => sameAll_yes (zs := zs) (i := c) hlt h)
      rw [← hx] at HGN HGY
      clear hx
      go_wp2_with fail
      clear hd
      go_loopw [6, 7, 8] (fun u f i wr => ∃ k : Nat, k ≤ zs.length ∧ i = .int .i64 k ∧ f = .bool (firstTo zs x c k) ∧ (∃ au cu, u = .slice au (idsToComb (sameB x) zs k).length cu) ∧ wr.ownsRow wo.heap.size 3 1 u (idsToComb (sameB x) zs k).length (ints (idsToComb (sameB x) zs k)) ∧ Below wo.heap.size wo wr) (fun _ _ i _ => zs.length - (intOf i).toNat)
      case atStart => exact ⟨0, Nat.zero_le _, rfl, by simp [firstTo], ⟨_, _, rfl⟩, by simpa [idsToComb] using hu0.out, hub.out⟩
      case round =>
        obtain ⟨k, hk, rfl, rfl, ⟨au, cu, rfl⟩, hrow, hbx⟩ := hrel
        have hlen := idsToComb_le (sameB x) zs k
        have HRO := Lib.hid hrow
        have HBX := Lib.hid hbx
        clear hrow
        by_cases hlt2 : k < zs.length
        · rcases HRW.out with h0 | ⟨b, bo, rfl, hb2, hcc⟩
          · have := combs_length zs; rw [h0] at this; simp at this; omega
          obtain ⟨g0, g1, g2, g3⟩ := combs_get hlt2
          obtain ⟨f0, f1, f2, f3⟩ := combs_get hlt
          have hc0 := (hbx.cell (p := ⟨b, _, none⟩) hb2).trans (hcc _ _ g0)
          have hc1 := (hbx.cell (p := ⟨b, _, none⟩) hb2).trans (hcc _ _ g1)
          have hc2 := (hbx.cell (p := ⟨b, _, none⟩) hb2).trans (hcc _ _ g2)
          have hd1 := (hbx.cell (p := ⟨b, _, none⟩) hb2).trans (hcc _ _ f1)
          have hd2 := (hbx.cell (p := ⟨b, _, none⟩) hb2).trans (hcc _ _ f2)
          rw [← HXC.out] at hd1 hd2
          simp only [← Nat.add_assoc] at hc1 hc2 hd1 hd2
          have hY := fun h => idsToComb_yes (p := sameB x) hlt2 h
          have hN := fun h => idsToComb_no (p := sameB x) hlt2 h
          have fY := fun h => firstTo_yes (x := x) (i := c) hlt2 h
          have fN := fun h => firstTo_no (x := x) (i := c) hlt2 h
          obtain ⟨z, hz⟩ : ∃ z, z = zs[k] := ⟨_, rfl⟩
          rw [← hz] at hc0 hc1 hc2
          have hsc := sameB_code x z
          rw [← hz] at hY hN fY fN
          have HY := Lib.hid hY
          have HN := Lib.hid hN
          have FY := Lib.hid fY
          have FN := Lib.hid fN
          have i1 : (0 : Int) ≤ (k : Int) := by omega
          have i2 : (k : Int) < (zs.length : Int) := by omega
          have i3 : (0 : Int) ≤ (c : Int) := by omega
          have i4 : (c : Int) < (zs.length : Int) := by omega
          clear hcc g0 g1 g2 g3 f0 f1 f2 f3 hbx hY hN fY fN hz
          cases e1 : (z.wide == x.wide)
          · have hs : sameB x z = false := by rw [hsc, e1]; rfl
            have hst := Lib.hid (HN.out hs)
            have hft := Lib.hid (FN.out hs)
            clear hs hsc HY HN FY FN
            go_wp2_with fail
            go_quiet (fail)
            go_wp2_with fail
            go_roundw
            case rel => exact ⟨k + 1, by omega, by go_num, by rw [hft.out], ⟨_, _, by rw [hst.out]⟩, by rw [hst.out]; exact own_dr HRO.out (Dr.of _ _), HBX.out.trans ((Dr.of _ _).below _)⟩
            case measure => simp [intOf]; omega
          cases e2 : (z.high == x.high)
          · have hs : sameB x z = false := by rw [hsc, e1, e2]; rfl
            have hst := Lib.hid (HN.out hs)
            have hft := Lib.hid (FN.out hs)
            clear hs hsc HY HN FY FN
            go_wp2_with fail
            go_quiet (fail)
            go_wp2_with fail
            go_roundw
            case rel => exact ⟨k + 1, by omega, by go_num, by rw [hft.out], ⟨_, _, by rw [hst.out]⟩, by rw [hst.out]; exact own_dr HRO.out (Dr.of _ _), HBX.out.trans ((Dr.of _ _).below _)⟩
            case measure => simp [intOf]; omega
          · have hs : sameB x z = true := by rw [hsc, e1, e2]; rfl
            have hst := Lib.hid (HY.out hs)
            have hft := Lib.hid (FY.out hs)
            clear hs hsc HY HN FY FN
            generalize firstTo zs x c k = fk at *
            cases fk <;> by_cases hci : c ≤ k
            all_goals
              have hd3 : decide (c ≤ k) = decide (c ≤ k) := rfl
              first | have hd4 : decide (c ≤ k) = true := (by simpa using hci) | have hd4 : decide (c ≤ k) = false := (by simpa using hci)
              go_wp2_with fail
              go_quiet (fail)
              go_wp2_with (at_builtin; go_must (refine wpList_append_own _ rfl _ _ 36 rfl wo.heap.size 3 i0 (.int .i64 0) 1 8 Try.underlying36 hi hz0 hz1 hz2 rfl (by decide) _ _ _ rfl ((own_dr HRO.out (Dr.of _ _)).alloc _) ⟨wr.heap.size, 0, none⟩ 1 1 [.int .i64 z.id] rfl rfl (World.news_of_block (cs := #[.int .i64 z.id]) (t := 3) (fr := (0, 0)) (heap_alloc_new _ _)) (by simp [Value.oneCell']) (by unfold maxLen; omega) (by omega) (Nat.le_trans HBX.out.size (by simp)) ?_))
              intro v' w3 hown3 hgrow3 _
              obtain ⟨g3, c3, hv⟩ := Go.Joins.ownsRow_form hown3 (by omega)
              have hidl : (idsToComb (sameB x) zs (k + 1)).length = (idsToComb (sameB x) zs k).length + 1 := by rw [hst.out]; simp
              have hown4 : w3.ownsRow wo.heap.size 3 1 (.slice (some ⟨g3, 0, none⟩) ((idsToComb (sameB x) zs k).length + 1) c3) (idsToComb (sameB x) zs (k + 1)).length (ints (idsToComb (sameB x) zs (k + 1))) := by
                rw [hidl, hst.out]; rw [hv] at hown3; simpa [ints] using hown3
              have HO4 := Lib.hid hown4
              have HL4 := Lib.hid hidl
              have HB4 : Hid (Below wo.heap.size wo w3) := Lib.hid (((HBX.out.trans ((Dr.of wr _).below _)).alloc HBX.out.size _).grown hgrow3 (Nat.le_trans HBX.out.size (by simp)) (fun q hq => (HRO.out.lt q hq).1))
              rw [hv]
              clear hown3 hgrow3 hown4 hidl hv hc0 hc1 hc2 hd1 hd2 e1 e2
              go_wp2_with fail
              go_roundw
              case rel => exact ⟨k + 1, by omega, by go_num, by rw [hft.out]; first | rfl | simp [hci], ⟨_, _, by rw [HL4.out]⟩, HO4.out, HB4.out⟩
              case measure => simp [intOf]; omega
        · have hk2 : k = zs.length := by omega
          have he := idsToComb_all (sameB x) zs
          have hfe : firstTo zs x c zs.length = !((zs.take c).any (sameB x)) := by unfold firstTo; rw [show min zs.length c = c by omega]
          have hrow := HRO.out
          rw [hk2] at hrow
          rw [hk2]
          rw [he] at hrow
          rw [he, hfe]
          have HRO2 := Lib.hid hrow
          have HOX := Lib.hid (HO.out.below hbx)
          have HBW := Lib.hid (HB.out.trans (hbx.mono HB.out.size))
          have hlo := Lib.hid HO.out.lt
          have hsz := hbx.size
          have hidl : (idsOfComb (sameB x) zs).length ≤ zs.length := by unfold idsOfComb; rw [List.length_map]; exact List.length_filter_le _ _
          clear hrow HRO hlen hk2 he hfe hbx
          generalize idsOfComb (sameB x) zs = ids at *
          cases hany : (zs.take c).any (sameB x)
          · have HZ := Lib.hid (HGY.out hany)
            clear hany
            go_wp2_with (at_builtin; go_must (refine wpList_append_own _ rfl _ _ 24 rfl w.heap.size 36 j0 (.slice none 0 0) 1 24 Try.underlying24 hj hy0 hy1 hy2 rfl (by decide) _ _ _ rfl (HOX.out.outer.alloc _) ⟨wr.heap.size, 0, none⟩ 1 1 [.slice au ids.length cu] rfl rfl (World.news_of_block (cs := #[.slice au ids.length cu]) (t := 36) (fr := (0, 0)) (heap_alloc_new _ _)) (by simp [Value.oneCell']) (by unfold maxLen; omega) (by omega) (Nat.le_trans HBW.out.size (by simp)) ?_))
            intro v' w3 hown3 hgrow3 _
            obtain ⟨g3, c3, hv⟩ := Go.Joins.ownsRow_form hown3 (by omega)
            have hg4 : wr.grownBy w3 (Value.slice ad rs.length cp).ownBlock := grownBy_trans (World.grownBy_alloc wr _ _) hgrow3
            have hsn : Own2 w3 w.heap.size v' (rs ++ [⟨au, cu, ids⟩]) := HOX.out.snoc hlo.out.1 hlo.out.2 rfl HRO2.out HB.out.size hg4 hown3
            rw [hv] at hsn
            have hlen2 : (rs ++ [(⟨au, cu, ids⟩ : Row2)]).length = rs.length + 1 := by simp
            have HSN : Hid (Own2 w3 w.heap.size (.slice (some ⟨g3, 0, none⟩) (rs.length + 1) c3) (rs ++ [⟨au, cu, ids⟩])) := Lib.hid hsn
            have HLN := Lib.hid hlen2
            have HB5 : Hid (Below w.heap.size w w3) := Lib.hid (HBW.out.grown hg4 HBW.out.size (fun q hq => (HO.out.outer.lt q hq).1))
            have HZ5 : Hid (zss (rs ++ [(⟨au, cu, ids⟩ : Row2)]) = sameAll zs (c + 1)) := Lib.hid (by rw [HZ.out, ← HZS.out]; simp [zss])
            rw [hv]
            clear hown3 hgrow3 hg4 hsn hlen2 hv
            go_wp2_with fail
            go_roundw
            case rel => exact ⟨c + 1, rs ++ [⟨au, cu, ids⟩], by omega, by go_num, ⟨_, _, by rw [HLN.out]⟩, HZ5.out, HSN.out, HB5.out⟩
            case measure => simp [intOf]; omega
          · have HZ5 : Hid (zss rs = sameAll zs (c + 1)) := Lib.hid (by rw [HGN.out hany]; exact HZS.out)
            clear hany
            go_wp2_with fail
            go_roundw
            case rel => exact ⟨c + 1, rs, by omega, by go_num, ⟨_, _, rfl⟩, HZ5.out, HOX.out, HBW.out⟩
            case measure => simp [intOf]; omega
    · obtain rfl : c = zs.length := by omega
      go_wp2_with fail
      go_ret2
      exact ⟨_, _, rs, rfl, HZS.out, HO.out, HB.out⟩
end Go.Proofs.Ytidiecffahaojaa
