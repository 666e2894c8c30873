/- ByColor: both sides gather the same groups. -/
import Derived.Test.YtoomjionojfjgaaDoorStampC
import Derived.Test.YtoomjionojfjgaaDoorIntSS
namespace Go.Proofs.YtoomjionojfjgaaDoor
open Go.RowKit

def byB (c : Nat) (z : StampT) : Bool := z.color == (c : Int)
/-- the groups of the first n colors that occur -/
def groupsTo (zs : List StampT) (n : Nat) : List (List Int) := ((List.range n).map (fun c => idsOfStamp (byB c) zs)).filter (fun l => !l.isEmpty)
theorem groupsTo_zero (zs : List StampT) : groupsTo zs 0 = [] := by simp [groupsTo]
theorem groupsTo_no {zs : List StampT} {n : Nat} (h : (idsOfStamp (byB n) zs).length = 0) : groupsTo zs (n + 1) = groupsTo zs n := by
  have h2 : idsOfStamp (byB n) zs = [] := List.length_eq_zero_iff.1 h
  simp [groupsTo, List.range_succ, h2]
theorem groupsTo_yes {zs : List StampT} {n : Nat} (h : 0 < (idsOfStamp (byB n) zs).length) : groupsTo zs (n + 1) = groupsTo zs n ++ [idsOfStamp (byB n) zs] := by
  have h2 : (idsOfStamp (byB n) zs).isEmpty = false := by cases hh : idsOfStamp (byB n) zs with | nil => rw [hh] at h; simp at h | cons => rfl
  simp [groupsTo, List.range_succ, h2]
theorem groupsTo_len (zs : List StampT) (n : Nat) : (groupsTo zs n).length ≤ n := by
  unfold groupsTo
  refine Nat.le_trans (List.length_filter_le _ _) ?_
  simp
theorem groupsTo_in {zs : List StampT} {n : Nat} {l : List Int} (h : l ∈ groupsTo zs n) : l.length ≤ zs.length := by
  simp only [groupsTo, List.mem_filter, List.mem_map] at h
  obtain ⟨⟨c, _, rfl⟩, _⟩ := h
  unfold idsOfStamp
  rw [List.length_map]
  exact List.length_filter_le _ _
theorem info_slice : (Tryd.prog.info? 39).map (fun i => (i.zero, i.size, i.bytes)) = some (some (.slice none 0 0), 1, 24) := by kernel_rfl
theorem split_of {w : World} {b1 b2 n1 n2 : Nat} {e1 e2 : TypeId} {v u : Value} {xs ys : List Value} (h : w.ownsRow b1 e1 1 v n1 xs) (k : w.ownsRow b2 e2 1 u n2 ys) (hne : e1 ≠ e2) : ∀ q, u.ownBlock = some q → v.ownBlock ≠ some q := by
  intro q hq hv
  rcases h.2 with ⟨rfl, _⟩ | ⟨g, c, cur, rfl, _, hh, _⟩
  · simp [Value.ownBlock] at hv
  · rcases k.2 with ⟨rfl, _⟩ | ⟨g', c', cur', rfl, _, hh', _⟩
    · simp [Value.ownBlock] at hq
    · simp [Value.ownBlock] at hv hq
      subst hv; subst hq
      rw [hh] at hh'
      injection hh' with hh'
      injection hh' with _ ht
      exact hne ht
theorem own_base {w : World} {b b' n : Nat} {e : TypeId} {v : Value} {xs : List Value} (h : w.ownsRow b e 1 v n xs) (hb : b' ≤ b) : w.ownsRow b' e 1 v n xs := by
  rcases h with ⟨hl, h0 | ⟨g, c, cur, e1, e2, e3⟩⟩
  · exact ⟨hl, .inl h0⟩
  · exact ⟨hl, .inr ⟨g, c, cur, e1, Nat.le_trans hb e2, e3⟩⟩
/-- one more row at the end -/
theorem Own2.snoc {w w' : World} {base B n cp : Nat} {ad : Option Addr} {v v' : Value} {rs : List Row2} {zs : List Int} (h : Own2 w base v rs) (hB : ∀ q, v.ownBlock = some q → q < B) (hR : ∀ k (hk : k < rs.length) q, rs[k].val.ownBlock = some q → q < B) (hn : n = rs.length + 1)
    (hrow : w.ownsRow B 3 1 (.slice ad zs.length cp) zs.length (ints zs)) (hbB : base ≤ B) (hg : w.grownBy w' v.ownBlock) (hout : w'.ownsRow base 39 1 v' n (rows2 rs ++ [.slice ad zs.length cp])) :
    Own2 w' base v' (rs ++ [⟨ad, cp, zs⟩]) := by
  subst hn
  have hout2 : w'.ownsRow base 39 1 v' (rs ++ [(⟨ad, cp, zs⟩ : Row2)]).length (rows2 (rs ++ [(⟨ad, cp, zs⟩ : Row2)])) := by
    simpa [rows2] using hout
  have hrow2 : w'.ownsRow B 3 1 (.slice ad zs.length cp) zs.length (ints zs) := own_kept hrow hg (fun q hq e => by
    have h1 := (hrow.lt q hq).1
    have h2 := hB q e
    omega)
  have hin : ∀ k (hk : k < (rs ++ [(⟨ad, cp, zs⟩ : Row2)]).length), w'.ownsRow base 3 1 (rs ++ [(⟨ad, cp, zs⟩ : Row2)])[k].val (rs ++ [(⟨ad, cp, zs⟩ : Row2)])[k].zs.length (ints (rs ++ [(⟨ad, cp, zs⟩ : Row2)])[k].zs) := by
    intro k hk
    by_cases hlt : k < rs.length
    · rw [List.getElem_append_left hlt]
      exact own_kept (h.inner k hlt) hg (fun q hq e => h.split k hlt q hq e)
    · have hk2 : k = rs.length := by simp at hk; omega
      subst hk2
      simp only [List.getElem_append_right (Nat.le_refl _), Nat.sub_self, List.getElem_cons_zero]
      exact own_base hrow2 hbB
  refine ⟨hout2, hin, ?_, fun k hk q hq => split_of hout2 (hin k hk) (by decide) q hq⟩
  intro i j hi hj hne q hq hq2
  have last : ∀ k (hk : k < (rs ++ [(⟨ad, cp, zs⟩ : Row2)]).length), ¬ k < rs.length → ∀ q, (rs ++ [(⟨ad, cp, zs⟩ : Row2)])[k].val.ownBlock = some q → B ≤ q := by
    intro k hk hnl q hq
    have hk2 : k = rs.length := by simp at hk; omega
    subst hk2
    simp only [List.getElem_append_right (Nat.le_refl _), Nat.sub_self, List.getElem_cons_zero] at hq
    exact (hrow.lt q hq).1
  by_cases h1 : i < rs.length
  · by_cases h2 : j < rs.length
    · rw [List.getElem_append_left h1] at hq
      rw [List.getElem_append_left h2] at hq2
      exact h.apart i j h1 h2 hne q hq hq2
    · rw [List.getElem_append_left h1] at hq
      have := hR i h1 q hq
      have := last j hj h2 q hq2
      omega
  · by_cases h2 : j < rs.length
    · rw [List.getElem_append_left h2] at hq2
      have := hR j h2 q hq2
      have := last i hi h1 q hq
      omega
    · simp at hi hj; omega
theorem Own2.nil {w : World} {base : Nat} {v : Value} (h : w.ownsRow base 39 1 v 0 []) : Own2 w base v [] := ⟨h, fun _ hk => absurd hk (Nat.not_lt_zero _), fun _ _ hi => absurd hi (Nat.not_lt_zero _), fun _ hk => absurd hk (Nat.not_lt_zero _)⟩

set_option maxRecDepth 100000 in
set_option maxHeartbeats 4000000 in
theorem specColor_any (a : Option Addr) (cap : Nat) (zs : List StampT) (w : World) (hm : zs.length ≤ maxLen) (hr : Reads w a (stamps zs)) :
    Calls Tryd.prog 14 #[.slice a zs.length cap] w fun e w' => ∃ ad cp rs, e = .returned (.tuple #[.slice ad rs.length cp, .bool (stampsOk zs)]) ∧ zss rs = (if stampsOk zs = true then groupsTo zs 100 else []) ∧
      Own2 w' w.heap.size (.slice ad rs.length cp) rs ∧ Below w.heap.size w w' := by
  obtain ⟨i0, hi, hz0, hz1, hz2⟩ := info_parts info_int
  obtain ⟨j0, hj, hy0, hy1, hy2⟩ := info_parts info_slice
  have hA := fun w hr => l2Stamps_any a cap zs w hm hr
  have hown0 := Lib.hid (RowIs.owns (base := w.heap.size) (RowIs.made' w 39 ([] : List Value)) (n := 0) (sz := 1) rfl (by unfold maxLen; omega) (Nat.le_refl _))
  have hb0 := Lib.hid (Go.Joins.below_alloc1 w (.cells ([] : List Value).toArray 39))
  have HR := Lib.hid hr
  clear hr
  cases e1 : stampsOk zs
  · rw [e1] at hA
    simp only [Bool.false_eq_true, if_false]
    have HA := Lib.hid hA
    clear hA
    unfold maxLen at hm
    go_enter Tryd.func14, Tryd.ntmps14
    go_wp2_with fail
    refine (HA.out _ (HR.out.below (Go.Joins.below_alloc1 w _))).mono ?_
    rintro e w1 ⟨rfl, hb⟩
    have HB := Lib.hid hb
    clear hb
    go_wp2_with fail
    go_ret2
    exact ⟨_, _, [], rfl, rfl, Own2.nil (own_below hown0.out HB.out), hb0.out.trans (HB.out.mono hb0.out.size)⟩
  rw [e1] at hA
  simp only [if_true]
  have q11 := stampsOk_len e1
  have HA := Lib.hid hA
  clear hA e1
  unfold maxLen at hm
  go_enter Tryd.func14, Tryd.ntmps14
  go_wp2_with fail
  refine (HA.out _ (HR.out.below (Go.Joins.below_alloc1 w _))).mono ?_
  rintro e w1 ⟨rfl, hb⟩
  have HO1 := Lib.hid (Own2.nil (own_below hown0.out hb))
  have HB1 := Lib.hid (hb0.out.trans (hb.mono hb0.out.size))
  clear hb
  go_wp2_with fail
  go_loopw [4, 5] (fun v ci wr => ∃ (c : Nat) (rs : List Row2), c ≤ 100 ∧ ci = .int .i64 c ∧ (∃ ad cp, v = .slice ad rs.length cp) ∧ zss rs = groupsTo zs c ∧ Own2 wr w.heap.size v rs ∧ Below w.heap.size w wr) (fun _ ci _ => 100 - (intOf ci).toNat)
  case atStart => exact ⟨0, [], by omega, rfl, ⟨_, _, rfl⟩, by rw [groupsTo_zero]; rfl, HO1.out, HB1.out⟩
  case round =>
    obtain ⟨c, rs, hc, rfl, ⟨ad, cp, rfl⟩, hzs, hown, hbel⟩ := hrel
    obtain ⟨wo, rfl⟩ : ∃ wo, wo = wr := ⟨wr, rfl⟩
    have HZS := Lib.hid hzs
    have HO := Lib.hid hown
    have HB := Lib.hid hbel
    have HRW := Lib.hid (HR.out.below hbel)
    have hlr : rs.length ≤ 100 := by have h1 := groupsTo_len zs c; rw [← hzs] at h1; simp [zss] at h1; omega
    clear hzs hown hbel
    by_cases hlt : c < 100
    · have hd : decide ((c : Int) < 100) = true := by simp; omega

      have hu0 := Lib.hid (RowIs.owns (base := wo.heap.size) (RowIs.made' wo 3 ([] : List Value)) (n := 0) (sz := 1) rfl (by unfold maxLen; omega) (Nat.le_refl _))
      have hub := Lib.hid (Go.Joins.below_alloc1 wo (.cells ([] : List Value).toArray 3))
      go_wp2_with fail
      go_loopw [6, 7] (fun u i wr => ∃ k : Nat, k ≤ zs.length ∧ i = .int .i64 k ∧ (∃ au cu, u = .slice au (idsToStamp (byB c) zs k).length cu) ∧ wr.ownsRow wo.heap.size 3 1 u (idsToStamp (byB c) zs k).length (ints (idsToStamp (byB c) zs k)) ∧ Below wo.heap.size wo wr) (fun _ i _ => zs.length - (intOf i).toNat)
      case atStart => exact ⟨0, Nat.zero_le _, rfl, ⟨_, _, rfl⟩, by simpa [idsToStamp] using hu0.out, hub.out⟩
      case round =>
        obtain ⟨k, hk, rfl, ⟨au, cu, rfl⟩, hrow, hbx⟩ := hrel
        have hlen := idsToStamp_le (byB c) zs k
        have HRO := Lib.hid hrow
        have HBX := Lib.hid hbx
        clear hrow
        by_cases hlt2 : k < zs.length
        · rcases HRW.out with h0 | ⟨b, bo, rfl, hb2, hcc⟩
          · have := stamps_length zs; rw [h0] at this; simp at this; omega
          obtain ⟨g0, g1, g2, g3⟩ := stamps_get hlt2
          have hc0 := (hbx.cell (p := ⟨b, _, none⟩) hb2).trans (hcc _ _ g0)
          have hc1 := (hbx.cell (p := ⟨b, _, none⟩) hb2).trans (hcc _ _ g1)
          have hc2 := (hbx.cell (p := ⟨b, _, none⟩) hb2).trans (hcc _ _ g2)
          have hc3 := (hbx.cell (p := ⟨b, _, none⟩) hb2).trans (hcc _ _ g3)
          simp only [← Nat.add_assoc] at hc1 hc2 hc3
          clear hcc g0 g1 g2 g3 hbx
          have HX := Lib.hid (Below.refl wr.heap.size wr)
          cases hp : byB c zs[k]
          · have hst := Lib.hid (idsToStamp_no (p := byB c) hlt2 hp)
            have hp2 : (zs[k].color == (c : Int)) = false := hp
            clear hp
            go_wp2_with fail
            go_roundw
            case rel => exact ⟨k + 1, by omega, by go_num, ⟨_, _, by rw [hst.out]⟩, by rw [hst.out]; exact own_below HRO.out HX.out, HBX.out.trans (HX.out.mono HBX.out.size)⟩
            case measure => simp [intOf]; omega
          · have hst := Lib.hid (idsToStamp_yes (p := byB c) hlt2 hp)
            have hp2 : (zs[k].color == (c : Int)) = true := hp
            clear hp
            go_wp2_with (at_builtin; go_must (refine wpList_append_own _ rfl _ _ 39 rfl wo.heap.size 3 i0 (.int .i64 0) 1 8 Tryd.underlying39 hi hz0 hz1 hz2 rfl (by decide) _ _ _ rfl ((own_below HRO.out HX.out).alloc _) ⟨wr.heap.size, 0, none⟩ 1 1 [.int .i64 zs[k].id] rfl rfl (World.news_of_block (cs := #[.int .i64 zs[k].id]) (t := 3) (fr := (0, 0)) (heap_alloc_new _ _)) (by simp [Value.oneCell']) (by unfold maxLen; omega) (by omega) (Nat.le_trans (Nat.le_trans HBX.out.size HX.out.size) (by simp)) ?_))
            intro v' w3 hown3 hgrow3 _
            obtain ⟨g3, c3, hv⟩ := Go.Joins.ownsRow_form hown3 (by omega)
            have hidl : (idsToStamp (byB c) zs (k + 1)).length = (idsToStamp (byB c) zs k).length + 1 := by rw [hst.out]; simp
            have hown4 : w3.ownsRow wo.heap.size 3 1 (.slice (some ⟨g3, 0, none⟩) ((idsToStamp (byB c) zs k).length + 1) c3) (idsToStamp (byB c) zs (k + 1)).length (ints (idsToStamp (byB c) zs (k + 1))) := by
              rw [hidl, hst.out]; rw [hv] at hown3; simpa [ints] using hown3
            have HO4 := Lib.hid hown4
            have HL4 := Lib.hid hidl
            have hbel4 : Below wo.heap.size wo w3 := by
              refine ((HBX.out.trans (HX.out.mono HBX.out.size)).alloc (Nat.le_trans HBX.out.size HX.out.size) _).grown hgrow3 ?_ ?_
              · exact Nat.le_trans (Nat.le_trans HBX.out.size HX.out.size) (by simp)
              · intro q hq; exact (HRO.out.lt q hq).1
            have HB4 := Lib.hid hbel4
            rw [hv]
            clear hown3 hgrow3 hown4 hidl hbel4 hv
            go_wp2_with fail
            go_roundw
            case rel => exact ⟨k + 1, by omega, by go_num, ⟨_, _, by rw [HL4.out]⟩, HO4.out, HB4.out⟩
            case measure => simp [intOf]; omega
        · have hk2 : k = zs.length := by omega
          have he := idsToStamp_all (byB c) zs
          have hrow := HRO.out
          rw [hk2] at hrow
          rw [hk2]
          rw [he] at hrow
          rw [he]
          have HRO2 := Lib.hid hrow
          have HOX := Lib.hid (HO.out.below hbx)
          have HBW := Lib.hid (HB.out.trans (hbx.mono HB.out.size))
          have hlo := Lib.hid HO.out.lt
          have hsz := hbx.size
          have hGN := Lib.hid (fun h => groupsTo_no (zs := zs) (n := c) h)
          have hGY := Lib.hid (fun h => groupsTo_yes (zs := zs) (n := c) h)
          clear hrow HRO hlen hk2 he hbx
          generalize idsOfStamp (byB c) zs = ids at *
          by_cases hne : 0 < ids.length
          · go_wp2_with (at_builtin; go_must (refine wpList_append_own _ rfl _ _ 35 rfl w.heap.size 39 j0 (.slice none 0 0) 1 24 Tryd.underlying35 hj hy0 hy1 hy2 rfl (by decide) _ _ _ rfl (HOX.out.outer.alloc _) ⟨wr.heap.size, 0, none⟩ 1 1 [.slice au ids.length cu] rfl rfl (World.news_of_block (cs := #[.slice au ids.length cu]) (t := 39) (fr := (0, 0)) (heap_alloc_new _ _)) (by simp [Value.oneCell']) (by unfold maxLen; omega) (by omega) (Nat.le_trans HBW.out.size (by simp)) ?_))
            intro v' w3 hown3 hgrow3 _
            obtain ⟨g3, c3, hv⟩ := Go.Joins.ownsRow_form hown3 (by omega)
            have hg4 : wr.grownBy w3 (Value.slice ad rs.length cp).ownBlock := grownBy_trans (World.grownBy_alloc wr _ _) hgrow3
            have hsn : Own2 w3 w.heap.size v' (rs ++ [⟨au, cu, ids⟩]) := HOX.out.snoc hlo.out.1 hlo.out.2 rfl HRO2.out HB.out.size hg4 hown3
            rw [hv] at hsn
            have hlen2 : (rs ++ [(⟨au, cu, ids⟩ : Row2)]).length = rs.length + 1 := by simp
            have HSN : Hid (Own2 w3 w.heap.size (.slice (some ⟨g3, 0, none⟩) (rs.length + 1) c3) (rs ++ [⟨au, cu, ids⟩])) := Lib.hid hsn
            have HLN := Lib.hid hlen2
            have HB5 : Hid (Below w.heap.size w w3) := Lib.hid (HBW.out.grown hg4 HBW.out.size (fun q hq => (HO.out.outer.lt q hq).1))
            have HZ5 : Hid (zss (rs ++ [(⟨au, cu, ids⟩ : Row2)]) = groupsTo zs (c + 1)) := Lib.hid (by rw [hGY.out hne, ← HZS.out]; simp [zss])
            rw [hv]
            clear hown3 hgrow3 hg4 hsn hlen2 hv
            go_wp2_with fail
            go_roundw
            case rel => exact ⟨c + 1, rs ++ [⟨au, cu, ids⟩], by omega, by go_num, ⟨_, _, by rw [HLN.out]⟩, HZ5.out, HSN.out, HB5.out⟩
            case measure => simp [intOf]; omega
          · have HZ5 : Hid (zss rs = groupsTo zs (c + 1)) := Lib.hid (by rw [hGN.out (by omega)]; exact HZS.out)
            go_wp2_with fail
            go_roundw
            case rel => exact ⟨c + 1, rs, by omega, by go_num, ⟨_, _, rfl⟩, HZ5.out, HOX.out, HBW.out⟩
            case measure => simp [intOf]; omega
    · obtain rfl : c = 100 := by omega
      go_wp2_with fail
      go_ret2
      exact ⟨_, _, rs, rfl, HZS.out, HO.out, HB.out⟩
set_option maxRecDepth 100000 in
set_option maxHeartbeats 4000000 in
theorem implColor_any (a : Option Addr) (cap : Nat) (zs : List StampT) (w : World) (hm : zs.length ≤ maxLen) (hr : Reads w a (stamps zs)) :
    Calls Tryd.prog 13 #[.slice a zs.length cap] w fun e w' => ∃ ad cp rs, e = .returned (.tuple #[.slice ad rs.length cp, .bool (stampsOk zs)]) ∧ zss rs = (if stampsOk zs = true then groupsTo zs 100 else []) ∧
      Own2 w' w.heap.size (.slice ad rs.length cp) rs ∧ Below w.heap.size w w' := by
  obtain ⟨i0, hi, hz0, hz1, hz2⟩ := info_parts info_int
  obtain ⟨j0, hj, hy0, hy1, hy2⟩ := info_parts info_slice
  have hA := fun w hr => areStamps_any a cap zs w hm hr
  have HR := Lib.hid hr
  clear hr
  cases e1 : stampsOk zs
  · rw [e1] at hA
    simp only [Bool.false_eq_true, if_false]
    have HA := Lib.hid hA
    clear hA
    unfold maxLen at hm
    go_enter Tryd.func13, Tryd.ntmps13
    go_wp2_with fail
    refine (HA.out _ HR.out).mono ?_
    rintro e w1 ⟨rfl, hb⟩
    have HB := Lib.hid hb
    clear hb
    go_wp2_with fail
    go_ret2
    exact ⟨none, 0, [], rfl, rfl, Own2.nil (World.ownsRow_nil _ _ _ _), HB.out⟩
  rw [e1] at hA
  simp only [if_true]
  have q11 := stampsOk_len e1
  have HA := Lib.hid hA
  clear hA e1
  unfold maxLen at hm
  go_enter Tryd.func13, Tryd.ntmps13
  go_wp2_with fail
  refine (HA.out _ HR.out).mono ?_
  rintro e w1 ⟨rfl, hb⟩
  have HO1 : Hid (Own2 w1 w.heap.size (.slice none 0 0) []) := Lib.hid (Own2.nil (World.ownsRow_nil _ _ _ _))
  have HB1 := Lib.hid hb
  clear hb
  go_wp2_with fail
  go_loopw [4, 12] (fun v ci wr => ∃ (c : Nat) (rs : List Row2), c ≤ 100 ∧ ci = .int .i64 c ∧ (∃ ad cp, v = .slice ad rs.length cp) ∧ zss rs = groupsTo zs c ∧ Own2 wr w.heap.size v rs ∧ Below w.heap.size w wr) (fun _ ci _ => 100 - (intOf ci).toNat)
  case atStart => exact ⟨0, [], by omega, rfl, ⟨_, _, rfl⟩, by rw [groupsTo_zero]; rfl, HO1.out, HB1.out⟩
  case round =>
    obtain ⟨c, rs, hc, rfl, ⟨ad, cp, rfl⟩, hzs, hown, hbel⟩ := hrel
    obtain ⟨wo, rfl⟩ : ∃ wo, wo = wr := ⟨wr, rfl⟩
    have HZS := Lib.hid hzs
    have HO := Lib.hid hown
    have HB := Lib.hid hbel
    have HRW := Lib.hid (HR.out.below hbel)
    have hlr : rs.length ≤ 100 := by have h1 := groupsTo_len zs c; rw [← hzs] at h1; simp [zss] at h1; omega
    clear hzs hown hbel
    by_cases hlt : c < 100
    · have hd : decide ((c : Int) < 100) = true := by simp; omega

      go_wp2_with fail
      go_loopw [6, 17] (fun u i wr => ∃ k : Nat, k ≤ zs.length ∧ i = .int .i64 k ∧ (∃ au cu, u = .slice au (idsToStamp (byB c) zs k).length cu) ∧ wr.ownsRow wo.heap.size 3 1 u (idsToStamp (byB c) zs k).length (ints (idsToStamp (byB c) zs k)) ∧ Below wo.heap.size wo wr) (fun _ i _ => zs.length - (intOf i).toNat)
      case atStart => exact ⟨0, Nat.zero_le _, rfl, ⟨none, 0, rfl⟩, World.ownsRow_nil _ _ _ _, Below.refl _ _⟩
      case round =>
        obtain ⟨k, hk, rfl, ⟨au, cu, rfl⟩, hrow, hbx⟩ := hrel
        have hlen := idsToStamp_le (byB c) zs k
        have HRO := Lib.hid hrow
        have HBX := Lib.hid hbx
        clear hrow
        by_cases hlt2 : k < zs.length
        · rcases HRW.out with h0 | ⟨b, bo, rfl, hb2, hcc⟩
          · have := stamps_length zs; rw [h0] at this; simp at this; omega
          obtain ⟨g0, g1, g2, g3⟩ := stamps_get hlt2
          have hc0 := (hbx.cell (p := ⟨b, _, none⟩) hb2).trans (hcc _ _ g0)
          have hc1 := (hbx.cell (p := ⟨b, _, none⟩) hb2).trans (hcc _ _ g1)
          have hc2 := (hbx.cell (p := ⟨b, _, none⟩) hb2).trans (hcc _ _ g2)
          have hc3 := (hbx.cell (p := ⟨b, _, none⟩) hb2).trans (hcc _ _ g3)
          simp only [← Nat.add_assoc] at hc1 hc2 hc3
          clear hcc g0 g1 g2 g3 hbx
          have HX := Lib.hid (Go.Joins.below_alloc1 wr (.cells #[.int .i64 zs[k].id, .int .i64 zs[k].face, .int .i64 zs[k].color, .int .i64 zs[k].year] 25))
          cases hp : byB c zs[k]
          · have hst := Lib.hid (idsToStamp_no (p := byB c) hlt2 hp)
            have hp2 : (zs[k].color == (c : Int)) = false := hp
            clear hp
            go_wp2_with fail
            go_roundw
            case rel => exact ⟨k + 1, by omega, by go_num, ⟨_, _, by rw [hst.out]⟩, by rw [hst.out]; exact own_below HRO.out HX.out, HBX.out.trans (HX.out.mono HBX.out.size)⟩
            case measure => simp [intOf]; omega
          · have hst := Lib.hid (idsToStamp_yes (p := byB c) hlt2 hp)
            have hp2 : (zs[k].color == (c : Int)) = true := hp
            clear hp
            go_wp2_with (at_builtin; go_must (refine wpList_append_own _ rfl _ _ 39 rfl wo.heap.size 3 i0 (.int .i64 0) 1 8 Tryd.underlying39 hi hz0 hz1 hz2 rfl (by decide) _ _ _ rfl ((own_below HRO.out HX.out).alloc _) ⟨wr.heap.size + 1, 0, none⟩ 1 1 [.int .i64 zs[k].id] rfl rfl (World.news_of_block (cs := #[.int .i64 zs[k].id]) (t := 3) (fr := (0, 0)) (new_secondS wr _ _)) (by simp [Value.oneCell']) (by unfold maxLen; omega) (by omega) (Nat.le_trans (Nat.le_trans HBX.out.size HX.out.size) (by simp)) ?_))
            intro v' w3 hown3 hgrow3 _
            obtain ⟨g3, c3, hv⟩ := Go.Joins.ownsRow_form hown3 (by omega)
            have hidl : (idsToStamp (byB c) zs (k + 1)).length = (idsToStamp (byB c) zs k).length + 1 := by rw [hst.out]; simp
            have hown4 : w3.ownsRow wo.heap.size 3 1 (.slice (some ⟨g3, 0, none⟩) ((idsToStamp (byB c) zs k).length + 1) c3) (idsToStamp (byB c) zs (k + 1)).length (ints (idsToStamp (byB c) zs (k + 1))) := by
              rw [hidl, hst.out]; rw [hv] at hown3; simpa [ints] using hown3
            have HO4 := Lib.hid hown4
            have HL4 := Lib.hid hidl
            have hbel4 : Below wo.heap.size wo w3 := by
              refine ((HBX.out.trans (HX.out.mono HBX.out.size)).alloc (Nat.le_trans HBX.out.size HX.out.size) _).grown hgrow3 ?_ ?_
              · exact Nat.le_trans (Nat.le_trans HBX.out.size HX.out.size) (by simp)
              · intro q hq; exact (HRO.out.lt q hq).1
            have HB4 := Lib.hid hbel4
            rw [hv]
            clear hown3 hgrow3 hown4 hidl hbel4 hv
            go_wp2_with fail
            go_roundw
            case rel => exact ⟨k + 1, by omega, by go_num, ⟨_, _, by rw [HL4.out]⟩, HO4.out, HB4.out⟩
            case measure => simp [intOf]; omega
        · have hk2 : k = zs.length := by omega
          have he := idsToStamp_all (byB c) zs
          have hrow := HRO.out
          rw [hk2] at hrow
          rw [hk2]
          rw [he] at hrow
          rw [he]
          have HRO2 := Lib.hid hrow
          have HOX := Lib.hid (HO.out.below hbx)
          have HBW := Lib.hid (HB.out.trans (hbx.mono HB.out.size))
          have hlo := Lib.hid HO.out.lt
          have hsz := hbx.size
          have hGN := Lib.hid (fun h => groupsTo_no (zs := zs) (n := c) h)
          have hGY := Lib.hid (fun h => groupsTo_yes (zs := zs) (n := c) h)
          clear hrow HRO hlen hk2 he hbx
          generalize idsOfStamp (byB c) zs = ids at *
          by_cases hne : 0 < ids.length
          · go_wp2_with (at_builtin; go_must (refine wpList_append_own _ rfl _ _ 35 rfl w.heap.size 39 j0 (.slice none 0 0) 1 24 Tryd.underlying35 hj hy0 hy1 hy2 rfl (by decide) _ _ _ rfl (HOX.out.outer.alloc _) ⟨wr.heap.size, 0, none⟩ 1 1 [.slice au ids.length cu] rfl rfl (World.news_of_block (cs := #[.slice au ids.length cu]) (t := 39) (fr := (0, 0)) (heap_alloc_new _ _)) (by simp [Value.oneCell']) (by unfold maxLen; omega) (by omega) (Nat.le_trans HBW.out.size (by simp)) ?_))
            intro v' w3 hown3 hgrow3 _
            obtain ⟨g3, c3, hv⟩ := Go.Joins.ownsRow_form hown3 (by omega)
            have hg4 : wr.grownBy w3 (Value.slice ad rs.length cp).ownBlock := grownBy_trans (World.grownBy_alloc wr _ _) hgrow3
            have hsn : Own2 w3 w.heap.size v' (rs ++ [⟨au, cu, ids⟩]) := HOX.out.snoc hlo.out.1 hlo.out.2 rfl HRO2.out HB.out.size hg4 hown3
            rw [hv] at hsn
            have hlen2 : (rs ++ [(⟨au, cu, ids⟩ : Row2)]).length = rs.length + 1 := by simp
            have HSN : Hid (Own2 w3 w.heap.size (.slice (some ⟨g3, 0, none⟩) (rs.length + 1) c3) (rs ++ [⟨au, cu, ids⟩])) := Lib.hid hsn
            have HLN := Lib.hid hlen2
            have HB5 : Hid (Below w.heap.size w w3) := Lib.hid (HBW.out.grown hg4 HBW.out.size (fun q hq => (HO.out.outer.lt q hq).1))
            have HZ5 : Hid (zss (rs ++ [(⟨au, cu, ids⟩ : Row2)]) = groupsTo zs (c + 1)) := Lib.hid (by rw [hGY.out hne, ← HZS.out]; simp [zss])
            rw [hv]
            clear hown3 hgrow3 hg4 hsn hlen2 hv
            go_wp2_with fail
            go_roundw
            case rel => exact ⟨c + 1, rs ++ [⟨au, cu, ids⟩], by omega, by go_num, ⟨_, _, by rw [HLN.out]⟩, HZ5.out, HSN.out, HB5.out⟩
            case measure => simp [intOf]; omega
          · have HZ5 : Hid (zss rs = groupsTo zs (c + 1)) := Lib.hid (by rw [hGN.out (by omega)]; exact HZS.out)
            go_wp2_with fail
            go_roundw
            case rel => exact ⟨c + 1, rs, by omega, by go_num, ⟨_, _, rfl⟩, HZ5.out, HOX.out, HBW.out⟩
            case measure => simp [intOf]; omega
    · obtain rfl : c = 100 := by omega
      go_wp2_with fail
      go_ret2
      exact ⟨_, _, rs, rfl, HZS.out, HO.out, HB.out⟩
end Go.Proofs.YtoomjionojfjgaaDoor
