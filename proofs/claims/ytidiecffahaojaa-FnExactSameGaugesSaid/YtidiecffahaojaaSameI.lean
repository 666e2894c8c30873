/- SameGauges, the program's side. -/
import Derived.Test.YtidiecffahaojaaSameS
import Derived.Deep.RegionLaw
namespace Go.Proofs.Ytidiecffahaojaa
open Go.RowKit

theorem own_type_ne {w : World} {b1 b2 s1 s2 n1 n2 : Nat} {e1 e2 : TypeId} {v u : Value} {xs ys : List Value} (h : w.ownsRow b1 e1 s1 v n1 xs) (k : w.ownsRow b2 e2 s2 u n2 ys) (hne : e1 ≠ e2) : ∀ q, u.ownBlock = some q → v.ownBlock ≠ some q := by
  intro q hq hv
  rcases h.2 with ⟨rfl, _⟩ | ⟨g, c, cur, rfl, _, hh, _⟩
  · simp [Value.ownBlock] at hv
  · rcases k.2 with ⟨rfl, _⟩ | ⟨g', c', cur', rfl, _, hh', _⟩
    · simp [Value.ownBlock] at hq
    · simp [Value.ownBlock] at hv hq
      subst hv; subst hq
      rw [hh] at hh'
      injection hh' with hh'
      injection hh' with _ ht
      exact hne ht
theorem Own2.kept {w w' : World} {base : Nat} {v : Value} {rs : List Row2} {row : Option Nat} (h : Own2 w base v rs) (hg : w.grownBy w' row) (h1 : ∀ q, v.ownBlock = some q → row ≠ some q) (h2 : ∀ k (hk : k < rs.length) q, rs[k].val.ownBlock = some q → row ≠ some q) : Own2 w' base v rs :=
  ⟨own_kept h.outer hg h1, fun k hk => own_kept (h.inner k hk) hg (h2 k hk), h.apart, h.split⟩
/-- rows of rows stay, where a row of combs grows -/
theorem Own2.besides {w w' : World} {base n : Nat} {v u : Value} {rs : List Row2} {zs : List CombT} (h : Own2 w base v rs) (hu : w.ownsRow base 53 4 u n (combs zs)) (hg : w.grownBy w' u.ownBlock) : Own2 w' base v rs :=
  h.kept hg (fun q hq e => own_type_ne hu h.outer (by decide) q hq e) (fun k hk q hq e => own_type_ne hu (h.inner k hk) (by decide) q hq e)
/-- one more empty row at the end -/
theorem Own2.snocNil {w w' : World} {base n : Nat} {v v' : Value} {rs : List Row2} (h : Own2 w base v rs) (hle : base ≤ w.heap.size) (hn : n = rs.length + 1) (hg : w.grownBy w' v.ownBlock) (hout : w'.ownsRow base 36 1 v' n (rows2 rs ++ [.slice none 0 0])) : Own2 w' base v' (rs ++ [⟨none, 0, []⟩]) :=
  Own2.snoc (B := w.heap.size) (ad := none) (cp := 0) (zs := []) h h.lt.1 h.lt.2 hn (World.ownsRow_nil _ _ _ _) hle hg hout
theorem sameTo_in {zs : List CombT} {k : Nat} {l : List Int} (h : l ∈ sameTo zs k) : l.length ≤ k := by
  simp only [sameTo, List.mem_map] at h
  obtain ⟨f, _, rfl⟩ := h
  exact idsToComb_le _ _ _
theorem zss_set {rs : List Row2} {k : Nat} (hk : k < rs.length) (r : Row2) {x : Int} (h : r.zs = rs[k].zs ++ [x]) : zss (rs.set k r) = (zss rs).set k ((zss rs)[k]'(by simpa [zss] using hk) ++ [x]) := by
  simp [zss, List.map_set, h]
set_option maxRecDepth 100000 in
set_option maxHeartbeats 4000000 in
theorem implSame_any (a : Option Addr) (cap : Nat) (zs : List CombT) (w : World) (hm : zs.length ≤ maxLen) (hr : Reads w a (combs zs)) :
    Calls Try.prog 8 #[.slice a zs.length cap] w fun e w' => ∃ ad cp rs, e = .returned (.tuple #[.slice ad rs.length cp, .bool (combsOk zs)]) ∧ zss rs = sameF zs ∧
      Own2 w' w.heap.size (.slice ad rs.length cp) rs ∧ Below w.heap.size w w' := by
  obtain ⟨i0, hi, hz0, hz1, hz2⟩ := info_parts info_int
  obtain ⟨j0, hj, hy0, hy1, hy2⟩ := info_parts info_slice
  obtain ⟨l0, hl, hw0, hw1, hw2⟩ := info_parts info_comb
  have hA := fun w hr => areCombs_any a cap zs w hm hr
  have HR := Lib.hid hr
  unfold sameF
  clear hr
  cases e1 : combsOk zs
  · rw [e1] at hA
    simp only [Bool.false_eq_true, if_false]
    have HA := Lib.hid hA
    clear hA
    unfold maxLen at hm
    go_enter Try.func8, Try.ntmps8
    go_wp2_with fail
    refine (HA.out _ HR.out).mono ?_
    rintro e w1 ⟨rfl, hb⟩
    have HB := Lib.hid hb
    clear hb
    go_wp2_with fail
    go_ret2
    exact ⟨_, _, [], rfl, rfl, Own2.nil (World.ownsRow_nil _ _ _ _), HB.out⟩
  rw [e1] at hA
  simp only [if_true]
  have q11 := combsOk_len e1
  have HA := Lib.hid hA
  clear hA e1
  unfold maxLen at hm
  go_enter Try.func8, Try.ntmps8
  go_wp2_with fail
  refine (HA.out _ HR.out).mono ?_
  rintro e w1 ⟨rfl, hb⟩
  have HB1 := Lib.hid hb
  clear hb
  go_wp2_with fail
  go_loopw [4, 5, 14] (fun u v i wr => ∃ (k : Nat) (F : List CombT) (rs : List Row2), k ≤ zs.length ∧ i = .int .i64 k ∧ F = firsts (zs.take k) ∧ (∃ ad cp, u = .slice ad F.length cp) ∧ wr.ownsRow w.heap.size 53 4 u F.length (combs F) ∧
    (∃ ad cp, v = .slice ad rs.length cp) ∧ zss rs = sameTo zs k ∧ Own2 wr w.heap.size v rs ∧ Below w.heap.size w wr) (fun _ _ i _ => zs.length - (intOf i).toNat)
  case atStart => exact ⟨0, [], [], by omega, rfl, by simp [firsts], ⟨_, _, rfl⟩, World.ownsRow_nil _ _ _ _, ⟨_, _, rfl⟩, by simp [sameTo, firsts, zss], Own2.nil (World.ownsRow_nil _ _ _ _), HB1.out⟩
  case round =>
    obtain ⟨k, F, rs, hk, rfl, hF, ⟨fd, fc, rfl⟩, hfo, ⟨ad, cp, rfl⟩, hzs, hown, hbel⟩ := hrel
    have hfl : F.length ≤ 10 := by rw [hF]; have := firsts_len (zs.take k); rw [List.length_take] at this; omega
    have hrl : rs.length = F.length := by have h1 := congrArg List.length hzs; rw [sameTo_len, ← hF] at h1; simpa [zss] using h1
    have hrl10 : rs.length ≤ 10 := by omega
    have HRL := Lib.hid hrl
    clear hrl
    have HFF := Lib.hid hF
    have HZS := Lib.hid hzs
    have HFO := Lib.hid hfo
    have HO := Lib.hid hown
    have HB := Lib.hid hbel
    by_cases hlt : k < zs.length
    · rcases HR.out.below hbel with h0 | ⟨b, off, rfl, hb2, hc⟩
      · have := combs_length zs; rw [h0] at this; simp at this; omega
      obtain ⟨g0, g1, g2, g3⟩ := combs_get hlt
      have hc0 := hc _ _ g0
      have hc1 := hc _ _ g1
      have hc2 := hc _ _ g2
      have hc3 := hc _ _ g3
      simp only [← Nat.add_assoc] at hc1 hc2 hc3
      have HOLD := Lib.hid (fun at' ha hs => sameTo_old (at' := at') hlt ha hs)
      have HNEW := Lib.hid (fun hs => sameTo_new hlt hs)
      obtain ⟨x, hx⟩ : ∃ x, x = zs[k] := ⟨_, rfl⟩
      rw [← hx] at hc0 hc1 hc2 hc3 HOLD HNEW
      clear hF hzs hfo hown hbel hc g0 g1 g2 g3 hx
      go_wp2_with fail
      have HX0 : Hid (RowIs (wr.alloc (.cells #[.int .i64 x.id, .int .i64 x.wide, .int .i64 x.high, .bool x.line] 53)) wr.heap.size 53 x.cells) := Lib.hid (RowIs.new wr 53 x.cells)
      have HF0 := Lib.hid (HFO.out.alloc (.cells #[.int .i64 x.id, .int .i64 x.wide, .int .i64 x.high, .bool x.line] 53))
      have HO0 := Lib.hid (HO.out.below (Go.Joins.below_alloc1 wr (.cells #[.int .i64 x.id, .int .i64 x.wide, .int .i64 x.high, .bool x.line] 53)))
      have HB0 := Lib.hid (HB.out.alloc HB.out.size (.cells #[.int .i64 x.id, .int .i64 x.wide, .int .i64 x.high, .bool x.line] 53))
      clear hc0 hc1 hc2 hc3
      generalize wr.alloc (.cells #[.int .i64 x.id, .int .i64 x.wide, .int .i64 x.high, .bool x.line] 53) = wb at *
      refine (indexFunc_any _ _ F x _ _ (by unfold maxLen; omega) (own_reads HF0.out) HX0.out).mono ?_
      rintro e w2 ⟨rfl, hb⟩
      have HX2 := Lib.hid (HX0.out.below hb)
      have HF2 := Lib.hid (own_below HF0.out hb)
      have HO2 := Lib.hid (HO0.out.below hb)
      have HB2 := Lib.hid (HB0.out.trans (hb.mono HB0.out.size))
      clear hb
      cases hany : F.any (sameB x)
      · have hix := idxF_none hany
        have HN := HNEW.out (by rw [← HFF.out]; exact hany)
        rw [← HFF.out] at HN
        have HNF := Lib.hid HN.1
        have HNT := Lib.hid HN.2
        rw [hix]
        have hv0 := HX2.out.cell (j := 0) rfl
        have hx1' := HX2.out.cell (j := 1) rfl
        have hx2' := HX2.out.cell (j := 2) rfl
        have hx3' := HX2.out.cell (j := 3) rfl
        clear hix HN hany
        go_wp2_with (at_builtin; go_must (refine wpList_append_own _ rfl _ _ 27 rfl w.heap.size 53 l0 _ 4 32 Try.underlying27 hl hw0 hw1 hw2 rfl (by decide) _ _ _ rfl (HF2.out.alloc _) ⟨w2.heap.size, 0, none⟩ 1 1 x.cells rfl rfl (World.news_of_block (cs := x.cells.toArray) (t := 53) (fr := (0, 0)) (heap_alloc_new _ _)) (by simp [CombT.cells, Value.oneCell']) (by show F.length + 1 ≤ maxLen; unfold maxLen; omega) (show (F.length + 1) * 32 ≤ 140737488355328 by omega) (Nat.le_trans HB2.out.size (by simp)) ?_))
        intro v' w3 hown3 hgrow3 _
        obtain ⟨g3, c3, hv⟩ := Go.Joins.ownsRow_form hown3 (by omega)
        have HF3 : Hid (w3.ownsRow w.heap.size 53 4 (.slice (some ⟨g3, 0, none⟩) (F ++ [x]).length c3) (F ++ [x]).length (combs (F ++ [x]))) := Lib.hid (by
          rw [hv] at hown3; simpa [combs] using hown3)
        have HO3 := Lib.hid ((HO2.out.below (Go.Joins.below_alloc1 _ _)).besides (HF2.out.alloc _) hgrow3)
        have HX3 := Lib.hid ((HX2.out.alloc _).grown hgrow3 (fun e => by have := (HFO.out.lt _ e.symm).2; omega))
        have HB3 := Lib.hid ((HB2.out.alloc HB2.out.size _).grown hgrow3 (Nat.le_trans HB2.out.size (by simp)) (fun q hq => (HF2.out.lt q hq).1))
        have hfl2 : (F ++ [x]).length = F.length + 1 := by simp
        rw [hv, ← hfl2]
        clear hown3 hgrow3 hv hv0 hx1' hx2' hx3'
        go_wp2_with (at_builtin; go_must (refine wpList_append_own _ rfl _ _ 24 rfl w.heap.size 36 j0 (.slice none 0 0) 1 24 Try.underlying24 hj hy0 hy1 hy2 rfl (by decide) _ _ _ rfl (HO3.out.outer.alloc _) ⟨w3.heap.size, 0, none⟩ 1 1 [.slice none 0 0] rfl rfl (World.news_of_block (cs := #[.slice none 0 0]) (t := 36) (fr := (0, 0)) (heap_alloc_new _ _)) (by simp [Value.oneCell']) (by show rs.length + 1 ≤ maxLen; unfold maxLen; omega) (show (rs.length + 1) * 24 ≤ 140737488355328 by omega) (Nat.le_trans HB3.out.size (by simp)) ?_))
        intro v' w4 hown4 hgrow4 _
        obtain ⟨og, cp4, hv⟩ := Go.Joins.ownsRow_form hown4 (by omega)
        rw [hv] at hown4
        have hg4 : w3.grownBy w4 (Value.slice ad rs.length cp).ownBlock := grownBy_trans (World.grownBy_alloc w3 _ _) hgrow4
        have HOn := HO3.out.snocNil HB3.out.size rfl hg4 hown4
        obtain ⟨rq, hrq⟩ : ∃ rq, rq = rs ++ [(⟨none, 0, []⟩ : Row2)] := ⟨_, rfl⟩
        have hlq : rq.length = rs.length + 1 := by rw [hrq]; simp
        rw [← hrq, ← hlq] at HOn
        have HOq := Lib.hid HOn
        have HFq := Lib.hid (own_kept HF3.out hg4 (fun q hq e => own_type_ne HO3.out.outer HF3.out (by decide) q hq e))
        have HXq := Lib.hid (HX3.out.grown hg4 (fun e => by have := (HO.out.outer.lt _ e.symm).2; omega))
        have HBq := Lib.hid (HB3.out.grown hg4 HB3.out.size (fun q hq => (HO3.out.outer.lt q hq).1))
        obtain ⟨kat, hkat⟩ : ∃ kat, kat = F.length := ⟨_, rfl⟩
        have hkr : kat = rs.length := by rw [hkat, HRL.out]
        have HKL : Hid ((F ++ [x]).length = kat + 1) := Lib.hid (by rw [hfl2, hkat])
        have hkq : kat < rq.length := by omega
        have hqk : rq[kat] = ⟨none, 0, []⟩ := by simp [hrq, hkr]
        have HSQ : Hid (∀ r : Row2, r.zs = rq[kat].zs ++ [x.id] → zss (rq.set kat r) = sameTo zs (k + 1)) := Lib.hid (fun r h => by
          rw [HNT.out, ← HZS.out]
          rw [hqk] at h
          have hrz : r.zs = [x.id] := by simpa using h
          simp [hrq, hkr, zss, List.set_append_right, hrz])
        have HFQ : Hid (F ++ [x] = firsts (zs.take (k + 1))) := Lib.hid HNF.out.symm
        have hrb : rq[kat].zs.length ≤ 10 := by rw [hqk]; simp
        have hog1 : w.heap.size ≤ og := (HOn.outer.lt og rfl).1
        have hql : rq.length ≤ 11 := by omega
        rw [hv, ← hlq, ← hkat]
        clear HOn hkr hqk hlq hrq hkat hown4 hgrow4 hg4 hv hfl2 HOLD HNEW HNF HNT HO2 HX2 HB2 HF2 HX0 HF0 HO0 HB0 HFO HO HB HF3 HO3 HX3 HB3 HZS HRL
        -- w4, rq, kat, og, oc; HOq, HXq, HBq, HFq, HSQ, hkq
        have c1 := HOq.out.outer.cellAt kat (by omega)
        rw [rows2_get hkq] at c1
        have c1a := ((HOq.out.outer.alloc (.cells #[.int .i64 x.id] 3)).cellAt kat (by omega)).trans (rows2_get hkq)
        have inn := HOq.out.inner kat hkq
        have UPD := Lib.hid (fun (w1 : World) (g c n : Nat) (row : Option Nat) hn hown hg hrow hat => Own2.upd (w1 := w1) (k := kat) (g := g) (c := c) (n := n) (x := x.id) (row := row) HOq.out hkq hn hown hg hrow hat)
        have SPL := Lib.hid (HOq.out.split kat hkq)
        have cx := HXq.out.cell (j := 0) rfl
        obtain ⟨⟨ra, rc, rz⟩, hrz⟩ : ∃ r, r = rq[kat] := ⟨_, rfl⟩
        rw [← hrz] at c1 c1a inn UPD SPL HSQ hrb
        simp only at inn
        have HI := Lib.hid inn
        have i1 : (0 : Int) ≤ (kat : Int) := by omega
        have i2 : (kat : Int) < (rq.length : Int) := by omega
        simp only at hrb
        clear inn hrz
        go_wp2_with fail
        go_region_law ((refine step_append_lies _ (by rfl) _ _ _ (by rfl) w.heap.size 3 i0 (.int .i64 0) 1 8 Try.underlying36 hi hz0 hz1 hz2 rfl (by decide) (.slice ra rz.length rc) rz.length (ints rz) (by rfl) ((HI.out.alloc _).drew) ⟨w4.heap.size, 0, none⟩ 1 1 [.int .i64 x.id] (by rfl) (by rfl) (World.news_of_block (cs := #[.int .i64 x.id]) (t := 3) (fr := (0, 0)) (heap_alloc_new w4 _)) (by simp [Value.oneCell']) (by omega) (by show rz.length + 1 ≤ maxLen; unfold maxLen; omega) (show (rz.length + 1) * 8 ≤ 140737488355328 by omega) (Nat.le_trans HBq.out.size (by simp)) (w4.heap.size + 1) (by simp) ?_; intro gg cap5 w9 hown9 hgrow9 hat9 hlt9; have o9 := own_kept (HOq.out.outer.alloc _).drew hgrow9 (fun q hq e => SPL.out q e hq); have k9 := o9.cellAt kat (by omega); rw [rows2_get hkq] at k9; have f9 := o9.frozenAt kat))
        all_goals
          have hgr : w4.grownBy w9 (Value.slice ra rz.length rc).ownBlock := grownBy_trans (grownBy_trans (World.grownBy_alloc w4 _ _) (below_grown' (Dr.below (Dr.of _ 1) _) _)) hgrow9
          have hu := UPD.out w9 gg cap5 (rz.length + 1) (Value.slice ra rz.length rc).ownBlock rfl hown9 hgr rfl (hat9.imp id (fun h => by omega))
          rw [List.length_set] at hu
          have hF9 := own_kept ((HFq.out.alloc _).drew) hgrow9 (fun q hq e => own_type_ne HI.out HFq.out (by decide) q hq e)
          have hF10 := own_kept hF9 (grownBy_setCell w9 ⟨og, kat, none⟩ (.slice (some ⟨gg, 0, none⟩) (rz.length + 1) cap5)) (fun q hq e => own_type_ne o9 hF9 (by decide) q hq e)
          have hb9 := HBq.out.grown hgr HBq.out.size (fun q hq => (HI.out.lt q hq).1)
          have hb10 := hb9.grown (grownBy_setCell w9 ⟨og, kat, none⟩ (.slice (some ⟨gg, 0, none⟩) (rz.length + 1) cap5)) hb9.size (fun q hq => by injection hq with hq; rw [← hq]; exact hog1)
          have HU := Lib.hid hu
          have HF10 := Lib.hid hF10
          have HB10 := Lib.hid hb10
          clear hgr hu hF9 hF10 hb9 hb10 o9 k9 f9 hown9 hgrow9 hat9 hlt9 c1 c1a cx
          go_wp2_with fail
          go_roundw
          case rel => exact ⟨k + 1, (F ++ [x]), _, by omega, by go_num, HFQ.out, ⟨_, _, by first | rfl | rw [HKL.out]⟩, by first | exact HF10.out | (rw [← HKL.out]; exact HF10.out), ⟨_, _, by rw [List.length_set]⟩, HSQ.out _ rfl, HU.out, HB10.out⟩
          case measure => simp [intOf]; omega
      · obtain ⟨kat, hkat, hix, hsx⟩ := idxF_some hany
        rw [hix]
        obtain ⟨hO1, hO2⟩ := HOLD.out kat (by rw [← HFF.out]; exact hkat) (by simp only [← HFF.out]; exact hsx)
        have hkq : kat < rs.length := by rw [HRL.out]; exact hkat
        have HSQ : Hid (∀ r : Row2, r.zs = rs[kat].zs ++ [x.id] → zss (rs.set kat r) = sameTo zs (k + 1)) := Lib.hid (fun r h => by rw [hO2, zss_set hkq r h]; simp only [HZS.out])
        have HFQ : Hid (F = firsts (zs.take (k + 1))) := Lib.hid (by rw [hO1]; exact HFF.out)
        have hrb : rs[kat].zs.length ≤ 10 := by
          have : rs[kat].zs ∈ zss rs := List.mem_map.2 ⟨_, List.getElem_mem hkq, rfl⟩
          rw [HZS.out] at this
          have := sameTo_in this; omega
        obtain ⟨og, hog⟩ := own_form HO2.out.outer (by omega)
        obtain ⟨rfl, hog1, hog2⟩ := hog
        have HOq := HO2
        have HXq := HX2
        have HBq := HB2
        have HFq := HF2
        clear hO1 hO2 hix hany hsx HOLD HNEW HO2 HX2 HB2 HF2 HX0 HF0 HO0 HB0 HFO HO HB
        -- w2, rs, kat, og, oc; HOq, HXq, HBq, HFq, HSQ, hkq
        have c1 := HOq.out.outer.cellAt kat (by omega)
        rw [rows2_get hkq] at c1
        have c1a := ((HOq.out.outer.alloc (.cells #[.int .i64 x.id] 3)).cellAt kat (by omega)).trans (rows2_get hkq)
        have inn := HOq.out.inner kat hkq
        have UPD := Lib.hid (fun (w1 : World) (g c n : Nat) (row : Option Nat) hn hown hg hrow hat => Own2.upd (w1 := w1) (k := kat) (g := g) (c := c) (n := n) (x := x.id) (row := row) HOq.out hkq hn hown hg hrow hat)
        have SPL := Lib.hid (HOq.out.split kat hkq)
        have cx := HXq.out.cell (j := 0) rfl
        obtain ⟨⟨ra, rc, rz⟩, hrz⟩ : ∃ r, r = rs[kat] := ⟨_, rfl⟩
        rw [← hrz] at c1 c1a inn UPD SPL HSQ hrb
        simp only at inn
        have HI := Lib.hid inn
        have i1 : (0 : Int) ≤ (kat : Int) := by omega
        have i2 : (kat : Int) < (rs.length : Int) := by omega
        simp only at hrb
        clear inn hrz
        go_wp2_with fail
        go_region_law ((refine step_append_lies _ (by rfl) _ _ _ (by rfl) w.heap.size 3 i0 (.int .i64 0) 1 8 Try.underlying36 hi hz0 hz1 hz2 rfl (by decide) (.slice ra rz.length rc) rz.length (ints rz) (by rfl) ((HI.out.alloc _).drew) ⟨w2.heap.size, 0, none⟩ 1 1 [.int .i64 x.id] (by rfl) (by rfl) (World.news_of_block (cs := #[.int .i64 x.id]) (t := 3) (fr := (0, 0)) (heap_alloc_new w2 _)) (by simp [Value.oneCell']) (by omega) (by show rz.length + 1 ≤ maxLen; unfold maxLen; omega) (show (rz.length + 1) * 8 ≤ 140737488355328 by omega) (Nat.le_trans HBq.out.size (by simp)) (w2.heap.size + 1) (by simp) ?_; intro gg cap5 w9 hown9 hgrow9 hat9 hlt9; have o9 := own_kept (HOq.out.outer.alloc _).drew hgrow9 (fun q hq e => SPL.out q e hq); have k9 := o9.cellAt kat (by omega); rw [rows2_get hkq] at k9; have f9 := o9.frozenAt kat))
        all_goals
          have hgr : w2.grownBy w9 (Value.slice ra rz.length rc).ownBlock := grownBy_trans (grownBy_trans (World.grownBy_alloc w2 _ _) (below_grown' (Dr.below (Dr.of _ 1) _) _)) hgrow9
          have hu := UPD.out w9 gg cap5 (rz.length + 1) (Value.slice ra rz.length rc).ownBlock rfl hown9 hgr rfl (hat9.imp id (fun h => by omega))
          rw [List.length_set] at hu
          have hF9 := own_kept ((HFq.out.alloc _).drew) hgrow9 (fun q hq e => own_type_ne HI.out HFq.out (by decide) q hq e)
          have hF10 := own_kept hF9 (grownBy_setCell w9 ⟨og, kat, none⟩ (.slice (some ⟨gg, 0, none⟩) (rz.length + 1) cap5)) (fun q hq e => own_type_ne o9 hF9 (by decide) q hq e)
          have hb9 := HBq.out.grown hgr HBq.out.size (fun q hq => (HI.out.lt q hq).1)
          have hb10 := hb9.grown (grownBy_setCell w9 ⟨og, kat, none⟩ (.slice (some ⟨gg, 0, none⟩) (rz.length + 1) cap5)) hb9.size (fun q hq => by injection hq with hq; rw [← hq]; exact hog1)
          have HU := Lib.hid hu
          have HF10 := Lib.hid hF10
          have HB10 := Lib.hid hb10
          clear hgr hu hF9 hF10 hb9 hb10 o9 k9 f9 hown9 hgrow9 hat9 hlt9 c1 c1a cx
          go_wp2_with fail
          go_roundw
          case rel => exact ⟨k + 1, F, _, by omega, by go_num, HFQ.out, ⟨_, _, by first | rfl | rw [HKL.out]⟩, by first | exact HF10.out | (rw [← HKL.out]; exact HF10.out), ⟨_, _, by rw [List.length_set]⟩, HSQ.out _ rfl, HU.out, HB10.out⟩
          case measure => simp [intOf]; omega
    · obtain rfl : k = zs.length := by omega
      clear hF hzs hfo hown hbel
      go_wp2_with fail
      go_ret2
      exact ⟨_, _, rs, rfl, HZS.out.trans (sameTo_all zs), HO.out, HB.out⟩
end Go.Proofs.Ytidiecffahaojaa
