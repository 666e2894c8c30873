/- Rows of rows of numbers: eqIntSS, markIntSS, heldIntSS. -/
import Derived.Test.YtidiecffahaojaaRowX
import Derived.Test.YtidiecffahaojaaQuiet
import Derived.Test.YtidiecffahaojaaMarkS
namespace Go.Proofs.Ytidiecffahaojaa
open Go.RowKit

/-- an inner row: where it lies, and what it holds -/
structure Row2 where
  ad : Option Addr
  cap : Nat
  zs : List Int
abbrev Row2.val (r : Row2) : Value := .slice r.ad r.zs.length r.cap
def rows2 (rs : List Row2) : List Value := rs.map Row2.val
theorem rows2_get {rs : List Row2} {k : Nat} (h : k < rs.length) : (rows2 rs)[k]? = some rs[k].val := by simp [rows2, h]
theorem rows2_length (rs : List Row2) : (rows2 rs).length = rs.length := by simp [rows2]
def zss (rs : List Row2) : List (List Int) := rs.map Row2.zs
/-- how many numbers the first j rows hold -/
def offs (rs : List Row2) (j : Nat) : Nat := ((rs.take j).map (·.zs.length)).sum
theorem offs_zero (rs : List Row2) : offs rs 0 = 0 := by simp [offs]
theorem offs_succ {rs : List Row2} {j : Nat} (h : j < rs.length) : offs rs (j + 1) = offs rs j + rs[j].zs.length := by
  unfold offs; rw [List.take_succ_eq_append_getElem h, List.map_append, List.sum_append]; simp
theorem offs_mono (rs : List Row2) : ∀ {i j : Nat}, i ≤ j → j ≤ rs.length → offs rs i ≤ offs rs j := by
  intro i j hij hj
  induction j with
  | zero => rw [show i = 0 by omega]; exact Nat.le_refl _
  | succ j ih =>
    rcases Nat.lt_or_ge j i with h | h
    · rw [show i = j + 1 by omega]; exact Nat.le_refl _
    · have := ih h (by omega)
      rw [offs_succ (by omega)]; omega
/-- the rows with their numbers counted from k on -/
def marked (k : Int) (rs : List Row2) : List Row2 := (List.range rs.length).map fun i => match rs[i]? with
  | some r => { r with zs := cnt (k + (offs rs i : Int)) r.zs.length }
  | none => ⟨none, 0, []⟩
theorem marked_length (k : Int) (rs : List Row2) : (marked k rs).length = rs.length := by simp [marked]
theorem marked_get {k : Int} {rs : List Row2} {i : Nat} (h : i < rs.length) : (marked k rs)[i]'(by rw [marked_length]; exact h) = { rs[i] with zs := cnt (k + (offs rs i : Int)) rs[i].zs.length } := by
  simp [marked, h]
/-- the first j rows marked -/
def markTo (k : Int) (rs : List Row2) (j : Nat) : List Row2 := (marked k rs).take j ++ rs.drop j
theorem markTo_zero (k : Int) (rs : List Row2) : markTo k rs 0 = rs := by simp [markTo]
theorem markTo_all (k : Int) (rs : List Row2) : markTo k rs rs.length = marked k rs := by
  rw [markTo, List.drop_length, List.append_nil, List.take_of_length_le (by rw [marked_length]; exact Nat.le_refl _)]
theorem markTo_length {k : Int} {rs : List Row2} {j : Nat} (h : j ≤ rs.length) : (markTo k rs j).length = rs.length := by
  rw [markTo, List.length_append, List.length_take, List.length_drop, marked_length]; omega
theorem markTo_get {k : Int} {rs : List Row2} {j : Nat} (h : j < rs.length) : (markTo k rs j)[j]'(by rw [markTo_length (by omega)]; exact h) = rs[j] := by
  simp only [markTo]
  rw [List.getElem_append_right (by simp [marked_length]; omega)]
  simp [marked_length, show min j rs.length = j by omega]
theorem markTo_set {k : Int} {rs : List Row2} {j : Nat} (h : j < rs.length) : (markTo k rs j).set j { rs[j] with zs := cnt (k + (offs rs j : Int)) rs[j].zs.length } = markTo k rs (j + 1) := by
  have hm : j < (marked k rs).length := by rw [marked_length]; exact h
  unfold markTo
  rw [List.set_append_right _ _ (by simp [marked_length]; omega), List.take_succ_eq_append_getElem hm, marked_get h, show j - ((marked k rs).take j).length = 0 by simp [marked_length]; omega, List.drop_eq_getElem_cons h, List.set_cons_zero, List.append_assoc]
  rfl
/-- a row of rows of the call's own, no two in one block -/
structure Own2 (w : World) (base : Nat) (v : Value) (rs : List Row2) : Prop where
  outer : w.ownsRow base 36 1 v rs.length (rows2 rs)
  inner : ∀ k (h : k < rs.length), w.ownsRow base 3 1 rs[k].val rs[k].zs.length (ints rs[k].zs)
  apart : ∀ i j (hi : i < rs.length) (hj : j < rs.length), i ≠ j → ∀ q, rs[i].val.ownBlock = some q → rs[j].val.ownBlock ≠ some q
  split : ∀ k (h : k < rs.length) q, rs[k].val.ownBlock = some q → v.ownBlock ≠ some q
section
variable {w w' : World} {base : Nat} {v : Value} {rs : List Row2}
theorem Own2.below (h : Own2 w base v rs) (hb : Below w.heap.size w w') : Own2 w' base v rs :=
  ⟨own_below h.outer hb, fun k hk => own_below (h.inner k hk) hb, h.apart, h.split⟩
theorem Own2.dr (h : Own2 w base v rs) (hd : Dr w w') : Own2 w' base v rs := h.below (hd.below _)
theorem Own2.far (h : Own2 w base v rs) {B : Nat} (hb : Below B w w') (h1 : ∀ q, v.ownBlock = some q → q < B) (h2 : ∀ k (hk : k < rs.length) q, rs[k].val.ownBlock = some q → q < B) : Own2 w' base v rs := by
  have keep : ∀ {e : TypeId} {u : Value} {n : Nat} {xs : List Value}, w.ownsRow base e 1 u n xs → (∀ q, u.ownBlock = some q → q < B) → w'.ownsRow base e 1 u n xs := fun {e u n xs} hu hq => by
    rcases hu with ⟨hl, h0 | ⟨g, c, cur, e1, e2, e3, e4⟩⟩
    · exact ⟨hl, .inl h0⟩
    · refine ⟨hl, .inr ⟨g, c, cur, e1, e2, ?_, e4⟩⟩
      rw [hb.block g (hq g (by rw [e1]; rfl))]; exact e3
  exact ⟨keep h.outer h1, fun k hk => keep (h.inner k hk) (h2 k hk), h.apart, h.split⟩
theorem Own2.lt (h : Own2 w base v rs) : (∀ q, v.ownBlock = some q → q < w.heap.size) ∧ (∀ k (hk : k < rs.length) q, rs[k].val.ownBlock = some q → q < w.heap.size) :=
  ⟨fun q hq => (h.outer.lt q hq).2, fun k hk q hq => ((h.inner k hk).lt q hq).2⟩
theorem Own2.grown_hi {row : Option Nat} {B : Nat} (h : Own2 w base v rs) (hg : w.grownBy w' row) (hb : (∀ q, v.ownBlock = some q → q < B) ∧ (∀ k (hk : k < rs.length) q, rs[k].val.ownBlock = some q → q < B)) (hr : ∀ q, row = some q → B ≤ q) : Own2 w' base v rs :=
  ⟨own_kept h.outer hg (fun q hq e => by have := hb.1 q hq; have := hr q e; omega), fun k hk => own_kept (h.inner k hk) hg (fun q hq e => by have := hb.2 k hk q hq; have := hr q e; omega), h.apart, h.split⟩
theorem Own2.grown_lo {row : Option Nat} (h : Own2 w base v rs) (hg : w.grownBy w' row) (hr : ∀ q, row = some q → q < base) : Own2 w' base v rs :=
  ⟨own_kept h.outer hg (fun q hq e => by have := (h.outer.lt q hq).1; have := hr q e; omega), fun k hk => own_kept (h.inner k hk) hg (fun q hq e => by have := ((h.inner k hk).lt q hq).1; have := hr q e; omega), h.apart, h.split⟩
theorem own_under {e : TypeId} {u : Value} {b n sz B : Nat} {xs : List Value} (hu : w.ownsRow b e sz u n xs) (hb : Below B w w') (hq : ∀ q, u.ownBlock = some q → q < B) : w'.ownsRow b e sz u n xs := by
  rcases hu with ⟨hl, h0 | ⟨g, c, cur, e1, e2, e3, e4⟩⟩
  · exact ⟨hl, .inl h0⟩
  · refine ⟨hl, .inr ⟨g, c, cur, e1, e2, ?_, e4⟩⟩
    rw [hb.block g (hq g (by rw [e1]; rfl))]; exact e3
end
theorem offs_bd {rs : List Row2} {M : Nat} (h : ∀ r ∈ rs, r.zs.length ≤ M) : ∀ j, j ≤ rs.length → offs rs j ≤ j * M := by
  intro j
  induction j with
  | zero => intro _; rw [offs_zero]; omega
  | succ j ih =>
    intro hj
    have := ih (by omega)
    have h2 := h _ (List.getElem_mem (show j < rs.length by omega))
    rw [offs_succ (by omega), Nat.add_mul]
    omega
set_option maxHeartbeats 1000000 in
set_option maxRecDepth 100000 in
/-- two rows of rows with the same numbers are told equal -/
theorem eqIntSS_any (a b : Option Addr) (ca cb base base' : Nat) (rs ts : List Row2) (w : World) (hm : rs.length ≤ 1048576) (hs : ∀ r ∈ rs, r.zs.length ≤ 1048576) (he : zss rs = zss ts) (hx : Own2 w base (.slice a rs.length ca) rs) (hy : Own2 w base' (.slice b ts.length cb) ts) :
    Calls Try.prog 9 #[.slice a rs.length ca, .slice b ts.length cb] w fun e w' => e = .returned (.bool true) ∧ Dr w w' := by
  have hl : ts.length = rs.length := by have := congrArg List.length he; simpa [zss] using this.symm
  have HX := Lib.hid hx
  have HY := Lib.hid hy
  have HE : Hid (∀ k (h : k < rs.length) (h2 : k < ts.length), ts[k].zs = rs[k].zs) := Lib.hid (fun k h h2 => by
    have h3 : (zss rs)[k]? = (zss ts)[k]? := by rw [he]
    simp [zss, h, h2] at h3
    exact h3.symm)
  have HL := Lib.hid hl
  have HS := Lib.hid hs
  have hb0 : ((rs.length : Int) != (ts.length : Int)) = false := by simp; omega
  clear hx hy he hl hs
  go_enter Try.func9, Try.ntmps9
  go_wp2_with fail
  go_loopw [5] (fun i wr => ∃ k : Nat, k ≤ rs.length ∧ i = .int .i64 k ∧ Dr w wr) (fun i _ => rs.length - (intOf i).toNat)
  case atStart => exact ⟨0, Nat.zero_le _, rfl, Dr.refl _⟩
  case round =>
    obtain ⟨k, hk, rfl, hdr⟩ := hrel
    by_cases hlt : k < rs.length
    · have hlt2 : k < ts.length := by rw [HL.out]; exact hlt
      have hx := HX.out.dr hdr
      have hy := HY.out.dr hdr
      obtain ⟨g1, rfl, _, _⟩ := own_form hx.outer (by omega)
      obtain ⟨g2, rfl, _, _⟩ := own_form hy.outer (by omega)
      have c1 := hx.outer.cellAt k (by omega)
      rw [rows2_get hlt] at c1
      have c2 := hy.outer.cellAt k (by omega)
      rw [rows2_get hlt2] at c2
      have e2 := HE.out k hlt hlt2
      have i1 := own_reads (hx.inner k hlt)
      have i2 := own_reads (hy.inner k hlt2)
      have hsz := HS.out _ (List.getElem_mem hlt)
      obtain ⟨r, hr⟩ : ∃ r, r = rs[k] := ⟨_, rfl⟩
      obtain ⟨t, ht⟩ : ∃ t, t = ts[k] := ⟨_, rfl⟩
      rw [← hr] at c1 i1 e2 hsz
      rw [← ht] at c2 i2 e2
      obtain ⟨ra, rc, rz⟩ := r
      obtain ⟨ta, tc, tz⟩ := t
      simp only at e2 i1 i2 hsz
      subst e2
      have HQ : Hid (∀ n, Calls Try.prog 34 #[.slice ra tz.length rc, .slice ta tz.length tc] (wr.drewN n) fun e w' => e = .returned (.bool true) ∧ Dr (wr.drewN n) w') := Lib.hid (fun n => by
        have := eqIntS_any ra ta rc tc tz tz (wr.drewN n) (by unfold maxLen; omega) (by unfold maxLen; omega) (i1.dr (Dr.of _ _)) (i2.dr (Dr.of _ _))
        simpa using this)
      have HD := Lib.hid hdr
      clear hx hy i1 i2 hr ht hdr hsz
      go_wp2_with fail
      go_quiet ((go_at_call 34; exact quiet_dr (HQ.out _)))
      go_wp2_with fail
      go_roundw
      case rel => exact ⟨k + 1, by omega, by go_num, HD.out.trans (Dr.of _ _)⟩
      case measure => simp [intOf]; omega
    · obtain rfl : k = rs.length := by omega
      go_wp2_with fail
      go_ret
      exact ⟨rfl, hdr⟩
set_option maxHeartbeats 1000000 in
set_option maxRecDepth 100000 in
theorem markIntSS_any (a : Option Addr) (cap base : Nat) (rs : List Row2) (k : Int) (w : World) (hk : 0 ≤ k) (hk2 : k ≤ 549755813888) (hn : offs rs rs.length ≤ 549755813888) (h : Own2 w base (.slice a rs.length cap) rs) :
    Calls Try.prog 12 #[.slice a rs.length cap, .int .i64 k] w fun e w' => e = .returned (.int .i64 (k + (offs rs rs.length : Int))) ∧ Own2 w' base (.slice a rs.length cap) (marked k rs) ∧ Below base w w' := by
  have H := Lib.hid h
  have HM := Lib.hid (fun j (hj : j ≤ rs.length) => offs_mono rs hj (Nat.le_refl _))
  have hl1 : rs.length ≤ maxLen := by
    rcases h.outer.2 with ⟨_, h0⟩ | ⟨g, c, cur, e1, _, _, h1, h2, _⟩
    · rw [h0]; exact Nat.zero_le _
    · exact Nat.le_trans h1 h2
  unfold maxLen at hl1
  clear h
  go_enter Try.func12, Try.ntmps12
  go_wp2_with fail
  go_loopw [1, 5] (fun q i wr => ∃ j : Nat, j ≤ rs.length ∧ i = .int .i64 j ∧ q = .int .i64 (k + (offs rs j : Int)) ∧ Own2 wr base (.slice a rs.length cap) (markTo k rs j) ∧ Below base w wr) (fun _ i _ => rs.length - (intOf i).toNat)
  case atStart => exact ⟨0, Nat.zero_le _, rfl, by rw [offs_zero]; simp, by rw [markTo_zero]; exact H.out, Below.refl _ _⟩
  case round =>
    obtain ⟨j, hj, rfl, rfl, hown, hbel⟩ := hrel
    by_cases hlt : j < rs.length
    · have hlj : j < (markTo k rs j).length := by rw [markTo_length (by omega)]; exact hlt
      have hout := hown.outer
      rw [markTo_length (by omega)] at hout
      obtain ⟨g, rfl, hbg, hgs⟩ := own_form hout (by omega)
      have c1 := hout.cellAt j (by omega)
      rw [rows2_get hlj, markTo_get hlt] at c1
      have i1 := hown.inner j hlj
      rw [markTo_get hlt] at i1
      have ho1 := HM.out j (by omega)
      have ho2 := HM.out (j + 1) (by omega)
      have hos := Lib.hid (offs_succ hlt)
      rw [hos.out] at ho2
      have hst := Lib.hid (markTo_set (k := k) hlt)
      have HO := Lib.hid hown
      have HB := Lib.hid hbel
      have hgj := Lib.hid (markTo_get (k := k) hlt)
      have HQ := Lib.hid (markIntS_any rs[j].ad rs[j].zs.length rs[j].cap base (ints rs[j].zs) (k + (offs rs j : Int)) wr (by omega) (by omega) (by omega) i1)
      clear hown hbel hout i1
      go_wp2_with fail
      refine HQ.out.mono ?_
      rintro e w1 ⟨rfl, hown1, hgr⟩
      have HO1 : Hid (Own2 w1 base (.slice (some ⟨g, 0, none⟩) rs.length cap) (markTo k rs (j + 1))) := Lib.hid (by
        have hb := HO.out
        have hL : (markTo k rs (j + 1)).length = rs.length := markTo_length (by omega)
        have hL0 : (markTo k rs j).length = rs.length := markTo_length (by omega)
        have hat : ∀ i (hi : i < (markTo k rs (j + 1)).length) (hi0 : i < (markTo k rs j).length), i ≠ j → (markTo k rs (j + 1))[i] = (markTo k rs j)[i] := fun i hi hi0 hne => by
          simp only [← hst.out]
          rw [List.getElem_set_ne (fun e => hne e.symm)]
        have hatj : (markTo k rs (j + 1))[j]'(by omega) = { rs[j] with zs := cnt (k + (offs rs j : Int)) rs[j].zs.length } := by
          simp only [← hst.out]
          rw [List.getElem_set_self]
        have hval : ∀ i (hi : i < (markTo k rs (j + 1)).length) (hi0 : i < (markTo k rs j).length), (markTo k rs (j + 1))[i].val = (markTo k rs j)[i].val := fun i hi hi0 => by
          by_cases e : i = j
          · subst e
            rw [hatj, hgj.out]
            simp [Row2.val, cnt_length]
          · rw [hat i hi hi0 e]
        have hrows : rows2 (markTo k rs (j + 1)) = rows2 (markTo k rs j) := by
          apply List.ext_getElem (by simp [rows2, hL, hL0])
          intro i h1 h2
          simp only [rows2, List.getElem_map]
          simp only [rows2, List.length_map] at h1 h2
          exact hval i h1 h2
        refine ⟨?_, fun i hi => ?_, fun i i' hi hi' hne q hq => ?_, fun i hi q hq => ?_⟩
        · rw [hrows, hL]
          have ho := hb.outer
          rw [hL0] at ho
          refine own_kept ho hgr (fun q hq e => ?_)
          have := hb.split j hlj q (by rw [hgj.out]; exact e)
          exact this hq
        · by_cases e : i = j
          · subst e
            rw [hatj]
            simpa [Row2.val, cnt_length] using hown1
          · rw [hat i hi (by omega) e]
            refine own_kept (hb.inner i (by omega)) hgr (fun q hq e2 => ?_)
            exact hb.apart i j (by omega) hlj e q hq (by rw [hgj.out]; exact e2)
        · rw [hval i hi (by omega)] at hq
          rw [hval i' hi' (by omega)]
          exact hb.apart i i' (by omega) (by omega) hne q hq
        · rw [hval i hi (by omega)] at hq
          exact hb.split i (by omega) q hq)
      have HB1 : Hid (Below base w w1) := Lib.hid (by
        have hin := HO.out.inner j hlj
        rw [hgj.out] at hin
        exact HB.out.grown hgr (Nat.le_of_lt (Nat.lt_of_le_of_lt hbg hgs)) (fun q hq => (hin.lt q hq).1))
      clear hown1 hgr
      go_wp2_with fail
      go_roundw
      case rel => exact ⟨j + 1, by omega, by go_num, by rw [hos.out]; go_num, HO1.out, HB1.out⟩
      case measure => simp [intOf]; omega
    · obtain rfl : j = rs.length := by omega
      rw [markTo_all] at hown
      go_wp2_with fail
      go_ret
      exact ⟨rfl, hown, hbel⟩
set_option maxHeartbeats 1000000 in
set_option maxRecDepth 100000 in
theorem heldIntSS_any (a : Option Addr) (cap base : Nat) (rs : List Row2) (k : Int) (w : World) (hk : 0 ≤ k) (hk2 : k ≤ 549755813888) (hn : offs rs rs.length ≤ 549755813888) (h : Own2 w base (.slice a rs.length cap) (marked k rs)) :
    Calls Try.prog 13 #[.slice a rs.length cap, .int .i64 k] w fun e w' => e = .returned (.int .i64 (k + (offs rs rs.length : Int))) ∧ w = w' := by
  have H := Lib.hid h
  have HM := Lib.hid (fun j (hj : j ≤ rs.length) => offs_mono rs hj (Nat.le_refl _))
  have hl1 : rs.length ≤ maxLen := by
    have ho := h.outer
    rw [marked_length] at ho
    rcases ho.2 with ⟨_, h0⟩ | ⟨g, c, cur, e1, _, _, h1, h2, _⟩
    · rw [h0]; exact Nat.zero_le _
    · exact Nat.le_trans h1 h2
  unfold maxLen at hl1
  clear h
  go_enter Try.func13, Try.ntmps13
  go_wp2_with fail
  go_loop [1, 5] (fun q i => ∃ j : Nat, j ≤ rs.length ∧ i = .int .i64 j ∧ q = .int .i64 (k + (offs rs j : Int))) (fun _ i => rs.length - (intOf i).toNat)
  case atStart => exact ⟨0, Nat.zero_le _, rfl, by rw [offs_zero]; simp⟩
  case round =>
    obtain ⟨j, hj, rfl, rfl⟩ := hrel
    by_cases hlt : j < rs.length
    · have hlj : j < (marked k rs).length := by rw [marked_length]; exact hlt
      have hout := H.out.outer
      rw [marked_length] at hout
      obtain ⟨g, rfl, _, _⟩ := own_form hout (by omega)
      have c1 := hout.cellAt j (by omega)
      rw [rows2_get hlj, marked_get hlt] at c1
      have i1 := own_reads (H.out.inner j hlj)
      rw [marked_get hlt] at i1
      have ho1 := HM.out j (by omega)
      have ho2 := HM.out (j + 1) (by omega)
      have hos := Lib.hid (offs_succ hlt)
      rw [hos.out] at ho2
      have HQ := Lib.hid (heldIntS_any rs[j].ad rs[j].zs.length rs[j].cap (k + (offs rs j : Int)) w (by omega) (by omega) (by omega) i1)
      simp only [Row2.val, cnt_length] at c1
      have hge : ¬ k + (offs rs j : Int) + (rs[j].zs.length : Int) < 0 := by omega
      clear hout i1
      go_wp2_with fail
      refine HQ.out.mono ?_
      rintro e _ ⟨rfl, rfl⟩
      go_wp2_with fail
      go_round
      case rel => exact ⟨j + 1, by omega, by go_num, by rw [hos.out]; go_num⟩
      case measure => simp [intOf]; omega
    · obtain rfl : j = rs.length := by omega
      go_wp2_with fail
      go_ret
      exact ⟨rfl, rfl⟩
end Go.Proofs.Ytidiecffahaojaa
