/- IssuedBy: both sides collect the same ids. -/
import Derived.Test.YtoomjionojfjgaaDoorStampG
import Derived.Deep.AppendLies
namespace Go.Proofs.YtoomjionojfjgaaDoor
open Go.RowKit

theorem stampsOk_len {zs : List StampT} (h : stampsOk zs = true) : zs.length ≤ 12 := by
  simp only [stampsOk, Bool.and_eq_true, decide_eq_true_eq] at h; exact h.2
theorem stampsOk_at {zs : List StampT} (h : stampsOk zs = true) {k : Nat} (hk : k < zs.length) : stampOk zs[k] = true := by
  simp only [stampsOk, Bool.and_eq_true, allB_true] at h
  have := h.1 k hk
  simp only [stampAt, Bool.and_eq_true, stamp_getD hk] at this
  exact this.1
theorem stampOk_bd {c : StampT} (h : stampOk c = true) : (1 ≤ c.id ∧ c.id ≤ 999) ∧ (0 ≤ c.face ∧ c.face ≤ 9999) ∧ (0 ≤ c.color ∧ c.color ≤ 99) ∧ 1840 ≤ c.year ∧ c.year ≤ 2100 := by
  simp only [stampOk, Bool.and_eq_true, inB_true] at h; exact ⟨h.1.1.1, h.1.1.2, h.1.2, h.2⟩
theorem new_secondS (w : World) (o1 o2 : Obj) : ((w.alloc o1).alloc o2).heap[w.heap.size + 1]? = some o2 := by
  have h := heap_alloc_new (w.alloc o1) o2
  have hs : (w.alloc o1).heap.size = w.heap.size + 1 := by simp
  rw [hs] at h; exact h
def idsToStamp (p : StampT → Bool) (zs : List StampT) (k : Nat) : List Int := ((zs.take k).filter p).map (·.id)
def idsOfStamp (p : StampT → Bool) (zs : List StampT) : List Int := (zs.filter p).map (·.id)
theorem idsToStamp_all (p : StampT → Bool) (zs : List StampT) : idsToStamp p zs zs.length = idsOfStamp p zs := by simp [idsToStamp, idsOfStamp]
theorem idsToStamp_le (p : StampT → Bool) (zs : List StampT) (k : Nat) : (idsToStamp p zs k).length ≤ k := by
  simp only [idsToStamp, List.length_map]
  exact Nat.le_trans (List.length_filter_le _ _) (by simp; omega)
theorem idsToStamp_yes {p : StampT → Bool} {zs : List StampT} {k : Nat} (h : k < zs.length) (hp : p zs[k] = true) : idsToStamp p zs (k + 1) = idsToStamp p zs k ++ [zs[k].id] := by
  unfold idsToStamp
  rw [List.take_succ_eq_append_getElem h, List.filter_append]
  simp [hp]
theorem idsToStamp_no {p : StampT → Bool} {zs : List StampT} {k : Nat} (h : k < zs.length) (hp : p zs[k] = false) : idsToStamp p zs (k + 1) = idsToStamp p zs k := by
  unfold idsToStamp
  rw [List.take_succ_eq_append_getElem h, List.filter_append]
  simp [hp]
def yAsk (zs : List StampT) (yr : Int) : Bool := stampsOk zs && inB yr 1840 2100
def yTest (yr : Int) (c : StampT) : Bool := decide (c.year ≤ yr)
set_option maxRecDepth 100000 in
set_option maxHeartbeats 2000000 in
theorem specIssued_any (a : Option Addr) (cap : Nat) (zs : List StampT) (yr : Int) (w : World) (hm : zs.length ≤ maxLen) (hr : Reads w a (stamps zs)) :
    Calls Tryd.prog 18 #[.slice a zs.length cap, .int .i64 yr] w fun e w' => ∃ ad cp, e = .returned (.tuple #[.slice ad (if yAsk zs yr = true then idsOfStamp (yTest yr) zs else []).length cp, .bool (yAsk zs yr)]) ∧
      w'.ownsRow w.heap.size 3 1 (.slice ad (if yAsk zs yr = true then idsOfStamp (yTest yr) zs else []).length cp) (if yAsk zs yr = true then idsOfStamp (yTest yr) zs else []).length (ints (if yAsk zs yr = true then idsOfStamp (yTest yr) zs else [])) ∧ Below w.heap.size w w' := by
  obtain ⟨i0, hi, hz0, hz1, hz2⟩ := info_parts info_int
  have hA := fun w hr => l2Stamps_any a cap zs w hm hr
  cases hask : yAsk zs yr
  · simp only [Bool.false_eq_true, if_false]
    have hown0 := Lib.hid (RowIs.owns (RowIs.made' w 3 ([] : List Value)) (n := 0) (sz := 1) rfl (by unfold maxLen; omega) (Nat.le_refl _))
    have hb0 := Lib.hid (Go.Joins.below_alloc1 w (.cells ([] : List Value).toArray 3))
    have hx0 := hm
    cases e1 : stampsOk zs
    · rw [e1] at hA
      have HA := Lib.hid hA
      clear hA hask
      unfold maxLen at hm
      go_enter Tryd.func18, Tryd.ntmps18
      go_wp2_with fail
      refine (HA.out _ (hr.below (Go.Joins.below_alloc1 w _))).mono ?_
      rintro e w1 ⟨rfl, hb⟩
      have HB := Lib.hid hb
      clear hb
      go_wp2_with fail
      go_ret2
      exact ⟨_, _, rfl, own_below hown0.out HB.out, hb0.out.trans (HB.out.mono hb0.out.size)⟩
    · rw [e1] at hA
      have HA := Lib.hid hA
      clear hA
      cases e2 : inB yr 1840 2100
      all_goals
        first
        | (exfalso; simp [yAsk, e1, e2] at hask; done)
        | (clear hask
           unfold maxLen at hm
           go_enter Tryd.func18, Tryd.ntmps18
           go_wp2_with fail
           refine (HA.out _ (hr.below (Go.Joins.below_alloc1 w _))).mono ?_
           rintro e w1 ⟨rfl, hb⟩
           have HB := Lib.hid hb
           clear hb
           go_wp2_with (go_at_call 43; refine (l2Year_any _ _).mono ?_; rintro e w' ⟨rfl, rfl⟩)
           go_ret2
           exact ⟨_, _, rfl, own_below hown0.out HB.out, hb0.out.trans (HB.out.mono hb0.out.size)⟩)
  · have hA2 := hA
    rw [show stampsOk zs = true from by unfold yAsk at hask; simp at hask; exact hask.1] at hA2
    have HA := Lib.hid hA2
    simp only [if_true]
    have hown0 := Lib.hid (RowIs.owns (RowIs.made' w 3 ([] : List Value)) (n := 0) (sz := 1) rfl (by unfold maxLen; omega) (Nat.le_refl _))
    have hb0 := Lib.hid (Go.Joins.below_alloc1 w (.cells ([] : List Value).toArray 3))
    have HR := Lib.hid hr
    have hx0 := hm
    have hask2 := hask
    simp only [yAsk, Bool.and_eq_true, inB_true] at hask2
    obtain ⟨q0, q1, q2⟩ := hask2
    have q11 := stampsOk_len q0
    clear q0
    clear hA hA2 hr
    cases e2 : inB yr 1840 2100
    all_goals first | (exfalso; simp [yAsk, e2] at hask; done) | skip
    all_goals clear hask
    all_goals unfold maxLen at hm
    all_goals go_enter Tryd.func18, Tryd.ntmps18
    all_goals go_wp2_with fail
    all_goals refine (HA.out _ (HR.out.below (Go.Joins.below_alloc1 w _))).mono ?_
    all_goals rintro e w1 ⟨rfl, hb⟩
    all_goals have HO1 := Lib.hid (own_below hown0.out hb)
    all_goals have HB1 := Lib.hid (hb0.out.trans (hb.mono hb0.out.size))
    all_goals clear hb
    all_goals go_wp2_with (go_at_call 43; refine (l2Year_any _ _).mono ?_; rintro e w' ⟨rfl, rfl⟩)
    all_goals
      go_loopw [6, 7] (fun v i wr => ∃ k : Nat, k ≤ zs.length ∧ i = .int .i64 k ∧ (∃ ad cp, v = .slice ad (idsToStamp (yTest yr) zs k).length cp) ∧ wr.ownsRow w.heap.size 3 1 v (idsToStamp (yTest yr) zs k).length (ints (idsToStamp (yTest yr) zs k)) ∧ Below w.heap.size w wr) (fun _ i _ => zs.length - (intOf i).toNat)
      case atStart => exact ⟨0, Nat.zero_le _, rfl, ⟨_, _, rfl⟩, by simpa [idsToStamp] using HO1.out, HB1.out⟩
      case round =>
        obtain ⟨k, hk, rfl, ⟨ad, cp, rfl⟩, hown, hbel⟩ := hrel
        have hlen := idsToStamp_le (yTest yr) zs k
        by_cases hlt : k < zs.length
        · rcases HR.out with h0 | ⟨b, bo, rfl, hb2, hc⟩
          · have := stamps_length zs; rw [h0] at this; simp at this; omega
          obtain ⟨g0, g1, g2, g3⟩ := stamps_get hlt
          have hc0 := (hbel.cell (p := ⟨b, _, none⟩) hb2).trans (hc _ _ g0)
          have hc1 := (hbel.cell (p := ⟨b, _, none⟩) hb2).trans (hc _ _ g1)
          have hc2 := (hbel.cell (p := ⟨b, _, none⟩) hb2).trans (hc _ _ g2)
          have hc3 := (hbel.cell (p := ⟨b, _, none⟩) hb2).trans (hc _ _ g3)
          simp only [← Nat.add_assoc] at hc1 hc2 hc3
          have HB := Lib.hid hbel
          have HO := Lib.hid hown
          have hcell : ∀ wx : World, Below wr.heap.size wr wx → (wx.cell? ⟨b, bo + k * 4, none⟩ = some (.int .i64 zs[k].id)) := fun wx hb => (hb.cell (p := ⟨b, _, none⟩) (Nat.lt_of_lt_of_le hb2 hbel.size)).trans hc0
          have HC := Lib.hid hcell
          have hall : ∀ wx : World, Below wr.heap.size wr wx → wx.cell? ⟨b, bo + k * 4, none⟩ = some (.int .i64 zs[k].id) ∧ wx.cell? ⟨b, bo + k * 4 + 1, none⟩ = some (.int .i64 zs[k].face) ∧ wx.cell? ⟨b, bo + k * 4 + 2, none⟩ = some (.int .i64 zs[k].color) ∧ wx.cell? ⟨b, bo + k * 4 + 3, none⟩ = some (.int .i64 zs[k].year) := fun wx hb => ⟨(hb.cell (p := ⟨b, _, none⟩) (Nat.lt_of_lt_of_le hb2 hbel.size)).trans hc0, (hb.cell (p := ⟨b, _, none⟩) (Nat.lt_of_lt_of_le hb2 hbel.size)).trans hc1, (hb.cell (p := ⟨b, _, none⟩) (Nat.lt_of_lt_of_le hb2 hbel.size)).trans hc2, (hb.cell (p := ⟨b, _, none⟩) (Nat.lt_of_lt_of_le hb2 hbel.size)).trans hc3⟩
          have HCA := Lib.hid hall
          clear hall
          clear hc g0 g1 g2 g3 hbel hown hcell
          cases hp : (yTest yr) zs[k]
          · have hst := Lib.hid (idsToStamp_no (p := yTest yr) hlt hp)
            try simp only at hp
            have HX := Lib.hid (Below.refl wr.heap.size wr)
            have hp2 : yr < zs[k].year := by unfold yTest at hp; simpa using hp
            clear hp
            go_wp2_with fail
            go_roundw
            case rel => exact ⟨k + 1, by omega, by go_num, ⟨_, _, by rw [hst.out]⟩, by rw [hst.out]; exact own_below HO.out HX.out, HB.out.trans (HX.out.mono HB.out.size)⟩
            case measure => simp [intOf]; omega
          · have hst := Lib.hid (idsToStamp_yes (p := yTest yr) hlt hp)
            try simp only at hp
            have HX := Lib.hid (Below.refl wr.heap.size wr)
            have hp2 : zs[k].year ≤ yr := by unfold yTest at hp; simpa using hp
            clear hp
            go_wp2_with (at_builtin; go_must (refine wpList_append_own _ rfl _ _ 39 rfl w.heap.size 3 i0 (.int .i64 0) 1 8 Tryd.underlying39 hi hz0 hz1 hz2 rfl (by decide) _ _ _ rfl ((own_below HO.out HX.out).alloc _) ⟨wr.heap.size, 0, none⟩ 1 1 [.int .i64 zs[k].id] rfl rfl (World.news_of_block (cs := #[.int .i64 zs[k].id]) (t := 3) (fr := (0, 0)) (heap_alloc_new _ _)) (by simp [Value.oneCell']) (by unfold maxLen; omega) (by omega) (Nat.le_trans (Nat.le_trans HB.out.size HX.out.size) (by simp)) ?_))
            intro v' w3 hown3 hgrow3 _
            obtain ⟨g3, c3, hv⟩ := Go.Joins.ownsRow_form hown3 (by omega)
            have hidl : (idsToStamp (yTest yr) zs (k + 1)).length = (idsToStamp (yTest yr) zs k).length + 1 := by rw [hst.out]; simp
            have hown4 : w3.ownsRow w.heap.size 3 1 (.slice (some ⟨g3, 0, none⟩) ((idsToStamp (yTest yr) zs k).length + 1) c3) (idsToStamp (yTest yr) zs (k + 1)).length (ints (idsToStamp (yTest yr) zs (k + 1))) := by
              rw [hidl, hst.out]; rw [hv] at hown3; simpa [ints] using hown3
            have HO4 := Lib.hid hown4
            have HL4 := Lib.hid hidl
            have hbel4 : Below w.heap.size w w3 := by
              refine ((HB.out.trans (HX.out.mono HB.out.size)).alloc (Nat.le_trans HB.out.size HX.out.size) _).grown hgrow3 ?_ ?_
              · exact Nat.le_trans (Nat.le_trans HB.out.size HX.out.size) (by simp)
              · intro q hq; exact (HO.out.lt q hq).1
            have HB4 := Lib.hid hbel4
            rw [hv]
            clear hown3 hgrow3 hown4 hidl hbel4 hv
            go_wp2_with fail
            go_roundw
            case rel => exact ⟨k + 1, by omega, by go_num, ⟨_, _, by rw [HL4.out]⟩, HO4.out, HB4.out⟩
            case measure => simp [intOf]; omega
        · have hk2 : k = zs.length := by omega
          have he := Lib.hid (idsToStamp_all (yTest yr) zs)
          rw [hk2] at hown ⊢
          rw [he.out] at hown ⊢
          clear hlen hk2
          go_wp2_with fail
          go_ret2
          exact ⟨_, _, rfl, hown, hbel⟩
set_option maxRecDepth 100000 in
set_option maxHeartbeats 2000000 in
theorem implIssued_any (a : Option Addr) (cap : Nat) (zs : List StampT) (yr : Int) (w : World) (hm : zs.length ≤ maxLen) (hr : Reads w a (stamps zs)) :
    Calls Tryd.prog 17 #[.slice a zs.length cap, .int .i64 yr] w fun e w' => ∃ ad cp, e = .returned (.tuple #[.slice ad (if yAsk zs yr = true then idsOfStamp (yTest yr) zs else []).length cp, .bool (yAsk zs yr)]) ∧
      w'.ownsRow w.heap.size 3 1 (.slice ad (if yAsk zs yr = true then idsOfStamp (yTest yr) zs else []).length cp) (if yAsk zs yr = true then idsOfStamp (yTest yr) zs else []).length (ints (if yAsk zs yr = true then idsOfStamp (yTest yr) zs else [])) ∧ Below w.heap.size w w' := by
  obtain ⟨i0, hi, hz0, hz1, hz2⟩ := info_parts info_int
  have hA := fun w hr => areStamps_any a cap zs w hm hr
  cases hask : yAsk zs yr
  · simp only [Bool.false_eq_true, if_false]
    have HR0 := Lib.hid hr
    have hx0 := hm
    cases e1 : stampsOk zs
    · rw [e1] at hA
      have HA := Lib.hid hA
      clear hA hask
      unfold maxLen at hm
      go_enter Tryd.func17, Tryd.ntmps17
      go_wp2_with fail
      refine (HA.out _ hr).mono ?_
      rintro e w1 ⟨rfl, hb⟩
      have HB := Lib.hid hb
      clear hb
      go_wp2_with fail
      go_ret2
      exact ⟨none, 0, rfl, World.ownsRow_nil _ _ _ _, HB.out⟩
    · rw [e1] at hA
      have HA := Lib.hid hA
      clear hA
      cases e2 : inB yr 1840 2100
      all_goals
        first
        | (exfalso; simp [yAsk, e1, e2] at hask; done)
        | (clear hask
           unfold maxLen at hm
           go_enter Tryd.func17, Tryd.ntmps17
           go_wp2_with fail
           refine (HA.out _ hr).mono ?_
           rintro e w1 ⟨rfl, hb⟩
           have HB := Lib.hid hb
           clear hb
           go_wp2_with (go_at_call 42; refine (inRange_any _ _ _ _).mono ?_; rintro e w' ⟨rfl, rfl⟩)
           go_ret2
           exact ⟨none, 0, rfl, World.ownsRow_nil _ _ _ _, HB.out⟩)
  · have hA2 := hA
    rw [show stampsOk zs = true from by unfold yAsk at hask; simp at hask; exact hask.1] at hA2
    have HA := Lib.hid hA2
    simp only [if_true]
    have HR0 := Lib.hid hr
    have HR := Lib.hid hr
    have hx0 := hm
    have hask2 := hask
    simp only [yAsk, Bool.and_eq_true, inB_true] at hask2
    obtain ⟨q0, q1, q2⟩ := hask2
    have q11 := stampsOk_len q0
    clear q0
    clear hA hA2 hr
    cases e2 : inB yr 1840 2100
    all_goals first | (exfalso; simp [yAsk, e2] at hask; done) | skip
    all_goals clear hask
    all_goals unfold maxLen at hm
    all_goals go_enter Tryd.func17, Tryd.ntmps17
    all_goals go_wp2_with fail
    all_goals refine (HA.out _ HR.out).mono ?_
    all_goals rintro e w1 ⟨rfl, hb⟩
    all_goals have HB1 := Lib.hid hb
    all_goals clear hb
    all_goals go_wp2_with (go_at_call 42; refine (inRange_any _ _ _ _).mono ?_; rintro e w' ⟨rfl, rfl⟩)
    all_goals
      go_loopw [6, 19] (fun v i wr => ∃ k : Nat, k ≤ zs.length ∧ i = .int .i64 k ∧ (∃ ad cp, v = .slice ad (idsToStamp (yTest yr) zs k).length cp) ∧ wr.ownsRow w.heap.size 3 1 v (idsToStamp (yTest yr) zs k).length (ints (idsToStamp (yTest yr) zs k)) ∧ Below w.heap.size w wr) (fun _ i _ => zs.length - (intOf i).toNat)
      case atStart => exact ⟨0, Nat.zero_le _, rfl, ⟨none, 0, rfl⟩, World.ownsRow_nil _ _ _ _, HB1.out⟩
      case round =>
        obtain ⟨k, hk, rfl, ⟨ad, cp, rfl⟩, hown, hbel⟩ := hrel
        have hlen := idsToStamp_le (yTest yr) zs k
        by_cases hlt : k < zs.length
        · rcases HR.out with h0 | ⟨b, bo, rfl, hb2, hc⟩
          · have := stamps_length zs; rw [h0] at this; simp at this; omega
          obtain ⟨g0, g1, g2, g3⟩ := stamps_get hlt
          have hc0 := (hbel.cell (p := ⟨b, _, none⟩) hb2).trans (hc _ _ g0)
          have hc1 := (hbel.cell (p := ⟨b, _, none⟩) hb2).trans (hc _ _ g1)
          have hc2 := (hbel.cell (p := ⟨b, _, none⟩) hb2).trans (hc _ _ g2)
          have hc3 := (hbel.cell (p := ⟨b, _, none⟩) hb2).trans (hc _ _ g3)
          simp only [← Nat.add_assoc] at hc1 hc2 hc3
          have HB := Lib.hid hbel
          have HO := Lib.hid hown
          have hcell : ∀ wx : World, Below wr.heap.size wr wx → (wx.cell? ⟨b, bo + k * 4, none⟩ = some (.int .i64 zs[k].id)) := fun wx hb => (hb.cell (p := ⟨b, _, none⟩) (Nat.lt_of_lt_of_le hb2 hbel.size)).trans hc0
          have HC := Lib.hid hcell
          have hall : ∀ wx : World, Below wr.heap.size wr wx → wx.cell? ⟨b, bo + k * 4, none⟩ = some (.int .i64 zs[k].id) ∧ wx.cell? ⟨b, bo + k * 4 + 1, none⟩ = some (.int .i64 zs[k].face) ∧ wx.cell? ⟨b, bo + k * 4 + 2, none⟩ = some (.int .i64 zs[k].color) ∧ wx.cell? ⟨b, bo + k * 4 + 3, none⟩ = some (.int .i64 zs[k].year) := fun wx hb => ⟨(hb.cell (p := ⟨b, _, none⟩) (Nat.lt_of_lt_of_le hb2 hbel.size)).trans hc0, (hb.cell (p := ⟨b, _, none⟩) (Nat.lt_of_lt_of_le hb2 hbel.size)).trans hc1, (hb.cell (p := ⟨b, _, none⟩) (Nat.lt_of_lt_of_le hb2 hbel.size)).trans hc2, (hb.cell (p := ⟨b, _, none⟩) (Nat.lt_of_lt_of_le hb2 hbel.size)).trans hc3⟩
          have HCA := Lib.hid hall
          clear hall
          clear hc g0 g1 g2 g3 hbel hown hcell
          cases hp : (yTest yr) zs[k]
          · have hst := Lib.hid (idsToStamp_no (p := yTest yr) hlt hp)
            try simp only at hp
            have HX := Lib.hid (Go.Joins.below_alloc1 wr (.cells #[.int .i64 zs[k].id, .int .i64 zs[k].face, .int .i64 zs[k].color, .int .i64 zs[k].year] 25))
            have hp2 : yr < zs[k].year := by unfold yTest at hp; simpa using hp
            clear hp
            go_wp2_with fail
            go_roundw
            case rel => exact ⟨k + 1, by omega, by go_num, ⟨_, _, by rw [hst.out]⟩, by rw [hst.out]; exact own_below HO.out HX.out, HB.out.trans (HX.out.mono HB.out.size)⟩
            case measure => simp [intOf]; omega
          · have hst := Lib.hid (idsToStamp_yes (p := yTest yr) hlt hp)
            try simp only at hp
            have HX := Lib.hid (Go.Joins.below_alloc1 wr (.cells #[.int .i64 zs[k].id, .int .i64 zs[k].face, .int .i64 zs[k].color, .int .i64 zs[k].year] 25))
            have hp2 : zs[k].year ≤ yr := by unfold yTest at hp; simpa using hp
            clear hp
            go_wp2_with (at_builtin; go_must (refine wpList_append_own _ rfl _ _ 39 rfl w.heap.size 3 i0 (.int .i64 0) 1 8 Tryd.underlying39 hi hz0 hz1 hz2 rfl (by decide) _ _ _ rfl ((own_below HO.out HX.out).alloc _) ⟨wr.heap.size + 1, 0, none⟩ 1 1 [.int .i64 zs[k].id] rfl rfl (World.news_of_block (cs := #[.int .i64 zs[k].id]) (t := 3) (fr := (0, 0)) (new_secondS wr _ _)) (by simp [Value.oneCell']) (by unfold maxLen; omega) (by omega) (Nat.le_trans (Nat.le_trans HB.out.size HX.out.size) (by simp)) ?_))
            intro v' w3 hown3 hgrow3 _
            obtain ⟨g3, c3, hv⟩ := Go.Joins.ownsRow_form hown3 (by omega)
            have hidl : (idsToStamp (yTest yr) zs (k + 1)).length = (idsToStamp (yTest yr) zs k).length + 1 := by rw [hst.out]; simp
            have hown4 : w3.ownsRow w.heap.size 3 1 (.slice (some ⟨g3, 0, none⟩) ((idsToStamp (yTest yr) zs k).length + 1) c3) (idsToStamp (yTest yr) zs (k + 1)).length (ints (idsToStamp (yTest yr) zs (k + 1))) := by
              rw [hidl, hst.out]; rw [hv] at hown3; simpa [ints] using hown3
            have HO4 := Lib.hid hown4
            have HL4 := Lib.hid hidl
            have hbel4 : Below w.heap.size w w3 := by
              refine ((HB.out.trans (HX.out.mono HB.out.size)).alloc (Nat.le_trans HB.out.size HX.out.size) _).grown hgrow3 ?_ ?_
              · exact Nat.le_trans (Nat.le_trans HB.out.size HX.out.size) (by simp)
              · intro q hq; exact (HO.out.lt q hq).1
            have HB4 := Lib.hid hbel4
            rw [hv]
            clear hown3 hgrow3 hown4 hidl hbel4 hv
            go_wp2_with fail
            go_roundw
            case rel => exact ⟨k + 1, by omega, by go_num, ⟨_, _, by rw [HL4.out]⟩, HO4.out, HB4.out⟩
            case measure => simp [intOf]; omega
        · have hk2 : k = zs.length := by omega
          have he := Lib.hid (idsToStamp_all (yTest yr) zs)
          rw [hk2] at hown ⊢
          rw [he.out] at hown ⊢
          clear hlen hk2
          go_wp2_with fail
          go_ret2
          exact ⟨_, _, rfl, hown, hbel⟩
end Go.Proofs.YtoomjionojfjgaaDoor
