/- MatchCombs, TurnedCombs: both sides collect the same ids. -/
import Derived.Test.YtocjkgcbpgmhiaaCombM
import Derived.Deep.AppendLies
namespace Go.Proofs.Ytocjkgcbpgmhiaa
open Go.RowKit

theorem askB_bd {m : Int} (h : askB m = true) : 0 ≤ m ∧ m ≤ 2000 := by
  simp only [askB, Bool.or_eq_true, inB_true, beq_iff_eq] at h
  omega
theorem combsOk_len {zs : List CombT} (h : combsOk zs = true) : zs.length ≤ 10 := by
  simp only [combsOk, Bool.and_eq_true, decide_eq_true_eq] at h; exact h.2
def idsToComb (p : CombT → Bool) (zs : List CombT) (k : Nat) : List Int := ((zs.take k).filter p).map (·.id)
def idsOfComb (p : CombT → Bool) (zs : List CombT) : List Int := (zs.filter p).map (·.id)
theorem idsToComb_all (p : CombT → Bool) (zs : List CombT) : idsToComb p zs zs.length = idsOfComb p zs := by simp [idsToComb, idsOfComb]
theorem idsToComb_le (p : CombT → Bool) (zs : List CombT) (k : Nat) : (idsToComb p zs k).length ≤ k := by
  simp only [idsToComb, List.length_map]
  exact Nat.le_trans (List.length_filter_le _ _) (by simp; omega)
theorem idsToComb_yes {p : CombT → Bool} {zs : List CombT} {k : Nat} (h : k < zs.length) (hp : p zs[k] = true) : idsToComb p zs (k + 1) = idsToComb p zs k ++ [zs[k].id] := by
  unfold idsToComb
  rw [List.take_succ_eq_append_getElem h, List.filter_append]
  simp [hp]
theorem idsToComb_no {p : CombT → Bool} {zs : List CombT} {k : Nat} (h : k < zs.length) (hp : p zs[k] = false) : idsToComb p zs (k + 1) = idsToComb p zs k := by
  unfold idsToComb
  rw [List.take_succ_eq_append_getElem h, List.filter_append]
  simp [hp]
set_option maxHeartbeats 2000000 in
theorem specMatch_any (a : Option Addr) (cap : Nat) (zs : List CombT) (wide : Int) (high : Int) (off : Int) (w : World) (hm : zs.length ≤ maxLen) (hr : Reads w a (combs zs)) :
    Calls Try.prog 30 #[.slice a zs.length cap, .int .i64 wide, .int .i64 high, .int .i64 off] w fun e w' => ∃ ad cp, e = .returned (.tuple #[.slice ad (if askedB zs wide high off = true then idsOfComb (fun c => matchB c wide high off) zs else []).length cp, .bool (askedB zs wide high off)]) ∧
      w'.ownsRow w.heap.size 3 1 (.slice ad (if askedB zs wide high off = true then idsOfComb (fun c => matchB c wide high off) zs else []).length cp) (if askedB zs wide high off = true then idsOfComb (fun c => matchB c wide high off) zs else []).length (ints (if askedB zs wide high off = true then idsOfComb (fun c => matchB c wide high off) zs else [])) ∧ Below w.heap.size w w' := by
  obtain ⟨i0, hi, hz0, hz1, hz2⟩ := info_parts info_int
  have hA := fun w hr => l5Asked_any a cap zs wide high off w hm hr
  cases hask : askedB zs wide high off
  · rw [hask] at hA
    have HA := Lib.hid hA
    simp only [Bool.false_eq_true, if_false]
    have hown0 := Lib.hid (RowIs.owns (RowIs.made' w 3 ([] : List Value)) (n := 0) (sz := 1) rfl (by unfold maxLen; omega) (Nat.le_refl _))
    have hb0 := Lib.hid (Go.Joins.below_alloc1 w (.cells ([] : List Value).toArray 3))
    clear hA hask
    unfold maxLen at hm
    go_enter Try.func30, Try.ntmps30
    go_wp2_with fail
    refine (HA.out _ (hr.below (Go.Joins.below_alloc1 w _))).mono ?_
    rintro e w1 ⟨rfl, hb⟩
    have HB := Lib.hid hb
    clear hb
    go_wp2_with fail
    go_ret2
    exact ⟨_, _, rfl, own_below hown0.out HB.out, hb0.out.trans (HB.out.mono hb0.out.size)⟩
  · rw [hask] at hA
    have HA := Lib.hid hA
    simp only [if_true]
    have hown0 := Lib.hid (RowIs.owns (RowIs.made' w 3 ([] : List Value)) (n := 0) (sz := 1) rfl (by unfold maxLen; omega) (Nat.le_refl _))
    have hb0 := Lib.hid (Go.Joins.below_alloc1 w (.cells ([] : List Value).toArray 3))
    have HR := Lib.hid hr
    have hask2 := hask
    simp only [askedB, Bool.and_eq_true, inB_true] at hask2
    obtain ⟨⟨⟨q0, q1⟩, q2⟩, q3, q4⟩ := hask2
    have q11 := combsOk_len q0
    have q5 := askB_bd q1
    have q6 := askB_bd q2
    obtain ⟨q7, q8⟩ := q5
    obtain ⟨q9, q10⟩ := q6
    clear q0 q1 q2
    clear hA hask hr
    unfold maxLen at hm
    go_enter Try.func30, Try.ntmps30
    go_wp2_with fail
    refine (HA.out _ (HR.out.below (Go.Joins.below_alloc1 w _))).mono ?_
    rintro e w1 ⟨rfl, hb⟩
    have HO1 := Lib.hid (own_below hown0.out hb)
    have HB1 := Lib.hid (hb0.out.trans (hb.mono hb0.out.size))
    clear hb
    go_wp2_with fail
    go_loopw [10, 11] (fun v i wr => ∃ k : Nat, k ≤ zs.length ∧ i = .int .i64 k ∧ (∃ ad cp, v = .slice ad (idsToComb (fun c => matchB c wide high off) zs k).length cp) ∧ wr.ownsRow w.heap.size 3 1 v (idsToComb (fun c => matchB c wide high off) zs k).length (ints (idsToComb (fun c => matchB c wide high off) zs k)) ∧ Below w.heap.size w wr) (fun _ i _ => zs.length - (intOf i).toNat)
    case atStart => exact ⟨0, Nat.zero_le _, rfl, ⟨_, _, rfl⟩, by simpa [idsToComb] using HO1.out, HB1.out⟩
    case round =>
      obtain ⟨k, hk, rfl, ⟨ad, cp, rfl⟩, hown, hbel⟩ := hrel
      have hlen := idsToComb_le (fun c => matchB c wide high off) zs k
      by_cases hlt : k < zs.length
      · rcases HR.out with h0 | ⟨b, bo, rfl, hb2, hc⟩
        · have := combs_length zs; rw [h0] at this; simp at this; omega
        obtain ⟨g0, g1, g2, g3⟩ := combs_get hlt
        have hc0 := (hbel.cell (p := ⟨b, _, none⟩) hb2).trans (hc _ _ g0)
        have hc1 := (hbel.cell (p := ⟨b, _, none⟩) hb2).trans (hc _ _ g1)
        have hc2 := (hbel.cell (p := ⟨b, _, none⟩) hb2).trans (hc _ _ g2)
        have hc3 := (hbel.cell (p := ⟨b, _, none⟩) hb2).trans (hc _ _ g3)
        simp only [← Nat.add_assoc] at hc1 hc2 hc3
        have HB := Lib.hid hbel
        have HO := Lib.hid hown
        have hcell : ∀ wx : World, Below wr.heap.size wr wx → (wx.cell? ⟨b, bo + k * 4, none⟩ = some (.int .i64 zs[k].id)) := fun wx hb => (hb.cell (p := ⟨b, _, none⟩) (Nat.lt_of_lt_of_le hb2 hbel.size)).trans hc0
        have HC := Lib.hid hcell
        have hall : ∀ wx : World, Below wr.heap.size wr wx → wx.cell? ⟨b, bo + k * 4, none⟩ = some (.int .i64 zs[k].id) ∧ wx.cell? ⟨b, bo + k * 4 + 1, none⟩ = some (.int .i64 zs[k].wide) ∧ wx.cell? ⟨b, bo + k * 4 + 2, none⟩ = some (.int .i64 zs[k].high) ∧ wx.cell? ⟨b, bo + k * 4 + 3, none⟩ = some (.bool zs[k].line) := fun wx hb => ⟨(hb.cell (p := ⟨b, _, none⟩) (Nat.lt_of_lt_of_le hb2 hbel.size)).trans hc0, (hb.cell (p := ⟨b, _, none⟩) (Nat.lt_of_lt_of_le hb2 hbel.size)).trans hc1, (hb.cell (p := ⟨b, _, none⟩) (Nat.lt_of_lt_of_le hb2 hbel.size)).trans hc2, (hb.cell (p := ⟨b, _, none⟩) (Nat.lt_of_lt_of_le hb2 hbel.size)).trans hc3⟩
        have HCA := Lib.hid hall
        clear hall
        clear hc g0 g1 g2 g3 hbel hown hcell
        cases hp : (fun c => matchB c wide high off) zs[k]
        · have hst := Lib.hid (idsToComb_no (p := fun c => matchB c wide high off) hlt hp)
          simp only at hp
          go_wp2_with (first | (go_at_call 62; refine (l5Match_any _ _ _ _ _ (by assumption) (by assumption) (by assumption) (by assumption) (by assumption) (by assumption)).mono ?_; rintro e w2 ⟨rfl, hb⟩; have HX := Lib.hid hb; have hcx := HC.out _ hb; clear hb))
          go_roundw
          case rel => exact ⟨k + 1, by omega, by go_num, ⟨_, _, by rw [hst.out]⟩, by rw [hst.out]; exact own_below HO.out HX.out, HB.out.trans (HX.out.mono HB.out.size)⟩
          case measure => simp [intOf]; omega
        · have hst := Lib.hid (idsToComb_yes (p := fun c => matchB c wide high off) hlt hp)
          simp only at hp
          go_wp2_with (first | (go_at_call 62; refine (l5Match_any _ _ _ _ _ (by assumption) (by assumption) (by assumption) (by assumption) (by assumption) (by assumption)).mono ?_; rintro e w2 ⟨rfl, hb⟩; have HX := Lib.hid hb; have hcx := HC.out _ hb; clear hb) | (at_builtin; refine wpList_append_own _ rfl _ _ 25 rfl w.heap.size 3 i0 (.int .i64 0) 1 8 Try.underlying25 hi hz0 hz1 hz2 rfl (by decide) _ _ _ rfl ((own_below HO.out HX.out).alloc _) ⟨w2.heap.size, 0, none⟩ 1 1 [.int .i64 zs[k].id] rfl rfl (World.news_of_block (cs := #[.int .i64 zs[k].id]) (t := 3) (fr := (0, 0)) (heap_alloc_new _ _)) (by simp [Value.oneCell']) (by unfold maxLen; omega) (by omega) (Nat.le_trans (Nat.le_trans HB.out.size HX.out.size) (by simp)) ?_))
          intro v' w3 hown3 hgrow3 _
          obtain ⟨g3, c3, hv⟩ := Go.Joins.ownsRow_form hown3 (by omega)
          have hidl : (idsToComb (fun c => matchB c wide high off) zs (k + 1)).length = (idsToComb (fun c => matchB c wide high off) zs k).length + 1 := by rw [hst.out]; simp
          have hown4 : w3.ownsRow w.heap.size 3 1 (.slice (some ⟨g3, 0, none⟩) ((idsToComb (fun c => matchB c wide high off) zs k).length + 1) c3) (idsToComb (fun c => matchB c wide high off) zs (k + 1)).length (ints (idsToComb (fun c => matchB c wide high off) zs (k + 1))) := by
            rw [hidl, hst.out]; rw [hv] at hown3; simpa [ints] using hown3
          have HO4 := Lib.hid hown4
          have HL4 := Lib.hid hidl
          have hbel4 : Below w.heap.size w w3 := by
            refine ((HB.out.trans (HX.out.mono HB.out.size)).alloc (Nat.le_trans HB.out.size HX.out.size) _).grown hgrow3 ?_ ?_
            · exact Nat.le_trans (Nat.le_trans HB.out.size HX.out.size) (by simp)
            · intro q hq; exact (HO.out.lt q hq).1
          have HB4 := Lib.hid hbel4
          rw [hv]
          clear hown3 hgrow3 hown4 hidl hbel4 hv
          go_wp2_with fail
          go_roundw
          case rel => exact ⟨k + 1, by omega, by go_num, ⟨_, _, by rw [HL4.out]⟩, HO4.out, HB4.out⟩
          case measure => simp [intOf]; omega
      · have hk2 : k = zs.length := by omega
        have he := Lib.hid (idsToComb_all (fun c => matchB c wide high off) zs)
        rw [hk2] at hown ⊢
        rw [he.out] at hown ⊢
        clear hlen hk2
        go_wp2_with fail
        go_ret2
        exact ⟨_, _, rfl, hown, hbel⟩
set_option maxHeartbeats 2000000 in
theorem implMatch_any (a : Option Addr) (cap : Nat) (zs : List CombT) (wide : Int) (high : Int) (off : Int) (w : World) (hm : zs.length ≤ maxLen) (hr : Reads w a (combs zs)) :
    Calls Try.prog 31 #[.slice a zs.length cap, .int .i64 wide, .int .i64 high, .int .i64 off] w fun e w' => ∃ ad cp, e = .returned (.tuple #[.slice ad (if askedB zs wide high off = true then idsOfComb (fun c => matchB c wide high off) zs else []).length cp, .bool (askedB zs wide high off)]) ∧
      w'.ownsRow w.heap.size 3 1 (.slice ad (if askedB zs wide high off = true then idsOfComb (fun c => matchB c wide high off) zs else []).length cp) (if askedB zs wide high off = true then idsOfComb (fun c => matchB c wide high off) zs else []).length (ints (if askedB zs wide high off = true then idsOfComb (fun c => matchB c wide high off) zs else [])) ∧ Below w.heap.size w w' := by
  obtain ⟨i0, hi, hz0, hz1, hz2⟩ := info_parts info_int
  have hA := fun w hr => measured_any a cap zs wide high off w hm hr
  cases hask : askedB zs wide high off
  · rw [hask] at hA
    have HA := Lib.hid hA
    simp only [Bool.false_eq_true, if_false]
    clear hA hask
    unfold maxLen at hm
    go_enter Try.func31, Try.ntmps31
    go_wp2_with fail
    refine (HA.out _ hr).mono ?_
    rintro e w1 ⟨rfl, hb⟩
    have HB := Lib.hid hb
    clear hb
    go_wp2_with fail
    go_ret2
    exact ⟨none, 0, rfl, World.ownsRow_nil _ _ _ _, HB.out⟩
  · rw [hask] at hA
    have HA := Lib.hid hA
    simp only [if_true]
    have HR := Lib.hid hr
    have hask2 := hask
    simp only [askedB, Bool.and_eq_true, inB_true] at hask2
    obtain ⟨⟨⟨q0, q1⟩, q2⟩, q3, q4⟩ := hask2
    have q11 := combsOk_len q0
    have q5 := askB_bd q1
    have q6 := askB_bd q2
    obtain ⟨q7, q8⟩ := q5
    obtain ⟨q9, q10⟩ := q6
    clear q0 q1 q2
    clear hA hask hr
    unfold maxLen at hm
    go_enter Try.func31, Try.ntmps31
    go_wp2_with fail
    refine (HA.out _ HR.out).mono ?_
    rintro e w1 ⟨rfl, hb⟩
    have HB1 := Lib.hid hb
    clear hb
    go_wp2_with fail
    go_loopw [10, 21] (fun v i wr => ∃ k : Nat, k ≤ zs.length ∧ i = .int .i64 k ∧ (∃ ad cp, v = .slice ad (idsToComb (fun c => matchB c wide high off) zs k).length cp) ∧ wr.ownsRow w.heap.size 3 1 v (idsToComb (fun c => matchB c wide high off) zs k).length (ints (idsToComb (fun c => matchB c wide high off) zs k)) ∧ Below w.heap.size w wr) (fun _ i _ => zs.length - (intOf i).toNat)
    case atStart => exact ⟨0, Nat.zero_le _, rfl, ⟨none, 0, rfl⟩, World.ownsRow_nil _ _ _ _, HB1.out⟩
    case round =>
      obtain ⟨k, hk, rfl, ⟨ad, cp, rfl⟩, hown, hbel⟩ := hrel
      have hlen := idsToComb_le (fun c => matchB c wide high off) zs k
      by_cases hlt : k < zs.length
      · rcases HR.out with h0 | ⟨b, bo, rfl, hb2, hc⟩
        · have := combs_length zs; rw [h0] at this; simp at this; omega
        obtain ⟨g0, g1, g2, g3⟩ := combs_get hlt
        have hc0 := (hbel.cell (p := ⟨b, _, none⟩) hb2).trans (hc _ _ g0)
        have hc1 := (hbel.cell (p := ⟨b, _, none⟩) hb2).trans (hc _ _ g1)
        have hc2 := (hbel.cell (p := ⟨b, _, none⟩) hb2).trans (hc _ _ g2)
        have hc3 := (hbel.cell (p := ⟨b, _, none⟩) hb2).trans (hc _ _ g3)
        simp only [← Nat.add_assoc] at hc1 hc2 hc3
        have HB := Lib.hid hbel
        have HO := Lib.hid hown
        have hcell : ∀ wx : World, Below wr.heap.size wr wx → (wx.cell? ⟨b, bo + k * 4, none⟩ = some (.int .i64 zs[k].id)) := fun wx hb => (hb.cell (p := ⟨b, _, none⟩) (Nat.lt_of_lt_of_le hb2 hbel.size)).trans hc0
        have HC := Lib.hid hcell
        have hall : ∀ wx : World, Below wr.heap.size wr wx → wx.cell? ⟨b, bo + k * 4, none⟩ = some (.int .i64 zs[k].id) ∧ wx.cell? ⟨b, bo + k * 4 + 1, none⟩ = some (.int .i64 zs[k].wide) ∧ wx.cell? ⟨b, bo + k * 4 + 2, none⟩ = some (.int .i64 zs[k].high) ∧ wx.cell? ⟨b, bo + k * 4 + 3, none⟩ = some (.bool zs[k].line) := fun wx hb => ⟨(hb.cell (p := ⟨b, _, none⟩) (Nat.lt_of_lt_of_le hb2 hbel.size)).trans hc0, (hb.cell (p := ⟨b, _, none⟩) (Nat.lt_of_lt_of_le hb2 hbel.size)).trans hc1, (hb.cell (p := ⟨b, _, none⟩) (Nat.lt_of_lt_of_le hb2 hbel.size)).trans hc2, (hb.cell (p := ⟨b, _, none⟩) (Nat.lt_of_lt_of_le hb2 hbel.size)).trans hc3⟩
        have HCA := Lib.hid hall
        clear hall
        clear hc g0 g1 g2 g3 hbel hown hcell
        cases hp : (fun c => matchB c wide high off) zs[k]
        · have hst := Lib.hid (idsToComb_no (p := fun c => matchB c wide high off) hlt hp)
          simp only at hp
          have hbx : ∀ w2 : World, Below (wr.alloc (.cells #[.int .i64 zs[k].id, .int .i64 zs[k].wide, .int .i64 zs[k].high, .bool zs[k].line] 66)).heap.size (wr.alloc (.cells #[.int .i64 zs[k].id, .int .i64 zs[k].wide, .int .i64 zs[k].high, .bool zs[k].line] 66)) w2 → Below wr.heap.size wr w2 ∧ w2.cell? ⟨wr.heap.size, 0, none⟩ = some (.int .i64 zs[k].id) ∧ w2.cell? ⟨wr.heap.size, 1, none⟩ = some (.int .i64 zs[k].wide) ∧ w2.cell? ⟨wr.heap.size, 2, none⟩ = some (.int .i64 zs[k].high) ∧ w2.cell? ⟨wr.heap.size, 3, none⟩ = some (.bool zs[k].line) := fun w2 hb => ⟨(Go.Joins.below_alloc1 wr _).trans (hb.mono (by simp)), (hb.cell (p := ⟨wr.heap.size, 0, none⟩) (by simp)).trans ((Go.Joins.cell_of_block (heap_alloc_new wr _) 0).trans rfl), (hb.cell (p := ⟨wr.heap.size, 1, none⟩) (by simp)).trans ((Go.Joins.cell_of_block (heap_alloc_new wr _) 1).trans rfl), (hb.cell (p := ⟨wr.heap.size, 2, none⟩) (by simp)).trans ((Go.Joins.cell_of_block (heap_alloc_new wr _) 2).trans rfl), (hb.cell (p := ⟨wr.heap.size, 3, none⟩) (by simp)).trans ((Go.Joins.cell_of_block (heap_alloc_new wr _) 3).trans rfl)⟩
          have HBX := Lib.hid hbx
          clear hbx
          go_wp2_with (first | (go_at_call 64; refine (matches_any _ _ _ _ _ (by assumption) (by assumption) (by assumption) (by assumption) (by assumption) (by assumption)).mono ?_; rintro e w2 ⟨rfl, hb⟩; have HX := Lib.hid (HBX.out _ hb).1; have hcx := (HBX.out _ hb).2.1; clear hb))
          go_roundw
          case rel => exact ⟨k + 1, by omega, by go_num, ⟨_, _, by rw [hst.out]⟩, by rw [hst.out]; exact own_below HO.out HX.out, HB.out.trans (HX.out.mono HB.out.size)⟩
          case measure => simp [intOf]; omega
        · have hst := Lib.hid (idsToComb_yes (p := fun c => matchB c wide high off) hlt hp)
          simp only at hp
          have hbx : ∀ w2 : World, Below (wr.alloc (.cells #[.int .i64 zs[k].id, .int .i64 zs[k].wide, .int .i64 zs[k].high, .bool zs[k].line] 66)).heap.size (wr.alloc (.cells #[.int .i64 zs[k].id, .int .i64 zs[k].wide, .int .i64 zs[k].high, .bool zs[k].line] 66)) w2 → Below wr.heap.size wr w2 ∧ w2.cell? ⟨wr.heap.size, 0, none⟩ = some (.int .i64 zs[k].id) ∧ w2.cell? ⟨wr.heap.size, 1, none⟩ = some (.int .i64 zs[k].wide) ∧ w2.cell? ⟨wr.heap.size, 2, none⟩ = some (.int .i64 zs[k].high) ∧ w2.cell? ⟨wr.heap.size, 3, none⟩ = some (.bool zs[k].line) := fun w2 hb => ⟨(Go.Joins.below_alloc1 wr _).trans (hb.mono (by simp)), (hb.cell (p := ⟨wr.heap.size, 0, none⟩) (by simp)).trans ((Go.Joins.cell_of_block (heap_alloc_new wr _) 0).trans rfl), (hb.cell (p := ⟨wr.heap.size, 1, none⟩) (by simp)).trans ((Go.Joins.cell_of_block (heap_alloc_new wr _) 1).trans rfl), (hb.cell (p := ⟨wr.heap.size, 2, none⟩) (by simp)).trans ((Go.Joins.cell_of_block (heap_alloc_new wr _) 2).trans rfl), (hb.cell (p := ⟨wr.heap.size, 3, none⟩) (by simp)).trans ((Go.Joins.cell_of_block (heap_alloc_new wr _) 3).trans rfl)⟩
          have HBX := Lib.hid hbx
          clear hbx
          go_wp2_with (first | (go_at_call 64; refine (matches_any _ _ _ _ _ (by assumption) (by assumption) (by assumption) (by assumption) (by assumption) (by assumption)).mono ?_; rintro e w2 ⟨rfl, hb⟩; have HX := Lib.hid (HBX.out _ hb).1; have hcx := (HBX.out _ hb).2.1; clear hb) | (at_builtin; refine wpList_append_own _ rfl _ _ 25 rfl w.heap.size 3 i0 (.int .i64 0) 1 8 Try.underlying25 hi hz0 hz1 hz2 rfl (by decide) _ _ _ rfl ((own_below HO.out HX.out).alloc _) ⟨w2.heap.size, 0, none⟩ 1 1 [.int .i64 zs[k].id] rfl rfl (World.news_of_block (cs := #[.int .i64 zs[k].id]) (t := 3) (fr := (0, 0)) (heap_alloc_new _ _)) (by simp [Value.oneCell']) (by unfold maxLen; omega) (by omega) (Nat.le_trans (Nat.le_trans HB.out.size HX.out.size) (by simp)) ?_))
          intro v' w3 hown3 hgrow3 _
          obtain ⟨g3, c3, hv⟩ := Go.Joins.ownsRow_form hown3 (by omega)
          have hidl : (idsToComb (fun c => matchB c wide high off) zs (k + 1)).length = (idsToComb (fun c => matchB c wide high off) zs k).length + 1 := by rw [hst.out]; simp
          have hown4 : w3.ownsRow w.heap.size 3 1 (.slice (some ⟨g3, 0, none⟩) ((idsToComb (fun c => matchB c wide high off) zs k).length + 1) c3) (idsToComb (fun c => matchB c wide high off) zs (k + 1)).length (ints (idsToComb (fun c => matchB c wide high off) zs (k + 1))) := by
            rw [hidl, hst.out]; rw [hv] at hown3; simpa [ints] using hown3
          have HO4 := Lib.hid hown4
          have HL4 := Lib.hid hidl
          have hbel4 : Below w.heap.size w w3 := by
            refine ((HB.out.trans (HX.out.mono HB.out.size)).alloc (Nat.le_trans HB.out.size HX.out.size) _).grown hgrow3 ?_ ?_
            · exact Nat.le_trans (Nat.le_trans HB.out.size HX.out.size) (by simp)
            · intro q hq; exact (HO.out.lt q hq).1
          have HB4 := Lib.hid hbel4
          rw [hv]
          clear hown3 hgrow3 hown4 hidl hbel4 hv
          go_wp2_with fail
          go_roundw
          case rel => exact ⟨k + 1, by omega, by go_num, ⟨_, _, by rw [HL4.out]⟩, HO4.out, HB4.out⟩
          case measure => simp [intOf]; omega
      · have hk2 : k = zs.length := by omega
        have he := Lib.hid (idsToComb_all (fun c => matchB c wide high off) zs)
        rw [hk2] at hown ⊢
        rw [he.out] at hown ⊢
        clear hlen hk2
        go_wp2_with fail
        go_ret2
        exact ⟨_, _, rfl, hown, hbel⟩
set_option maxHeartbeats 2000000 in
theorem specTurned_any (a : Option Addr) (cap : Nat) (zs : List CombT) (wide : Int) (high : Int) (off : Int) (w : World) (hm : zs.length ≤ maxLen) (hr : Reads w a (combs zs)) :
    Calls Try.prog 35 #[.slice a zs.length cap, .int .i64 wide, .int .i64 high, .int .i64 off] w fun e w' => ∃ ad cp, e = .returned (.tuple #[.slice ad (if askedB zs wide high off = true then idsOfComb (fun c => !matchB c wide high off && matchB c high wide off) zs else []).length cp, .bool (askedB zs wide high off)]) ∧
      w'.ownsRow w.heap.size 3 1 (.slice ad (if askedB zs wide high off = true then idsOfComb (fun c => !matchB c wide high off && matchB c high wide off) zs else []).length cp) (if askedB zs wide high off = true then idsOfComb (fun c => !matchB c wide high off && matchB c high wide off) zs else []).length (ints (if askedB zs wide high off = true then idsOfComb (fun c => !matchB c wide high off && matchB c high wide off) zs else [])) ∧ Below w.heap.size w w' := by
  obtain ⟨i0, hi, hz0, hz1, hz2⟩ := info_parts info_int
  have hA := fun w hr => l5Asked_any a cap zs wide high off w hm hr
  cases hask : askedB zs wide high off
  · rw [hask] at hA
    have HA := Lib.hid hA
    simp only [Bool.false_eq_true, if_false]
    have hown0 := Lib.hid (RowIs.owns (RowIs.made' w 3 ([] : List Value)) (n := 0) (sz := 1) rfl (by unfold maxLen; omega) (Nat.le_refl _))
    have hb0 := Lib.hid (Go.Joins.below_alloc1 w (.cells ([] : List Value).toArray 3))
    clear hA hask
    unfold maxLen at hm
    go_enter Try.func35, Try.ntmps35
    go_wp2_with fail
    refine (HA.out _ (hr.below (Go.Joins.below_alloc1 w _))).mono ?_
    rintro e w1 ⟨rfl, hb⟩
    have HB := Lib.hid hb
    clear hb
    go_wp2_with fail
    go_ret2
    exact ⟨_, _, rfl, own_below hown0.out HB.out, hb0.out.trans (HB.out.mono hb0.out.size)⟩
  · rw [hask] at hA
    have HA := Lib.hid hA
    simp only [if_true]
    have hown0 := Lib.hid (RowIs.owns (RowIs.made' w 3 ([] : List Value)) (n := 0) (sz := 1) rfl (by unfold maxLen; omega) (Nat.le_refl _))
    have hb0 := Lib.hid (Go.Joins.below_alloc1 w (.cells ([] : List Value).toArray 3))
    have HR := Lib.hid hr
    have hask2 := hask
    simp only [askedB, Bool.and_eq_true, inB_true] at hask2
    obtain ⟨⟨⟨q0, q1⟩, q2⟩, q3, q4⟩ := hask2
    have q11 := combsOk_len q0
    have q5 := askB_bd q1
    have q6 := askB_bd q2
    obtain ⟨q7, q8⟩ := q5
    obtain ⟨q9, q10⟩ := q6
    clear q0 q1 q2
    clear hA hask hr
    unfold maxLen at hm
    go_enter Try.func35, Try.ntmps35
    go_wp2_with fail
    refine (HA.out _ (HR.out.below (Go.Joins.below_alloc1 w _))).mono ?_
    rintro e w1 ⟨rfl, hb⟩
    have HO1 := Lib.hid (own_below hown0.out hb)
    have HB1 := Lib.hid (hb0.out.trans (hb.mono hb0.out.size))
    clear hb
    go_wp2_with fail
    go_loopw [10, 11] (fun v i wr => ∃ k : Nat, k ≤ zs.length ∧ i = .int .i64 k ∧ (∃ ad cp, v = .slice ad (idsToComb (fun c => !matchB c wide high off && matchB c high wide off) zs k).length cp) ∧ wr.ownsRow w.heap.size 3 1 v (idsToComb (fun c => !matchB c wide high off && matchB c high wide off) zs k).length (ints (idsToComb (fun c => !matchB c wide high off && matchB c high wide off) zs k)) ∧ Below w.heap.size w wr) (fun _ i _ => zs.length - (intOf i).toNat)
    case atStart => exact ⟨0, Nat.zero_le _, rfl, ⟨_, _, rfl⟩, by simpa [idsToComb] using HO1.out, HB1.out⟩
    case round =>
      obtain ⟨k, hk, rfl, ⟨ad, cp, rfl⟩, hown, hbel⟩ := hrel
      have hlen := idsToComb_le (fun c => !matchB c wide high off && matchB c high wide off) zs k
      by_cases hlt : k < zs.length
      · rcases HR.out with h0 | ⟨b, bo, rfl, hb2, hc⟩
        · have := combs_length zs; rw [h0] at this; simp at this; omega
        obtain ⟨g0, g1, g2, g3⟩ := combs_get hlt
        have hc0 := (hbel.cell (p := ⟨b, _, none⟩) hb2).trans (hc _ _ g0)
        have hc1 := (hbel.cell (p := ⟨b, _, none⟩) hb2).trans (hc _ _ g1)
        have hc2 := (hbel.cell (p := ⟨b, _, none⟩) hb2).trans (hc _ _ g2)
        have hc3 := (hbel.cell (p := ⟨b, _, none⟩) hb2).trans (hc _ _ g3)
        simp only [← Nat.add_assoc] at hc1 hc2 hc3
        have HB := Lib.hid hbel
        have HO := Lib.hid hown
        have hcell : ∀ wx : World, Below wr.heap.size wr wx → (wx.cell? ⟨b, bo + k * 4, none⟩ = some (.int .i64 zs[k].id)) := fun wx hb => (hb.cell (p := ⟨b, _, none⟩) (Nat.lt_of_lt_of_le hb2 hbel.size)).trans hc0
        have HC := Lib.hid hcell
        have hall : ∀ wx : World, Below wr.heap.size wr wx → wx.cell? ⟨b, bo + k * 4, none⟩ = some (.int .i64 zs[k].id) ∧ wx.cell? ⟨b, bo + k * 4 + 1, none⟩ = some (.int .i64 zs[k].wide) ∧ wx.cell? ⟨b, bo + k * 4 + 2, none⟩ = some (.int .i64 zs[k].high) ∧ wx.cell? ⟨b, bo + k * 4 + 3, none⟩ = some (.bool zs[k].line) := fun wx hb => ⟨(hb.cell (p := ⟨b, _, none⟩) (Nat.lt_of_lt_of_le hb2 hbel.size)).trans hc0, (hb.cell (p := ⟨b, _, none⟩) (Nat.lt_of_lt_of_le hb2 hbel.size)).trans hc1, (hb.cell (p := ⟨b, _, none⟩) (Nat.lt_of_lt_of_le hb2 hbel.size)).trans hc2, (hb.cell (p := ⟨b, _, none⟩) (Nat.lt_of_lt_of_le hb2 hbel.size)).trans hc3⟩
        have HCA := Lib.hid hall
        clear hall
        clear hc g0 g1 g2 g3 hbel hown hcell
        cases hp : (fun c => !matchB c wide high off && matchB c high wide off) zs[k]
        · have hst := Lib.hid (idsToComb_no (p := fun c => !matchB c wide high off && matchB c high wide off) hlt hp)
          simp only at hp
          have hy : ∀ w2 : World, Below wr.heap.size wr w2 → Below wr.heap.size wr w2 := fun _ h => h
          have HY := Lib.hid hy
          clear hy
          cases hq : matchB zs[k] wide high off
          · have hq2 : matchB zs[k] high wide off = false := by simpa [hq] using hp
            clear hp
            go_wp2_with fail
            refine (l5Match_any _ _ _ _ _ (by assumption) (by assumption) (by assumption) (by assumption) (by assumption) (by assumption)).mono ?_
            rintro e w9 ⟨rfl, hb9⟩
            obtain ⟨k0, k1, k2, k3⟩ := HCA.out _ hb9
            have H9 := Lib.hid hb9
            clear hb9
            go_wp2_with fail
            refine (l5Match_any _ _ _ _ _ (by assumption) (by assumption) (by assumption) (by assumption) (by assumption) (by assumption)).mono ?_
            rintro e w2 ⟨rfl, hb⟩
            have HX := Lib.hid (H9.out.trans (hb.mono H9.out.size))
            have hcx := HC.out _ HX.out
            clear hb
            go_wp2_with fail
            go_roundw
            case rel => exact ⟨k + 1, by omega, by go_num, ⟨_, _, by rw [hst.out]⟩, by rw [hst.out]; exact own_below HO.out HX.out, HB.out.trans (HX.out.mono HB.out.size)⟩
            case measure => simp [intOf]; omega
          · clear hp
            go_wp2_with (go_at_call 62; refine (l5Match_any _ _ _ _ _ (by assumption) (by assumption) (by assumption) (by assumption) (by assumption) (by assumption)).mono ?_; rintro e w2 ⟨rfl, hb⟩; have HX := Lib.hid (HY.out _ hb); clear hb)
            go_roundw
            case rel => exact ⟨k + 1, by omega, by go_num, ⟨_, _, by rw [hst.out]⟩, by rw [hst.out]; exact own_below HO.out HX.out, HB.out.trans (HX.out.mono HB.out.size)⟩
            case measure => simp [intOf]; omega
        · have hst := Lib.hid (idsToComb_yes (p := fun c => !matchB c wide high off && matchB c high wide off) hlt hp)
          simp only at hp
          have hy : ∀ w2 : World, Below wr.heap.size wr w2 → Below wr.heap.size wr w2 := fun _ h => h
          have HY := Lib.hid hy
          clear hy
          simp only [Bool.and_eq_true, Bool.not_eq_true'] at hp
          obtain ⟨hp1, hp2⟩ := hp
          go_wp2_with fail
          refine (l5Match_any _ _ _ _ _ (by assumption) (by assumption) (by assumption) (by assumption) (by assumption) (by assumption)).mono ?_
          rintro e w9 ⟨rfl, hb9⟩
          obtain ⟨k0, k1, k2, k3⟩ := HCA.out _ hb9
          have H9 := Lib.hid hb9
          clear hb9
          go_wp2_with fail
          refine (l5Match_any _ _ _ _ _ (by assumption) (by assumption) (by assumption) (by assumption) (by assumption) (by assumption)).mono ?_
          rintro e w2 ⟨rfl, hb⟩
          have HX := Lib.hid (H9.out.trans (hb.mono H9.out.size))
          have hcx := HC.out _ HX.out
          clear hb
          go_wp2_with (at_builtin; refine wpList_append_own _ rfl _ _ 25 rfl w.heap.size 3 i0 (.int .i64 0) 1 8 Try.underlying25 hi hz0 hz1 hz2 rfl (by decide) _ _ _ rfl ((own_below HO.out HX.out).alloc _) ⟨w2.heap.size, 0, none⟩ 1 1 [.int .i64 zs[k].id] rfl rfl (World.news_of_block (cs := #[.int .i64 zs[k].id]) (t := 3) (fr := (0, 0)) (heap_alloc_new _ _)) (by simp [Value.oneCell']) (by unfold maxLen; omega) (by omega) (Nat.le_trans (Nat.le_trans HB.out.size HX.out.size) (by simp)) ?_)
          intro v' w3 hown3 hgrow3 _
          obtain ⟨g3, c3, hv⟩ := Go.Joins.ownsRow_form hown3 (by omega)
          have hidl : (idsToComb (fun c => !matchB c wide high off && matchB c high wide off) zs (k + 1)).length = (idsToComb (fun c => !matchB c wide high off && matchB c high wide off) zs k).length + 1 := by rw [hst.out]; simp
          have hown4 : w3.ownsRow w.heap.size 3 1 (.slice (some ⟨g3, 0, none⟩) ((idsToComb (fun c => !matchB c wide high off && matchB c high wide off) zs k).length + 1) c3) (idsToComb (fun c => !matchB c wide high off && matchB c high wide off) zs (k + 1)).length (ints (idsToComb (fun c => !matchB c wide high off && matchB c high wide off) zs (k + 1))) := by
            rw [hidl, hst.out]; rw [hv] at hown3; simpa [ints] using hown3
          have HO4 := Lib.hid hown4
          have HL4 := Lib.hid hidl
          have hbel4 : Below w.heap.size w w3 := by
            refine ((HB.out.trans (HX.out.mono HB.out.size)).alloc (Nat.le_trans HB.out.size HX.out.size) _).grown hgrow3 ?_ ?_
            · exact Nat.le_trans (Nat.le_trans HB.out.size HX.out.size) (by simp)
            · intro q hq; exact (HO.out.lt q hq).1
          have HB4 := Lib.hid hbel4
          rw [hv]
          clear hown3 hgrow3 hown4 hidl hbel4 hv
          go_wp2_with fail
          go_roundw
          case rel => exact ⟨k + 1, by omega, by go_num, ⟨_, _, by rw [HL4.out]⟩, HO4.out, HB4.out⟩
          case measure => simp [intOf]; omega
      · have hk2 : k = zs.length := by omega
        have he := Lib.hid (idsToComb_all (fun c => !matchB c wide high off && matchB c high wide off) zs)
        rw [hk2] at hown ⊢
        rw [he.out] at hown ⊢
        clear hlen hk2
        go_wp2_with fail
        go_ret2
        exact ⟨_, _, rfl, hown, hbel⟩
set_option maxHeartbeats 2000000 in
theorem implTurned_any (a : Option Addr) (cap : Nat) (zs : List CombT) (wide : Int) (high : Int) (off : Int) (w : World) (hm : zs.length ≤ maxLen) (hr : Reads w a (combs zs)) :
    Calls Try.prog 36 #[.slice a zs.length cap, .int .i64 wide, .int .i64 high, .int .i64 off] w fun e w' => ∃ ad cp, e = .returned (.tuple #[.slice ad (if askedB zs wide high off = true then idsOfComb (fun c => !matchB c wide high off && matchB c high wide off) zs else []).length cp, .bool (askedB zs wide high off)]) ∧
      w'.ownsRow w.heap.size 3 1 (.slice ad (if askedB zs wide high off = true then idsOfComb (fun c => !matchB c wide high off && matchB c high wide off) zs else []).length cp) (if askedB zs wide high off = true then idsOfComb (fun c => !matchB c wide high off && matchB c high wide off) zs else []).length (ints (if askedB zs wide high off = true then idsOfComb (fun c => !matchB c wide high off && matchB c high wide off) zs else [])) ∧ Below w.heap.size w w' := by
  obtain ⟨i0, hi, hz0, hz1, hz2⟩ := info_parts info_int
  have hA := fun w hr => measured_any a cap zs wide high off w hm hr
  cases hask : askedB zs wide high off
  · rw [hask] at hA
    have HA := Lib.hid hA
    simp only [Bool.false_eq_true, if_false]
    clear hA hask
    unfold maxLen at hm
    go_enter Try.func36, Try.ntmps36
    go_wp2_with fail
    refine (HA.out _ hr).mono ?_
    rintro e w1 ⟨rfl, hb⟩
    have HB := Lib.hid hb
    clear hb
    go_wp2_with fail
    go_ret2
    exact ⟨none, 0, rfl, World.ownsRow_nil _ _ _ _, HB.out⟩
  · rw [hask] at hA
    have HA := Lib.hid hA
    simp only [if_true]
    have HR := Lib.hid hr
    have hask2 := hask
    simp only [askedB, Bool.and_eq_true, inB_true] at hask2
    obtain ⟨⟨⟨q0, q1⟩, q2⟩, q3, q4⟩ := hask2
    have q11 := combsOk_len q0
    have q5 := askB_bd q1
    have q6 := askB_bd q2
    obtain ⟨q7, q8⟩ := q5
    obtain ⟨q9, q10⟩ := q6
    clear q0 q1 q2
    clear hA hask hr
    unfold maxLen at hm
    go_enter Try.func36, Try.ntmps36
    go_wp2_with fail
    refine (HA.out _ HR.out).mono ?_
    rintro e w1 ⟨rfl, hb⟩
    have HB1 := Lib.hid hb
    clear hb
    go_wp2_with fail
    go_loopw [10, 21] (fun v i wr => ∃ k : Nat, k ≤ zs.length ∧ i = .int .i64 k ∧ (∃ ad cp, v = .slice ad (idsToComb (fun c => !matchB c wide high off && matchB c high wide off) zs k).length cp) ∧ wr.ownsRow w.heap.size 3 1 v (idsToComb (fun c => !matchB c wide high off && matchB c high wide off) zs k).length (ints (idsToComb (fun c => !matchB c wide high off && matchB c high wide off) zs k)) ∧ Below w.heap.size w wr) (fun _ i _ => zs.length - (intOf i).toNat)
    case atStart => exact ⟨0, Nat.zero_le _, rfl, ⟨none, 0, rfl⟩, World.ownsRow_nil _ _ _ _, HB1.out⟩
    case round =>
      obtain ⟨k, hk, rfl, ⟨ad, cp, rfl⟩, hown, hbel⟩ := hrel
      have hlen := idsToComb_le (fun c => !matchB c wide high off && matchB c high wide off) zs k
      by_cases hlt : k < zs.length
      · rcases HR.out with h0 | ⟨b, bo, rfl, hb2, hc⟩
        · have := combs_length zs; rw [h0] at this; simp at this; omega
        obtain ⟨g0, g1, g2, g3⟩ := combs_get hlt
        have hc0 := (hbel.cell (p := ⟨b, _, none⟩) hb2).trans (hc _ _ g0)
        have hc1 := (hbel.cell (p := ⟨b, _, none⟩) hb2).trans (hc _ _ g1)
        have hc2 := (hbel.cell (p := ⟨b, _, none⟩) hb2).trans (hc _ _ g2)
        have hc3 := (hbel.cell (p := ⟨b, _, none⟩) hb2).trans (hc _ _ g3)
        simp only [← Nat.add_assoc] at hc1 hc2 hc3
        have HB := Lib.hid hbel
        have HO := Lib.hid hown
        have hcell : ∀ wx : World, Below wr.heap.size wr wx → (wx.cell? ⟨b, bo + k * 4, none⟩ = some (.int .i64 zs[k].id)) := fun wx hb => (hb.cell (p := ⟨b, _, none⟩) (Nat.lt_of_lt_of_le hb2 hbel.size)).trans hc0
        have HC := Lib.hid hcell
        have hall : ∀ wx : World, Below wr.heap.size wr wx → wx.cell? ⟨b, bo + k * 4, none⟩ = some (.int .i64 zs[k].id) ∧ wx.cell? ⟨b, bo + k * 4 + 1, none⟩ = some (.int .i64 zs[k].wide) ∧ wx.cell? ⟨b, bo + k * 4 + 2, none⟩ = some (.int .i64 zs[k].high) ∧ wx.cell? ⟨b, bo + k * 4 + 3, none⟩ = some (.bool zs[k].line) := fun wx hb => ⟨(hb.cell (p := ⟨b, _, none⟩) (Nat.lt_of_lt_of_le hb2 hbel.size)).trans hc0, (hb.cell (p := ⟨b, _, none⟩) (Nat.lt_of_lt_of_le hb2 hbel.size)).trans hc1, (hb.cell (p := ⟨b, _, none⟩) (Nat.lt_of_lt_of_le hb2 hbel.size)).trans hc2, (hb.cell (p := ⟨b, _, none⟩) (Nat.lt_of_lt_of_le hb2 hbel.size)).trans hc3⟩
        have HCA := Lib.hid hall
        clear hall
        clear hc g0 g1 g2 g3 hbel hown hcell
        cases hp : (fun c => !matchB c wide high off && matchB c high wide off) zs[k]
        · have hst := Lib.hid (idsToComb_no (p := fun c => !matchB c wide high off && matchB c high wide off) hlt hp)
          simp only at hp
          have hbx : ∀ w2 : World, Below (wr.alloc (.cells #[.int .i64 zs[k].id, .int .i64 zs[k].wide, .int .i64 zs[k].high, .bool zs[k].line] 66)).heap.size (wr.alloc (.cells #[.int .i64 zs[k].id, .int .i64 zs[k].wide, .int .i64 zs[k].high, .bool zs[k].line] 66)) w2 → Below wr.heap.size wr w2 ∧ w2.cell? ⟨wr.heap.size, 0, none⟩ = some (.int .i64 zs[k].id) ∧ w2.cell? ⟨wr.heap.size, 1, none⟩ = some (.int .i64 zs[k].wide) ∧ w2.cell? ⟨wr.heap.size, 2, none⟩ = some (.int .i64 zs[k].high) ∧ w2.cell? ⟨wr.heap.size, 3, none⟩ = some (.bool zs[k].line) := fun w2 hb => ⟨(Go.Joins.below_alloc1 wr _).trans (hb.mono (by simp)), (hb.cell (p := ⟨wr.heap.size, 0, none⟩) (by simp)).trans ((Go.Joins.cell_of_block (heap_alloc_new wr _) 0).trans rfl), (hb.cell (p := ⟨wr.heap.size, 1, none⟩) (by simp)).trans ((Go.Joins.cell_of_block (heap_alloc_new wr _) 1).trans rfl), (hb.cell (p := ⟨wr.heap.size, 2, none⟩) (by simp)).trans ((Go.Joins.cell_of_block (heap_alloc_new wr _) 2).trans rfl), (hb.cell (p := ⟨wr.heap.size, 3, none⟩) (by simp)).trans ((Go.Joins.cell_of_block (heap_alloc_new wr _) 3).trans rfl)⟩
          have HBX := Lib.hid hbx
          clear hbx
          have HY : Hid (∀ w2 : World, Below (wr.alloc (.cells #[.int .i64 zs[k].id, .int .i64 zs[k].wide, .int .i64 zs[k].high, .bool zs[k].line] 66)).heap.size (wr.alloc (.cells #[.int .i64 zs[k].id, .int .i64 zs[k].wide, .int .i64 zs[k].high, .bool zs[k].line] 66)) w2 → Below wr.heap.size wr w2) := fun w2 h => (HBX.out w2 h).1
          cases hq : matchB zs[k] wide high off
          · have hq2 : matchB zs[k] high wide off = false := by simpa [hq] using hp
            clear hp
            go_wp2_with fail
            refine (matches_any _ _ _ _ _ (by assumption) (by assumption) (by assumption) (by assumption) (by assumption) (by assumption)).mono ?_
            rintro e w9 ⟨rfl, hb9⟩
            obtain ⟨_, k0, k1, k2, k3⟩ := HBX.out _ hb9
            have H9 := Lib.hid hb9
            clear hb9
            go_wp2_with fail
            refine (matches_any _ _ _ _ _ (by assumption) (by assumption) (by assumption) (by assumption) (by assumption) (by assumption)).mono ?_
            rintro e w2 ⟨rfl, hb⟩
            have hh := HBX.out _ (H9.out.trans (hb.mono H9.out.size))
            have HX := Lib.hid hh.1
            have hcx := hh.2.1
            clear hb hh
            go_wp2_with fail
            go_roundw
            case rel => exact ⟨k + 1, by omega, by go_num, ⟨_, _, by rw [hst.out]⟩, by rw [hst.out]; exact own_below HO.out HX.out, HB.out.trans (HX.out.mono HB.out.size)⟩
            case measure => simp [intOf]; omega
          · clear hp
            go_wp2_with (go_at_call 64; refine (matches_any _ _ _ _ _ (by assumption) (by assumption) (by assumption) (by assumption) (by assumption) (by assumption)).mono ?_; rintro e w2 ⟨rfl, hb⟩; have HX := Lib.hid (HY.out _ hb); clear hb)
            go_roundw
            case rel => exact ⟨k + 1, by omega, by go_num, ⟨_, _, by rw [hst.out]⟩, by rw [hst.out]; exact own_below HO.out HX.out, HB.out.trans (HX.out.mono HB.out.size)⟩
            case measure => simp [intOf]; omega
        · have hst := Lib.hid (idsToComb_yes (p := fun c => !matchB c wide high off && matchB c high wide off) hlt hp)
          simp only at hp
          have hbx : ∀ w2 : World, Below (wr.alloc (.cells #[.int .i64 zs[k].id, .int .i64 zs[k].wide, .int .i64 zs[k].high, .bool zs[k].line] 66)).heap.size (wr.alloc (.cells #[.int .i64 zs[k].id, .int .i64 zs[k].wide, .int .i64 zs[k].high, .bool zs[k].line] 66)) w2 → Below wr.heap.size wr w2 ∧ w2.cell? ⟨wr.heap.size, 0, none⟩ = some (.int .i64 zs[k].id) ∧ w2.cell? ⟨wr.heap.size, 1, none⟩ = some (.int .i64 zs[k].wide) ∧ w2.cell? ⟨wr.heap.size, 2, none⟩ = some (.int .i64 zs[k].high) ∧ w2.cell? ⟨wr.heap.size, 3, none⟩ = some (.bool zs[k].line) := fun w2 hb => ⟨(Go.Joins.below_alloc1 wr _).trans (hb.mono (by simp)), (hb.cell (p := ⟨wr.heap.size, 0, none⟩) (by simp)).trans ((Go.Joins.cell_of_block (heap_alloc_new wr _) 0).trans rfl), (hb.cell (p := ⟨wr.heap.size, 1, none⟩) (by simp)).trans ((Go.Joins.cell_of_block (heap_alloc_new wr _) 1).trans rfl), (hb.cell (p := ⟨wr.heap.size, 2, none⟩) (by simp)).trans ((Go.Joins.cell_of_block (heap_alloc_new wr _) 2).trans rfl), (hb.cell (p := ⟨wr.heap.size, 3, none⟩) (by simp)).trans ((Go.Joins.cell_of_block (heap_alloc_new wr _) 3).trans rfl)⟩
          have HBX := Lib.hid hbx
          clear hbx
          have HY : Hid (∀ w2 : World, Below (wr.alloc (.cells #[.int .i64 zs[k].id, .int .i64 zs[k].wide, .int .i64 zs[k].high, .bool zs[k].line] 66)).heap.size (wr.alloc (.cells #[.int .i64 zs[k].id, .int .i64 zs[k].wide, .int .i64 zs[k].high, .bool zs[k].line] 66)) w2 → Below wr.heap.size wr w2) := fun w2 h => (HBX.out w2 h).1
          simp only [Bool.and_eq_true, Bool.not_eq_true'] at hp
          obtain ⟨hp1, hp2⟩ := hp
          go_wp2_with fail
          refine (matches_any _ _ _ _ _ (by assumption) (by assumption) (by assumption) (by assumption) (by assumption) (by assumption)).mono ?_
          rintro e w9 ⟨rfl, hb9⟩
          obtain ⟨_, k0, k1, k2, k3⟩ := HBX.out _ hb9
          have H9 := Lib.hid hb9
          clear hb9
          go_wp2_with fail
          refine (matches_any _ _ _ _ _ (by assumption) (by assumption) (by assumption) (by assumption) (by assumption) (by assumption)).mono ?_
          rintro e w2 ⟨rfl, hb⟩
          have hh := HBX.out _ (H9.out.trans (hb.mono H9.out.size))
          have HX := Lib.hid hh.1
          have hcx := hh.2.1
          clear hb hh
          go_wp2_with (at_builtin; refine wpList_append_own _ rfl _ _ 25 rfl w.heap.size 3 i0 (.int .i64 0) 1 8 Try.underlying25 hi hz0 hz1 hz2 rfl (by decide) _ _ _ rfl ((own_below HO.out HX.out).alloc _) ⟨w2.heap.size, 0, none⟩ 1 1 [.int .i64 zs[k].id] rfl rfl (World.news_of_block (cs := #[.int .i64 zs[k].id]) (t := 3) (fr := (0, 0)) (heap_alloc_new _ _)) (by simp [Value.oneCell']) (by unfold maxLen; omega) (by omega) (Nat.le_trans (Nat.le_trans HB.out.size HX.out.size) (by simp)) ?_)
          intro v' w3 hown3 hgrow3 _
          obtain ⟨g3, c3, hv⟩ := Go.Joins.ownsRow_form hown3 (by omega)
          have hidl : (idsToComb (fun c => !matchB c wide high off && matchB c high wide off) zs (k + 1)).length = (idsToComb (fun c => !matchB c wide high off && matchB c high wide off) zs k).length + 1 := by rw [hst.out]; simp
          have hown4 : w3.ownsRow w.heap.size 3 1 (.slice (some ⟨g3, 0, none⟩) ((idsToComb (fun c => !matchB c wide high off && matchB c high wide off) zs k).length + 1) c3) (idsToComb (fun c => !matchB c wide high off && matchB c high wide off) zs (k + 1)).length (ints (idsToComb (fun c => !matchB c wide high off && matchB c high wide off) zs (k + 1))) := by
            rw [hidl, hst.out]; rw [hv] at hown3; simpa [ints] using hown3
          have HO4 := Lib.hid hown4
          have HL4 := Lib.hid hidl
          have hbel4 : Below w.heap.size w w3 := by
            refine ((HB.out.trans (HX.out.mono HB.out.size)).alloc (Nat.le_trans HB.out.size HX.out.size) _).grown hgrow3 ?_ ?_
            · exact Nat.le_trans (Nat.le_trans HB.out.size HX.out.size) (by simp)
            · intro q hq; exact (HO.out.lt q hq).1
          have HB4 := Lib.hid hbel4
          rw [hv]
          clear hown3 hgrow3 hown4 hidl hbel4 hv
          go_wp2_with fail
          go_roundw
          case rel => exact ⟨k + 1, by omega, by go_num, ⟨_, _, by rw [HL4.out]⟩, HO4.out, HB4.out⟩
          case measure => simp [intOf]; omega
      · have hk2 : k = zs.length := by omega
        have he := Lib.hid (idsToComb_all (fun c => !matchB c wide high off && matchB c high wide off) zs)
        rw [hk2] at hown ⊢
        rw [he.out] at hown ⊢
        clear hlen hk2
        go_wp2_with fail
        go_ret2
        exact ⟨_, _, rfl, hown, hbel⟩
end Go.Proofs.Ytocjkgcbpgmhiaa
