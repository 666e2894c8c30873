/- MatchPapers, PapersWith: both sides collect the same ids. -/
import Derived.Test.YtmnlkcclcnnhmaaGreatDoorPaperG
import Derived.Test.YtmnlkcclcnnhmaaGreatDoorNear
import Derived.Deep.AppendLies
namespace Go.Proofs.YtmnlkcclcnnhmaaGreatDoor
open Go.RowKit

def idsToPaper (p : PaperT → Bool) (zs : List PaperT) (k : Nat) : List Int := ((zs.take k).filter p).map (·.id)
def idsOfPaper (p : PaperT → Bool) (zs : List PaperT) : List Int := (zs.filter p).map (·.id)
theorem idsToPaper_all (p : PaperT → Bool) (zs : List PaperT) : idsToPaper p zs zs.length = idsOfPaper p zs := by simp [idsToPaper, idsOfPaper]
theorem idsToPaper_le (p : PaperT → Bool) (zs : List PaperT) (k : Nat) : (idsToPaper p zs k).length ≤ k := by
  simp only [idsToPaper, List.length_map]
  exact Nat.le_trans (List.length_filter_le _ _) (by simp; omega)
theorem idsToPaper_yes {p : PaperT → Bool} {zs : List PaperT} {k : Nat} (h : k < zs.length) (hp : p zs[k] = true) : idsToPaper p zs (k + 1) = idsToPaper p zs k ++ [zs[k].id] := by
  unfold idsToPaper
  rw [List.take_succ_eq_append_getElem h, List.filter_append]
  simp [hp]
theorem idsToPaper_no {p : PaperT → Bool} {zs : List PaperT} {k : Nat} (h : k < zs.length) (hp : p zs[k] = false) : idsToPaper p zs (k + 1) = idsToPaper p zs k := by
  unfold idsToPaper
  rw [List.take_succ_eq_append_getElem h, List.filter_append]
  simp [hp]
theorem new_second (w : World) (o1 o2 : Obj) : ((w.alloc o1).alloc o2).heap[w.heap.size + 1]? = some o2 := by
  have h := heap_alloc_new (w.alloc o1) o2
  have hs : (w.alloc o1).heap.size = w.heap.size + 1 := by simp
  rw [hs] at h; exact h
def mAsk (zs : List PaperT) (th off tint : Int) : Bool := papersOk zs && inB th 1 300 && inB off 0 50 && inB tint (-1) 9
def mTest (th off tint : Int) (c : PaperT) : Bool := inB c.thick (th - off) (th + off) && (decide (tint = -1) || decide (tint = c.tint))
def wAsk (zs : List PaperT) (m : ByteArray) : Bool := papersOk zs && (m.toList.isEmpty || wordB m)
def wTest (m : ByteArray) (c : PaperT) : Bool := c.mark.toList == m.toList
set_option maxRecDepth 100000 in
set_option maxHeartbeats 2000000 in
theorem specMatchP_any (a : Option Addr) (cap : Nat) (zs : List PaperT) (th : Int) (off : Int) (tint : Int) (w : World) (hm : zs.length ≤ maxLen) (hr : Reads w a (papers zs)) (hfit : ∀ z ∈ zs, z.mark.size ≤ maxLen) :
    Calls Tryz.prog 14 #[.slice a zs.length cap, .int .i64 th, .int .i64 off, .int .i64 tint] w fun e w' => ∃ ad cp, e = .returned (.tuple #[.slice ad (if mAsk zs th off tint = true then idsOfPaper (mTest th off tint) zs else []).length cp, .bool (mAsk zs th off tint)]) ∧
      w'.ownsRow w.heap.size 3 1 (.slice ad (if mAsk zs th off tint = true then idsOfPaper (mTest th off tint) zs else []).length cp) (if mAsk zs th off tint = true then idsOfPaper (mTest th off tint) zs else []).length (ints (if mAsk zs th off tint = true then idsOfPaper (mTest th off tint) zs else [])) ∧ Below w.heap.size w w' := by
  obtain ⟨i0, hi, hz0, hz1, hz2⟩ := info_parts info_int
  have hA := fun w hr => l3Good_any a cap zs w hm hr hfit
  cases hask : mAsk zs th off tint
  · simp only [Bool.false_eq_true, if_false]
    have hown0 := Lib.hid (RowIs.owns (RowIs.made' w 3 ([] : List Value)) (n := 0) (sz := 1) rfl (by unfold maxLen; omega) (Nat.le_refl _))
    have hb0 := Lib.hid (Go.Joins.below_alloc1 w (.cells ([] : List Value).toArray 3))
    have hx0 := hm
    cases e1 : papersOk zs
    · rw [e1] at hA
      have HA := Lib.hid hA
      clear hA hask
      unfold maxLen at hm
      go_enter Tryz.func14, Tryz.ntmps14
      go_wp2_with fail
      refine (HA.out _ (hr.below (Go.Joins.below_alloc1 w _))).mono ?_
      rintro e w1 ⟨rfl, hb⟩
      have HB := Lib.hid hb
      clear hb
      go_wp2_with fail
      go_ret2
      exact ⟨_, _, rfl, own_below hown0.out HB.out, hb0.out.trans (HB.out.mono hb0.out.size)⟩
    · rw [e1] at hA
      have HA := Lib.hid hA
      clear hA
      cases e2 : inB th 1 300 <;> cases e3 : inB off 0 50 <;> cases e4 : inB tint (-1) 9
      all_goals
        first
        | (exfalso; simp [mAsk, e1, e2, e3, e4] at hask; done)
        | (clear hask
           unfold maxLen at hm
           go_enter Tryz.func14, Tryz.ntmps14
           go_wp2_with fail
           refine (HA.out _ (hr.below (Go.Joins.below_alloc1 w _))).mono ?_
           rintro e w1 ⟨rfl, hb⟩
           have HB := Lib.hid hb
           clear hb
           go_wp2_with (go_at_call 44; refine (l1In_any _ _ _ _).mono ?_; rintro e w' ⟨rfl, rfl⟩)
           go_ret2
           exact ⟨_, _, rfl, own_below hown0.out HB.out, hb0.out.trans (HB.out.mono hb0.out.size)⟩)
  · have hA2 := hA
    rw [show papersOk zs = true from by unfold mAsk at hask; simp at hask; exact hask.1.1.1] at hA2
    have HA := Lib.hid hA2
    simp only [if_true]
    have hown0 := Lib.hid (RowIs.owns (RowIs.made' w 3 ([] : List Value)) (n := 0) (sz := 1) rfl (by unfold maxLen; omega) (Nat.le_refl _))
    have hb0 := Lib.hid (Go.Joins.below_alloc1 w (.cells ([] : List Value).toArray 3))
    have HR := Lib.hid hr
    have hx0 := hm
    have hask2 := hask
    simp only [mAsk, Bool.and_eq_true, inB_true] at hask2
    obtain ⟨⟨⟨q0, q1, q2⟩, q3, q4⟩, q5, q6⟩ := hask2
    have q11 := papersOk_len q0
    have QT := Lib.hid (fun k hk => paperOk_thick (papersOk_at q0 (k := k) hk))
    clear q0
    clear hA hA2 hr
    cases e2 : inB th 1 300 <;> cases e3 : inB off 0 50 <;> cases e4 : inB tint (-1) 9
    all_goals first | (exfalso; simp [mAsk, e2, e3, e4] at hask; done) | skip
    all_goals clear hask
    all_goals unfold maxLen at hm
    all_goals go_enter Tryz.func14, Tryz.ntmps14
    all_goals go_wp2_with fail
    all_goals refine (HA.out _ (HR.out.below (Go.Joins.below_alloc1 w _))).mono ?_
    all_goals rintro e w1 ⟨rfl, hb⟩
    all_goals have HO1 := Lib.hid (own_below hown0.out hb)
    all_goals have HB1 := Lib.hid (hb0.out.trans (hb.mono hb0.out.size))
    all_goals clear hb
    all_goals go_wp2_with (go_at_call 44; refine (l1In_any _ _ _ _).mono ?_; rintro e w' ⟨rfl, rfl⟩)
    all_goals
      go_loopw [10, 11] (fun v i wr => ∃ k : Nat, k ≤ zs.length ∧ i = .int .i64 k ∧ (∃ ad cp, v = .slice ad (idsToPaper (mTest th off tint) zs k).length cp) ∧ wr.ownsRow w.heap.size 3 1 v (idsToPaper (mTest th off tint) zs k).length (ints (idsToPaper (mTest th off tint) zs k)) ∧ Below w.heap.size w wr) (fun _ i _ => zs.length - (intOf i).toNat)
      case atStart => exact ⟨0, Nat.zero_le _, rfl, ⟨_, _, rfl⟩, by simpa [idsToPaper] using HO1.out, HB1.out⟩
      case round =>
        obtain ⟨k, hk, rfl, ⟨ad, cp, rfl⟩, hown, hbel⟩ := hrel
        have hlen := idsToPaper_le (mTest th off tint) zs k
        by_cases hlt : k < zs.length
        · rcases HR.out with h0 | ⟨b, bo, rfl, hb2, hc⟩
          · have := papers_length zs; rw [h0] at this; simp at this; omega
          obtain ⟨g0, g1, g2, g3, g4⟩ := papers_get hlt
          have hc0 := (hbel.cell (p := ⟨b, _, none⟩) hb2).trans (hc _ _ g0)
          have hc1 := (hbel.cell (p := ⟨b, _, none⟩) hb2).trans (hc _ _ g1)
          have hc2 := (hbel.cell (p := ⟨b, _, none⟩) hb2).trans (hc _ _ g2)
          have hc3 := (hbel.cell (p := ⟨b, _, none⟩) hb2).trans (hc _ _ g3)
          have hc4 := (hbel.cell (p := ⟨b, _, none⟩) hb2).trans (hc _ _ g4)
          simp only [← Nat.add_assoc] at hc1 hc2 hc3 hc4
          have HB := Lib.hid hbel
          have HO := Lib.hid hown
          have hcell : ∀ wx : World, Below wr.heap.size wr wx → (wx.cell? ⟨b, bo + k * 5, none⟩ = some (.int .i64 zs[k].id)) := fun wx hb => (hb.cell (p := ⟨b, _, none⟩) (Nat.lt_of_lt_of_le hb2 hbel.size)).trans hc0
          have HC := Lib.hid hcell
          have hall : ∀ wx : World, Below wr.heap.size wr wx → wx.cell? ⟨b, bo + k * 5, none⟩ = some (.int .i64 zs[k].id) ∧ wx.cell? ⟨b, bo + k * 5 + 1, none⟩ = some (.int .i64 zs[k].thick) ∧ wx.cell? ⟨b, bo + k * 5 + 2, none⟩ = some (.int .i64 zs[k].tint) ∧ wx.cell? ⟨b, bo + k * 5 + 3, none⟩ = some (.string zs[k].mark) ∧ wx.cell? ⟨b, bo + k * 5 + 4, none⟩ = some (.bool zs[k].laid) := fun wx hb => ⟨(hb.cell (p := ⟨b, _, none⟩) (Nat.lt_of_lt_of_le hb2 hbel.size)).trans hc0, (hb.cell (p := ⟨b, _, none⟩) (Nat.lt_of_lt_of_le hb2 hbel.size)).trans hc1, (hb.cell (p := ⟨b, _, none⟩) (Nat.lt_of_lt_of_le hb2 hbel.size)).trans hc2, (hb.cell (p := ⟨b, _, none⟩) (Nat.lt_of_lt_of_le hb2 hbel.size)).trans hc3, (hb.cell (p := ⟨b, _, none⟩) (Nat.lt_of_lt_of_le hb2 hbel.size)).trans hc4⟩
          have HCA := Lib.hid hall
          clear hall
          clear hc g0 g1 g2 g3 g4 hbel hown hcell
          cases hp : (mTest th off tint) zs[k]
          · have hst := Lib.hid (idsToPaper_no (p := mTest th off tint) hlt hp)
            try simp only at hp
            have HX := Lib.hid (Below.refl wr.heap.size wr)
            have hp3 : inB zs[k].thick (th - off) (th + off) = false ∨ (inB zs[k].thick (th - off) (th + off) = true ∧ ((tint == -1) = false ∧ decide (tint < 0) = false) ∧ ((tint == zs[k].tint) = false ∧ (zs[k].tint == tint) = false)) := by
              unfold mTest at hp
              cases hq : inB zs[k].thick (th - off) (th + off)
              · exact .inl rfl
              · simp [hq] at hp; exact .inr ⟨rfl, ⟨by rw [beq_eq_false_iff_ne]; exact hp.1, by rw [decide_eq_false_iff_not]; omega⟩, ⟨by rw [beq_eq_false_iff_ne]; exact hp.2, by rw [beq_eq_false_iff_ne]; exact fun h => hp.2 h.symm⟩⟩
            clear hp
            rcases hp3 with hq | ⟨hq, ⟨hp1, hp2⟩, hp4, hp5⟩
            · go_wp2_with (go_at_call 44; refine (l1In_any _ _ _ _).mono ?_; rintro e w' ⟨rfl, rfl⟩)
              go_roundw
              case rel => exact ⟨k + 1, by omega, by go_num, ⟨_, _, by rw [hst.out]⟩, by rw [hst.out]; exact own_below HO.out HX.out, HB.out.trans (HX.out.mono HB.out.size)⟩
              case measure => simp [intOf]; omega
            · go_wp2_with (go_at_call 44; refine (l1In_any _ _ _ _).mono ?_; rintro e w' ⟨rfl, rfl⟩)
              go_roundw
              case rel => exact ⟨k + 1, by omega, by go_num, ⟨_, _, by rw [hst.out]⟩, by rw [hst.out]; exact own_below HO.out HX.out, HB.out.trans (HX.out.mono HB.out.size)⟩
              case measure => simp [intOf]; omega
          · have hst := Lib.hid (idsToPaper_yes (p := mTest th off tint) hlt hp)
            try simp only at hp
            have HX := Lib.hid (Below.refl wr.heap.size wr)
            have hp3 : (inB zs[k].thick (th - off) (th + off) = true ∧ (tint == -1) = true ∧ decide (tint < 0) = true) ∨ (inB zs[k].thick (th - off) (th + off) = true ∧ ((tint == -1) = false ∧ decide (tint < 0) = false) ∧ ((tint == zs[k].tint) = true ∧ (zs[k].tint == tint) = true)) := by
              unfold mTest at hp
              simp only [Bool.and_eq_true, Bool.or_eq_true, decide_eq_true_eq] at hp
              rcases hp with ⟨h1, h2 | h2⟩
              · exact .inl ⟨h1, by rw [beq_iff_eq]; exact h2, by rw [decide_eq_true_eq]; omega⟩
              · by_cases h3 : tint = -1
                · exact .inl ⟨h1, by rw [beq_iff_eq]; exact h3, by rw [decide_eq_true_eq]; omega⟩
                · exact .inr ⟨h1, ⟨by rw [beq_eq_false_iff_ne]; exact h3, by rw [decide_eq_false_iff_not]; omega⟩, by rw [beq_iff_eq]; exact h2, by rw [beq_iff_eq]; exact h2.symm⟩
            clear hp
            rcases hp3 with ⟨hq, hp1, hp2⟩ | ⟨hq, ⟨hp1, hp2⟩, hp4, hp5⟩
            · go_wp2_with (first | (go_at_call 44; refine (l1In_any _ _ _ _).mono ?_; rintro e w' ⟨rfl, rfl⟩) | (at_builtin; go_must (refine wpList_append_own _ rfl _ _ 36 rfl w.heap.size 3 i0 (.int .i64 0) 1 8 Tryz.underlying36 hi hz0 hz1 hz2 rfl (by decide) _ _ _ rfl ((own_below HO.out HX.out).alloc _) ⟨wr.heap.size, 0, none⟩ 1 1 [.int .i64 zs[k].id] rfl rfl (World.news_of_block (cs := #[.int .i64 zs[k].id]) (t := 3) (fr := (0, 0)) (heap_alloc_new _ _)) (by simp [Value.oneCell']) (by unfold maxLen; omega) (by omega) (Nat.le_trans (Nat.le_trans HB.out.size HX.out.size) (by simp)) ?_)))
              intro v' w3 hown3 hgrow3 _
              obtain ⟨g3, c3, hv⟩ := Go.Joins.ownsRow_form hown3 (by omega)
              have hidl : (idsToPaper (mTest th off tint) zs (k + 1)).length = (idsToPaper (mTest th off tint) zs k).length + 1 := by rw [hst.out]; simp
              have hown4 : w3.ownsRow w.heap.size 3 1 (.slice (some ⟨g3, 0, none⟩) ((idsToPaper (mTest th off tint) zs k).length + 1) c3) (idsToPaper (mTest th off tint) zs (k + 1)).length (ints (idsToPaper (mTest th off tint) zs (k + 1))) := by
                rw [hidl, hst.out]; rw [hv] at hown3; simpa [ints] using hown3
              have HO4 := Lib.hid hown4
              have HL4 := Lib.hid hidl
              have hbel4 : Below w.heap.size w w3 := by
                refine ((HB.out.trans (HX.out.mono HB.out.size)).alloc (Nat.le_trans HB.out.size HX.out.size) _).grown hgrow3 ?_ ?_
                · exact Nat.le_trans (Nat.le_trans HB.out.size HX.out.size) (by simp)
                · intro q hq; exact (HO.out.lt q hq).1
              have HB4 := Lib.hid hbel4
              rw [hv]
              clear hown3 hgrow3 hown4 hidl hbel4 hv
              go_wp2_with fail
              go_roundw
              case rel => exact ⟨k + 1, by omega, by go_num, ⟨_, _, by rw [HL4.out]⟩, HO4.out, HB4.out⟩
              case measure => simp [intOf]; omega
            · go_wp2_with (first | (go_at_call 44; refine (l1In_any _ _ _ _).mono ?_; rintro e w' ⟨rfl, rfl⟩) | (at_builtin; go_must (refine wpList_append_own _ rfl _ _ 36 rfl w.heap.size 3 i0 (.int .i64 0) 1 8 Tryz.underlying36 hi hz0 hz1 hz2 rfl (by decide) _ _ _ rfl ((own_below HO.out HX.out).alloc _) ⟨wr.heap.size, 0, none⟩ 1 1 [.int .i64 zs[k].id] rfl rfl (World.news_of_block (cs := #[.int .i64 zs[k].id]) (t := 3) (fr := (0, 0)) (heap_alloc_new _ _)) (by simp [Value.oneCell']) (by unfold maxLen; omega) (by omega) (Nat.le_trans (Nat.le_trans HB.out.size HX.out.size) (by simp)) ?_)))
              intro v' w3 hown3 hgrow3 _
              obtain ⟨g3, c3, hv⟩ := Go.Joins.ownsRow_form hown3 (by omega)
              have hidl : (idsToPaper (mTest th off tint) zs (k + 1)).length = (idsToPaper (mTest th off tint) zs k).length + 1 := by rw [hst.out]; simp
              have hown4 : w3.ownsRow w.heap.size 3 1 (.slice (some ⟨g3, 0, none⟩) ((idsToPaper (mTest th off tint) zs k).length + 1) c3) (idsToPaper (mTest th off tint) zs (k + 1)).length (ints (idsToPaper (mTest th off tint) zs (k + 1))) := by
                rw [hidl, hst.out]; rw [hv] at hown3; simpa [ints] using hown3
              have HO4 := Lib.hid hown4
              have HL4 := Lib.hid hidl
              have hbel4 : Below w.heap.size w w3 := by
                refine ((HB.out.trans (HX.out.mono HB.out.size)).alloc (Nat.le_trans HB.out.size HX.out.size) _).grown hgrow3 ?_ ?_
                · exact Nat.le_trans (Nat.le_trans HB.out.size HX.out.size) (by simp)
                · intro q hq; exact (HO.out.lt q hq).1
              have HB4 := Lib.hid hbel4
              rw [hv]
              clear hown3 hgrow3 hown4 hidl hbel4 hv
              go_wp2_with fail
              go_roundw
              case rel => exact ⟨k + 1, by omega, by go_num, ⟨_, _, by rw [HL4.out]⟩, HO4.out, HB4.out⟩
              case measure => simp [intOf]; omega
        · have hk2 : k = zs.length := by omega
          have he := Lib.hid (idsToPaper_all (mTest th off tint) zs)
          rw [hk2] at hown ⊢
          rw [he.out] at hown ⊢
          clear hlen hk2
          go_wp2_with fail
          go_ret2
          exact ⟨_, _, rfl, hown, hbel⟩
set_option maxRecDepth 100000 in
set_option maxHeartbeats 2000000 in
theorem implMatchP_any (a : Option Addr) (cap : Nat) (zs : List PaperT) (th : Int) (off : Int) (tint : Int) (w : World) (hm : zs.length ≤ maxLen) (hr : Reads w a (papers zs)) (hfit : ∀ z ∈ zs, z.mark.size ≤ maxLen) :
    Calls Tryz.prog 13 #[.slice a zs.length cap, .int .i64 th, .int .i64 off, .int .i64 tint] w fun e w' => ∃ ad cp, e = .returned (.tuple #[.slice ad (if mAsk zs th off tint = true then idsOfPaper (mTest th off tint) zs else []).length cp, .bool (mAsk zs th off tint)]) ∧
      w'.ownsRow w.heap.size 3 1 (.slice ad (if mAsk zs th off tint = true then idsOfPaper (mTest th off tint) zs else []).length cp) (if mAsk zs th off tint = true then idsOfPaper (mTest th off tint) zs else []).length (ints (if mAsk zs th off tint = true then idsOfPaper (mTest th off tint) zs else [])) ∧ Below w.heap.size w w' := by
  obtain ⟨i0, hi, hz0, hz1, hz2⟩ := info_parts info_int
  have hA := fun w hr => arePapers_any a cap zs w hm hr hfit
  cases hask : mAsk zs th off tint
  · simp only [Bool.false_eq_true, if_false]
    have HR0 := Lib.hid hr
    have hx0 := hm
    cases e1 : papersOk zs
    · rw [e1] at hA
      have HA := Lib.hid hA
      clear hA hask
      unfold maxLen at hm
      go_enter Tryz.func13, Tryz.ntmps13
      go_wp2_with fail
      refine (HA.out _ hr).mono ?_
      rintro e w1 ⟨rfl, hb⟩
      have HB := Lib.hid hb
      clear hb
      go_wp2_with fail
      go_ret2
      exact ⟨none, 0, rfl, World.ownsRow_nil _ _ _ _, HB.out⟩
    · rw [e1] at hA
      have HA := Lib.hid hA
      clear hA
      cases e2 : inB th 1 300 <;> cases e3 : inB off 0 50 <;> cases e4 : inB tint (-1) 9
      all_goals
        first
        | (exfalso; simp [mAsk, e1, e2, e3, e4] at hask; done)
        | (clear hask
           unfold maxLen at hm
           go_enter Tryz.func13, Tryz.ntmps13
           go_wp2_with fail
           refine (HA.out _ hr).mono ?_
           rintro e w1 ⟨rfl, hb⟩
           have HB := Lib.hid hb
           clear hb
           go_wp2_with (go_at_call 50; refine (inRange_any _ _ _ _).mono ?_; rintro e w' ⟨rfl, rfl⟩)
           go_ret2
           exact ⟨none, 0, rfl, World.ownsRow_nil _ _ _ _, HB.out⟩)
  · have hA2 := hA
    rw [show papersOk zs = true from by unfold mAsk at hask; simp at hask; exact hask.1.1.1] at hA2
    have HA := Lib.hid hA2
    simp only [if_true]
    have HR0 := Lib.hid hr
    have HR := Lib.hid hr
    have hx0 := hm
    have hask2 := hask
    simp only [mAsk, Bool.and_eq_true, inB_true] at hask2
    obtain ⟨⟨⟨q0, q1, q2⟩, q3, q4⟩, q5, q6⟩ := hask2
    have q11 := papersOk_len q0
    have QT := Lib.hid (fun k hk => paperOk_thick (papersOk_at q0 (k := k) hk))
    clear q0
    clear hA hA2 hr
    cases e2 : inB th 1 300 <;> cases e3 : inB off 0 50 <;> cases e4 : inB tint (-1) 9
    all_goals first | (exfalso; simp [mAsk, e2, e3, e4] at hask; done) | skip
    all_goals clear hask
    all_goals unfold maxLen at hm
    all_goals go_enter Tryz.func13, Tryz.ntmps13
    all_goals go_wp2_with fail
    all_goals refine (HA.out _ HR.out).mono ?_
    all_goals rintro e w1 ⟨rfl, hb⟩
    all_goals have HB1 := Lib.hid hb
    all_goals clear hb
    all_goals go_wp2_with (go_at_call 50; refine (inRange_any _ _ _ _).mono ?_; rintro e w' ⟨rfl, rfl⟩)
    all_goals
      go_loopw [10, 33] (fun v i wr => ∃ k : Nat, k ≤ zs.length ∧ i = .int .i64 k ∧ (∃ ad cp, v = .slice ad (idsToPaper (mTest th off tint) zs k).length cp) ∧ wr.ownsRow w.heap.size 3 1 v (idsToPaper (mTest th off tint) zs k).length (ints (idsToPaper (mTest th off tint) zs k)) ∧ Below w.heap.size w wr) (fun _ i _ => zs.length - (intOf i).toNat)
      case atStart => exact ⟨0, Nat.zero_le _, rfl, ⟨none, 0, rfl⟩, World.ownsRow_nil _ _ _ _, HB1.out⟩
      case round =>
        obtain ⟨k, hk, rfl, ⟨ad, cp, rfl⟩, hown, hbel⟩ := hrel
        have hlen := idsToPaper_le (mTest th off tint) zs k
        by_cases hlt : k < zs.length
        · rcases HR.out with h0 | ⟨b, bo, rfl, hb2, hc⟩
          · have := papers_length zs; rw [h0] at this; simp at this; omega
          obtain ⟨g0, g1, g2, g3, g4⟩ := papers_get hlt
          have hc0 := (hbel.cell (p := ⟨b, _, none⟩) hb2).trans (hc _ _ g0)
          have hc1 := (hbel.cell (p := ⟨b, _, none⟩) hb2).trans (hc _ _ g1)
          have hc2 := (hbel.cell (p := ⟨b, _, none⟩) hb2).trans (hc _ _ g2)
          have hc3 := (hbel.cell (p := ⟨b, _, none⟩) hb2).trans (hc _ _ g3)
          have hc4 := (hbel.cell (p := ⟨b, _, none⟩) hb2).trans (hc _ _ g4)
          simp only [← Nat.add_assoc] at hc1 hc2 hc3 hc4
          have HB := Lib.hid hbel
          have HO := Lib.hid hown
          have hcell : ∀ wx : World, Below wr.heap.size wr wx → (wx.cell? ⟨b, bo + k * 5, none⟩ = some (.int .i64 zs[k].id)) := fun wx hb => (hb.cell (p := ⟨b, _, none⟩) (Nat.lt_of_lt_of_le hb2 hbel.size)).trans hc0
          have HC := Lib.hid hcell
          have hall : ∀ wx : World, Below wr.heap.size wr wx → wx.cell? ⟨b, bo + k * 5, none⟩ = some (.int .i64 zs[k].id) ∧ wx.cell? ⟨b, bo + k * 5 + 1, none⟩ = some (.int .i64 zs[k].thick) ∧ wx.cell? ⟨b, bo + k * 5 + 2, none⟩ = some (.int .i64 zs[k].tint) ∧ wx.cell? ⟨b, bo + k * 5 + 3, none⟩ = some (.string zs[k].mark) ∧ wx.cell? ⟨b, bo + k * 5 + 4, none⟩ = some (.bool zs[k].laid) := fun wx hb => ⟨(hb.cell (p := ⟨b, _, none⟩) (Nat.lt_of_lt_of_le hb2 hbel.size)).trans hc0, (hb.cell (p := ⟨b, _, none⟩) (Nat.lt_of_lt_of_le hb2 hbel.size)).trans hc1, (hb.cell (p := ⟨b, _, none⟩) (Nat.lt_of_lt_of_le hb2 hbel.size)).trans hc2, (hb.cell (p := ⟨b, _, none⟩) (Nat.lt_of_lt_of_le hb2 hbel.size)).trans hc3, (hb.cell (p := ⟨b, _, none⟩) (Nat.lt_of_lt_of_le hb2 hbel.size)).trans hc4⟩
          have HCA := Lib.hid hall
          clear hall
          clear hc g0 g1 g2 g3 g4 hbel hown hcell
          cases hp : (mTest th off tint) zs[k]
          · have hst := Lib.hid (idsToPaper_no (p := mTest th off tint) hlt hp)
            try simp only at hp
            have HX := Lib.hid (Go.Joins.below_alloc1 wr (.cells #[.int .i64 zs[k].id, .int .i64 zs[k].thick, .int .i64 zs[k].tint, .string zs[k].mark, .bool zs[k].laid] 25))
            have hp3 : inB zs[k].thick (th - off) (th + off) = false ∨ (inB zs[k].thick (th - off) (th + off) = true ∧ ((tint == -1) = false ∧ decide (tint < 0) = false) ∧ ((tint == zs[k].tint) = false ∧ (zs[k].tint == tint) = false)) := by
              unfold mTest at hp
              cases hq : inB zs[k].thick (th - off) (th + off)
              · exact .inl rfl
              · simp [hq] at hp; exact .inr ⟨rfl, ⟨by rw [beq_eq_false_iff_ne]; exact hp.1, by rw [decide_eq_false_iff_not]; omega⟩, ⟨by rw [beq_eq_false_iff_ne]; exact hp.2, by rw [beq_eq_false_iff_ne]; exact fun h => hp.2 h.symm⟩⟩
            clear hp
            rcases hp3 with hq | ⟨hq, ⟨hp1, hp2⟩, hp4, hp5⟩
            · go_wp2_with (go_at_call 50; refine (inRange_any _ _ _ _).mono ?_; rintro e w' ⟨rfl, rfl⟩)
              go_roundw
              case rel => exact ⟨k + 1, by omega, by go_num, ⟨_, _, by rw [hst.out]⟩, by rw [hst.out]; exact own_below HO.out HX.out, HB.out.trans (HX.out.mono HB.out.size)⟩
              case measure => simp [intOf]; omega
            · go_wp2_with (go_at_call 50; refine (inRange_any _ _ _ _).mono ?_; rintro e w' ⟨rfl, rfl⟩)
              go_roundw
              case rel => exact ⟨k + 1, by omega, by go_num, ⟨_, _, by rw [hst.out]⟩, by rw [hst.out]; exact own_below HO.out HX.out, HB.out.trans (HX.out.mono HB.out.size)⟩
              case measure => simp [intOf]; omega
          · have hst := Lib.hid (idsToPaper_yes (p := mTest th off tint) hlt hp)
            try simp only at hp
            have HX := Lib.hid (Go.Joins.below_alloc1 wr (.cells #[.int .i64 zs[k].id, .int .i64 zs[k].thick, .int .i64 zs[k].tint, .string zs[k].mark, .bool zs[k].laid] 25))
            have hp3 : (inB zs[k].thick (th - off) (th + off) = true ∧ (tint == -1) = true ∧ decide (tint < 0) = true) ∨ (inB zs[k].thick (th - off) (th + off) = true ∧ ((tint == -1) = false ∧ decide (tint < 0) = false) ∧ ((tint == zs[k].tint) = true ∧ (zs[k].tint == tint) = true)) := by
              unfold mTest at hp
              simp only [Bool.and_eq_true, Bool.or_eq_true, decide_eq_true_eq] at hp
              rcases hp with ⟨h1, h2 | h2⟩
              · exact .inl ⟨h1, by rw [beq_iff_eq]; exact h2, by rw [decide_eq_true_eq]; omega⟩
              · by_cases h3 : tint = -1
                · exact .inl ⟨h1, by rw [beq_iff_eq]; exact h3, by rw [decide_eq_true_eq]; omega⟩
                · exact .inr ⟨h1, ⟨by rw [beq_eq_false_iff_ne]; exact h3, by rw [decide_eq_false_iff_not]; omega⟩, by rw [beq_iff_eq]; exact h2, by rw [beq_iff_eq]; exact h2.symm⟩
            clear hp
            rcases hp3 with ⟨hq, hp1, hp2⟩ | ⟨hq, ⟨hp1, hp2⟩, hp4, hp5⟩
            · go_wp2_with (first | (go_at_call 50; refine (inRange_any _ _ _ _).mono ?_; rintro e w' ⟨rfl, rfl⟩) | (at_builtin; go_must (refine wpList_append_own _ rfl _ _ 36 rfl w.heap.size 3 i0 (.int .i64 0) 1 8 Tryz.underlying36 hi hz0 hz1 hz2 rfl (by decide) _ _ _ rfl ((own_below HO.out HX.out).alloc _) ⟨wr.heap.size + 1, 0, none⟩ 1 1 [.int .i64 zs[k].id] rfl rfl (World.news_of_block (cs := #[.int .i64 zs[k].id]) (t := 3) (fr := (0, 0)) (new_second wr _ _)) (by simp [Value.oneCell']) (by unfold maxLen; omega) (by omega) (Nat.le_trans (Nat.le_trans HB.out.size HX.out.size) (by simp)) ?_)))
              intro v' w3 hown3 hgrow3 _
              obtain ⟨g3, c3, hv⟩ := Go.Joins.ownsRow_form hown3 (by omega)
              have hidl : (idsToPaper (mTest th off tint) zs (k + 1)).length = (idsToPaper (mTest th off tint) zs k).length + 1 := by rw [hst.out]; simp
              have hown4 : w3.ownsRow w.heap.size 3 1 (.slice (some ⟨g3, 0, none⟩) ((idsToPaper (mTest th off tint) zs k).length + 1) c3) (idsToPaper (mTest th off tint) zs (k + 1)).length (ints (idsToPaper (mTest th off tint) zs (k + 1))) := by
                rw [hidl, hst.out]; rw [hv] at hown3; simpa [ints] using hown3
              have HO4 := Lib.hid hown4
              have HL4 := Lib.hid hidl
              have hbel4 : Below w.heap.size w w3 := by
                refine ((HB.out.trans (HX.out.mono HB.out.size)).alloc (Nat.le_trans HB.out.size HX.out.size) _).grown hgrow3 ?_ ?_
                · exact Nat.le_trans (Nat.le_trans HB.out.size HX.out.size) (by simp)
                · intro q hq; exact (HO.out.lt q hq).1
              have HB4 := Lib.hid hbel4
              rw [hv]
              clear hown3 hgrow3 hown4 hidl hbel4 hv
              go_wp2_with fail
              go_roundw
              case rel => exact ⟨k + 1, by omega, by go_num, ⟨_, _, by rw [HL4.out]⟩, HO4.out, HB4.out⟩
              case measure => simp [intOf]; omega
            · go_wp2_with (first | (go_at_call 50; refine (inRange_any _ _ _ _).mono ?_; rintro e w' ⟨rfl, rfl⟩) | (at_builtin; go_must (refine wpList_append_own _ rfl _ _ 36 rfl w.heap.size 3 i0 (.int .i64 0) 1 8 Tryz.underlying36 hi hz0 hz1 hz2 rfl (by decide) _ _ _ rfl ((own_below HO.out HX.out).alloc _) ⟨wr.heap.size + 1, 0, none⟩ 1 1 [.int .i64 zs[k].id] rfl rfl (World.news_of_block (cs := #[.int .i64 zs[k].id]) (t := 3) (fr := (0, 0)) (new_second wr _ _)) (by simp [Value.oneCell']) (by unfold maxLen; omega) (by omega) (Nat.le_trans (Nat.le_trans HB.out.size HX.out.size) (by simp)) ?_)))
              intro v' w3 hown3 hgrow3 _
              obtain ⟨g3, c3, hv⟩ := Go.Joins.ownsRow_form hown3 (by omega)
              have hidl : (idsToPaper (mTest th off tint) zs (k + 1)).length = (idsToPaper (mTest th off tint) zs k).length + 1 := by rw [hst.out]; simp
              have hown4 : w3.ownsRow w.heap.size 3 1 (.slice (some ⟨g3, 0, none⟩) ((idsToPaper (mTest th off tint) zs k).length + 1) c3) (idsToPaper (mTest th off tint) zs (k + 1)).length (ints (idsToPaper (mTest th off tint) zs (k + 1))) := by
                rw [hidl, hst.out]; rw [hv] at hown3; simpa [ints] using hown3
              have HO4 := Lib.hid hown4
              have HL4 := Lib.hid hidl
              have hbel4 : Below w.heap.size w w3 := by
                refine ((HB.out.trans (HX.out.mono HB.out.size)).alloc (Nat.le_trans HB.out.size HX.out.size) _).grown hgrow3 ?_ ?_
                · exact Nat.le_trans (Nat.le_trans HB.out.size HX.out.size) (by simp)
                · intro q hq; exact (HO.out.lt q hq).1
              have HB4 := Lib.hid hbel4
              rw [hv]
              clear hown3 hgrow3 hown4 hidl hbel4 hv
              go_wp2_with fail
              go_roundw
              case rel => exact ⟨k + 1, by omega, by go_num, ⟨_, _, by rw [HL4.out]⟩, HO4.out, HB4.out⟩
              case measure => simp [intOf]; omega
        · have hk2 : k = zs.length := by omega
          have he := Lib.hid (idsToPaper_all (mTest th off tint) zs)
          rw [hk2] at hown ⊢
          rw [he.out] at hown ⊢
          clear hlen hk2
          go_wp2_with fail
          go_ret2
          exact ⟨_, _, rfl, hown, hbel⟩
set_option maxRecDepth 100000 in
set_option maxHeartbeats 2000000 in
theorem specWithP_any (a : Option Addr) (cap : Nat) (zs : List PaperT) (m : ByteArray) (w : World) (hm : zs.length ≤ maxLen) (hr : Reads w a (papers zs)) (hfit : ∀ z ∈ zs, z.mark.size ≤ maxLen) (hms : m.size ≤ maxLen) :
    Calls Tryz.prog 25 #[.slice a zs.length cap, .string m] w fun e w' => ∃ ad cp, e = .returned (.tuple #[.slice ad (if wAsk zs m = true then idsOfPaper (wTest m) zs else []).length cp, .bool (wAsk zs m)]) ∧
      w'.ownsRow w.heap.size 3 1 (.slice ad (if wAsk zs m = true then idsOfPaper (wTest m) zs else []).length cp) (if wAsk zs m = true then idsOfPaper (wTest m) zs else []).length (ints (if wAsk zs m = true then idsOfPaper (wTest m) zs else [])) ∧ Below w.heap.size w w' := by
  obtain ⟨i0, hi, hz0, hz1, hz2⟩ := info_parts info_int
  have hA := fun w hr => l3Good_any a cap zs w hm hr hfit
  cases hask : wAsk zs m
  · simp only [Bool.false_eq_true, if_false]
    have hown0 := Lib.hid (RowIs.owns (RowIs.made' w 3 ([] : List Value)) (n := 0) (sz := 1) rfl (by unfold maxLen; omega) (Nat.le_refl _))
    have hb0 := Lib.hid (Go.Joins.below_alloc1 w (.cells ([] : List Value).toArray 3))
    have HW := Lib.hid (fun w => l2Word_any m w hms)
    cases e1 : papersOk zs
    · rw [e1] at hA
      have HA := Lib.hid hA
      clear hA hask
      unfold maxLen at hm
      go_enter Tryz.func25, Tryz.ntmps25
      go_wp2_with fail
      refine (HA.out _ (hr.below (Go.Joins.below_alloc1 w _))).mono ?_
      rintro e w1 ⟨rfl, hb⟩
      have HB := Lib.hid hb
      clear hb
      go_wp2_with fail
      go_ret2
      exact ⟨_, _, rfl, own_below hown0.out HB.out, hb0.out.trans (HB.out.mono hb0.out.size)⟩
    · rw [e1] at hA
      have HA := Lib.hid hA
      clear hA
      cases e2 : m.toList.isEmpty <;> cases e3 : wordB m
      all_goals
        first
        | (exfalso; simp [wAsk, e1, e2, e3] at hask; done)
        | (clear hask
           unfold maxLen at hm
           go_enter Tryz.func25, Tryz.ntmps25
           go_wp2_with fail
           refine (HA.out _ (hr.below (Go.Joins.below_alloc1 w _))).mono ?_
           rintro e w1 ⟨rfl, hb⟩
           have HB := Lib.hid hb
           clear hb
           go_wp2_with (go_at_call 57; refine (HW.out _).mono ?_; rintro e w' ⟨rfl, rfl⟩)
           go_ret2
           exact ⟨_, _, rfl, own_below hown0.out HB.out, hb0.out.trans (HB.out.mono hb0.out.size)⟩)
  · have hA2 := hA
    rw [show papersOk zs = true from by unfold wAsk at hask; simp at hask; exact hask.1] at hA2
    have HA := Lib.hid hA2
    simp only [if_true]
    have hown0 := Lib.hid (RowIs.owns (RowIs.made' w 3 ([] : List Value)) (n := 0) (sz := 1) rfl (by unfold maxLen; omega) (Nat.le_refl _))
    have hb0 := Lib.hid (Go.Joins.below_alloc1 w (.cells ([] : List Value).toArray 3))
    have HR := Lib.hid hr
    have HW := Lib.hid (fun w => l2Word_any m w hms)
    have hask2 := hask
    simp only [wAsk, Bool.and_eq_true] at hask2
    have q11 := papersOk_len hask2.1
    clear hask2
    clear hA hA2 hr
    cases e2 : m.toList.isEmpty <;> cases e3 : wordB m
    all_goals first | (exfalso; simp [wAsk, e2, e3] at hask; done) | skip
    all_goals clear hask
    all_goals unfold maxLen at hm
    all_goals go_enter Tryz.func25, Tryz.ntmps25
    all_goals go_wp2_with fail
    all_goals refine (HA.out _ (HR.out.below (Go.Joins.below_alloc1 w _))).mono ?_
    all_goals rintro e w1 ⟨rfl, hb⟩
    all_goals have HO1 := Lib.hid (own_below hown0.out hb)
    all_goals have HB1 := Lib.hid (hb0.out.trans (hb.mono hb0.out.size))
    all_goals clear hb
    all_goals go_wp2_with (go_at_call 57; refine (HW.out _).mono ?_; rintro e w' ⟨rfl, rfl⟩)
    all_goals
      go_loopw [6, 7] (fun v i wr => ∃ k : Nat, k ≤ zs.length ∧ i = .int .i64 k ∧ (∃ ad cp, v = .slice ad (idsToPaper (wTest m) zs k).length cp) ∧ wr.ownsRow w.heap.size 3 1 v (idsToPaper (wTest m) zs k).length (ints (idsToPaper (wTest m) zs k)) ∧ Below w.heap.size w wr) (fun _ i _ => zs.length - (intOf i).toNat)
      case atStart => exact ⟨0, Nat.zero_le _, rfl, ⟨_, _, rfl⟩, by simpa [idsToPaper] using HO1.out, HB1.out⟩
      case round =>
        obtain ⟨k, hk, rfl, ⟨ad, cp, rfl⟩, hown, hbel⟩ := hrel
        have hlen := idsToPaper_le (wTest m) zs k
        by_cases hlt : k < zs.length
        · rcases HR.out with h0 | ⟨b, bo, rfl, hb2, hc⟩
          · have := papers_length zs; rw [h0] at this; simp at this; omega
          obtain ⟨g0, g1, g2, g3, g4⟩ := papers_get hlt
          have hc0 := (hbel.cell (p := ⟨b, _, none⟩) hb2).trans (hc _ _ g0)
          have hc1 := (hbel.cell (p := ⟨b, _, none⟩) hb2).trans (hc _ _ g1)
          have hc2 := (hbel.cell (p := ⟨b, _, none⟩) hb2).trans (hc _ _ g2)
          have hc3 := (hbel.cell (p := ⟨b, _, none⟩) hb2).trans (hc _ _ g3)
          have hc4 := (hbel.cell (p := ⟨b, _, none⟩) hb2).trans (hc _ _ g4)
          simp only [← Nat.add_assoc] at hc1 hc2 hc3 hc4
          have HB := Lib.hid hbel
          have HO := Lib.hid hown
          have hcell : ∀ wx : World, Below wr.heap.size wr wx → (wx.cell? ⟨b, bo + k * 5, none⟩ = some (.int .i64 zs[k].id)) := fun wx hb => (hb.cell (p := ⟨b, _, none⟩) (Nat.lt_of_lt_of_le hb2 hbel.size)).trans hc0
          have HC := Lib.hid hcell
          have hall : ∀ wx : World, Below wr.heap.size wr wx → wx.cell? ⟨b, bo + k * 5, none⟩ = some (.int .i64 zs[k].id) ∧ wx.cell? ⟨b, bo + k * 5 + 1, none⟩ = some (.int .i64 zs[k].thick) ∧ wx.cell? ⟨b, bo + k * 5 + 2, none⟩ = some (.int .i64 zs[k].tint) ∧ wx.cell? ⟨b, bo + k * 5 + 3, none⟩ = some (.string zs[k].mark) ∧ wx.cell? ⟨b, bo + k * 5 + 4, none⟩ = some (.bool zs[k].laid) := fun wx hb => ⟨(hb.cell (p := ⟨b, _, none⟩) (Nat.lt_of_lt_of_le hb2 hbel.size)).trans hc0, (hb.cell (p := ⟨b, _, none⟩) (Nat.lt_of_lt_of_le hb2 hbel.size)).trans hc1, (hb.cell (p := ⟨b, _, none⟩) (Nat.lt_of_lt_of_le hb2 hbel.size)).trans hc2, (hb.cell (p := ⟨b, _, none⟩) (Nat.lt_of_lt_of_le hb2 hbel.size)).trans hc3, (hb.cell (p := ⟨b, _, none⟩) (Nat.lt_of_lt_of_le hb2 hbel.size)).trans hc4⟩
          have HCA := Lib.hid hall
          clear hall
          clear hc g0 g1 g2 g3 g4 hbel hown hcell
          cases hp : (wTest m) zs[k]
          · have hst := Lib.hid (idsToPaper_no (p := wTest m) hlt hp)
            try simp only at hp
            have HX := Lib.hid (Below.refl wr.heap.size wr)
            unfold wTest at hp
            go_wp2_with fail
            go_roundw
            case rel => exact ⟨k + 1, by omega, by go_num, ⟨_, _, by rw [hst.out]⟩, by rw [hst.out]; exact own_below HO.out HX.out, HB.out.trans (HX.out.mono HB.out.size)⟩
            case measure => simp [intOf]; omega
          · have hst := Lib.hid (idsToPaper_yes (p := wTest m) hlt hp)
            try simp only at hp
            have HX := Lib.hid (Below.refl wr.heap.size wr)
            unfold wTest at hp
            go_wp2_with (at_builtin; go_must (refine wpList_append_own _ rfl _ _ 36 rfl w.heap.size 3 i0 (.int .i64 0) 1 8 Tryz.underlying36 hi hz0 hz1 hz2 rfl (by decide) _ _ _ rfl ((own_below HO.out HX.out).alloc _) ⟨wr.heap.size, 0, none⟩ 1 1 [.int .i64 zs[k].id] rfl rfl (World.news_of_block (cs := #[.int .i64 zs[k].id]) (t := 3) (fr := (0, 0)) (heap_alloc_new _ _)) (by simp [Value.oneCell']) (by unfold maxLen; omega) (by omega) (Nat.le_trans (Nat.le_trans HB.out.size HX.out.size) (by simp)) ?_))
            intro v' w3 hown3 hgrow3 _
            obtain ⟨g3, c3, hv⟩ := Go.Joins.ownsRow_form hown3 (by omega)
            have hidl : (idsToPaper (wTest m) zs (k + 1)).length = (idsToPaper (wTest m) zs k).length + 1 := by rw [hst.out]; simp
            have hown4 : w3.ownsRow w.heap.size 3 1 (.slice (some ⟨g3, 0, none⟩) ((idsToPaper (wTest m) zs k).length + 1) c3) (idsToPaper (wTest m) zs (k + 1)).length (ints (idsToPaper (wTest m) zs (k + 1))) := by
              rw [hidl, hst.out]; rw [hv] at hown3; simpa [ints] using hown3
            have HO4 := Lib.hid hown4
            have HL4 := Lib.hid hidl
            have hbel4 : Below w.heap.size w w3 := by
              refine ((HB.out.trans (HX.out.mono HB.out.size)).alloc (Nat.le_trans HB.out.size HX.out.size) _).grown hgrow3 ?_ ?_
              · exact Nat.le_trans (Nat.le_trans HB.out.size HX.out.size) (by simp)
              · intro q hq; exact (HO.out.lt q hq).1
            have HB4 := Lib.hid hbel4
            rw [hv]
            clear hown3 hgrow3 hown4 hidl hbel4 hv
            go_wp2_with fail
            go_roundw
            case rel => exact ⟨k + 1, by omega, by go_num, ⟨_, _, by rw [HL4.out]⟩, HO4.out, HB4.out⟩
            case measure => simp [intOf]; omega
        · have hk2 : k = zs.length := by omega
          have he := Lib.hid (idsToPaper_all (wTest m) zs)
          rw [hk2] at hown ⊢
          rw [he.out] at hown ⊢
          clear hlen hk2
          go_wp2_with fail
          go_ret2
          exact ⟨_, _, rfl, hown, hbel⟩
set_option maxRecDepth 100000 in
set_option maxHeartbeats 2000000 in
theorem implWithP_any (a : Option Addr) (cap : Nat) (zs : List PaperT) (m : ByteArray) (w : World) (hm : zs.length ≤ maxLen) (hr : Reads w a (papers zs)) (hfit : ∀ z ∈ zs, z.mark.size ≤ maxLen) (hms : m.size ≤ maxLen) :
    Calls Tryz.prog 23 #[.slice a zs.length cap, .string m] w fun e w' => ∃ ad cp, e = .returned (.tuple #[.slice ad (if wAsk zs m = true then idsOfPaper (wTest m) zs else []).length cp, .bool (wAsk zs m)]) ∧
      w'.ownsRow w.heap.size 3 1 (.slice ad (if wAsk zs m = true then idsOfPaper (wTest m) zs else []).length cp) (if wAsk zs m = true then idsOfPaper (wTest m) zs else []).length (ints (if wAsk zs m = true then idsOfPaper (wTest m) zs else [])) ∧ Below w.heap.size w w' := by
  obtain ⟨i0, hi, hz0, hz1, hz2⟩ := info_parts info_int
  have hA := fun w hr => arePapers_any a cap zs w hm hr hfit
  cases hask : wAsk zs m
  · simp only [Bool.false_eq_true, if_false]
    have HR0 := Lib.hid hr
    have HW := Lib.hid (fun w => isWord_any m w hms)
    cases e1 : papersOk zs
    · rw [e1] at hA
      have HA := Lib.hid hA
      clear hA hask
      unfold maxLen at hm
      go_enter Tryz.func23, Tryz.ntmps23
      go_wp2_with fail
      refine (HA.out _ hr).mono ?_
      rintro e w1 ⟨rfl, hb⟩
      have HB := Lib.hid hb
      clear hb
      go_wp2_with fail
      go_ret2
      exact ⟨none, 0, rfl, World.ownsRow_nil _ _ _ _, HB.out⟩
    · rw [e1] at hA
      have HA := Lib.hid hA
      clear hA
      cases e2 : m.toList.isEmpty <;> cases e3 : wordB m
      all_goals
        first
        | (exfalso; simp [wAsk, e1, e2, e3] at hask; done)
        | (clear hask
           unfold maxLen at hm
           go_enter Tryz.func23, Tryz.ntmps23
           go_wp2_with fail
           refine (HA.out _ hr).mono ?_
           rintro e w1 ⟨rfl, hb⟩
           have HB := Lib.hid hb
           clear hb
           go_wp2_with (go_at_call 55; refine (HW.out _).mono ?_; rintro e w' ⟨rfl, rfl⟩)
           go_ret2
           exact ⟨none, 0, rfl, World.ownsRow_nil _ _ _ _, HB.out⟩)
  · have hA2 := hA
    rw [show papersOk zs = true from by unfold wAsk at hask; simp at hask; exact hask.1] at hA2
    have HA := Lib.hid hA2
    simp only [if_true]
    have HR0 := Lib.hid hr
    have HR := Lib.hid hr
    have HW := Lib.hid (fun w => isWord_any m w hms)
    have hask2 := hask
    simp only [wAsk, Bool.and_eq_true] at hask2
    have q11 := papersOk_len hask2.1
    clear hask2
    clear hA hA2 hr
    cases e2 : m.toList.isEmpty <;> cases e3 : wordB m
    all_goals first | (exfalso; simp [wAsk, e2, e3] at hask; done) | skip
    all_goals clear hask
    all_goals unfold maxLen at hm
    all_goals go_enter Tryz.func23, Tryz.ntmps23
    all_goals go_wp2_with fail
    all_goals refine (HA.out _ HR.out).mono ?_
    all_goals rintro e w1 ⟨rfl, hb⟩
    all_goals have HB1 := Lib.hid hb
    all_goals clear hb
    all_goals go_wp2_with (go_at_call 55; refine (HW.out _).mono ?_; rintro e w' ⟨rfl, rfl⟩)
    all_goals
      go_loopw [6, 23] (fun v i wr => ∃ k : Nat, k ≤ zs.length ∧ i = .int .i64 k ∧ (∃ ad cp, v = .slice ad (idsToPaper (wTest m) zs k).length cp) ∧ wr.ownsRow w.heap.size 3 1 v (idsToPaper (wTest m) zs k).length (ints (idsToPaper (wTest m) zs k)) ∧ Below w.heap.size w wr) (fun _ i _ => zs.length - (intOf i).toNat)
      case atStart => exact ⟨0, Nat.zero_le _, rfl, ⟨none, 0, rfl⟩, World.ownsRow_nil _ _ _ _, HB1.out⟩
      case round =>
        obtain ⟨k, hk, rfl, ⟨ad, cp, rfl⟩, hown, hbel⟩ := hrel
        have hlen := idsToPaper_le (wTest m) zs k
        by_cases hlt : k < zs.length
        · rcases HR.out with h0 | ⟨b, bo, rfl, hb2, hc⟩
          · have := papers_length zs; rw [h0] at this; simp at this; omega
          obtain ⟨g0, g1, g2, g3, g4⟩ := papers_get hlt
          have hc0 := (hbel.cell (p := ⟨b, _, none⟩) hb2).trans (hc _ _ g0)
          have hc1 := (hbel.cell (p := ⟨b, _, none⟩) hb2).trans (hc _ _ g1)
          have hc2 := (hbel.cell (p := ⟨b, _, none⟩) hb2).trans (hc _ _ g2)
          have hc3 := (hbel.cell (p := ⟨b, _, none⟩) hb2).trans (hc _ _ g3)
          have hc4 := (hbel.cell (p := ⟨b, _, none⟩) hb2).trans (hc _ _ g4)
          simp only [← Nat.add_assoc] at hc1 hc2 hc3 hc4
          have HB := Lib.hid hbel
          have HO := Lib.hid hown
          have hcell : ∀ wx : World, Below wr.heap.size wr wx → (wx.cell? ⟨b, bo + k * 5, none⟩ = some (.int .i64 zs[k].id)) := fun wx hb => (hb.cell (p := ⟨b, _, none⟩) (Nat.lt_of_lt_of_le hb2 hbel.size)).trans hc0
          have HC := Lib.hid hcell
          have hall : ∀ wx : World, Below wr.heap.size wr wx → wx.cell? ⟨b, bo + k * 5, none⟩ = some (.int .i64 zs[k].id) ∧ wx.cell? ⟨b, bo + k * 5 + 1, none⟩ = some (.int .i64 zs[k].thick) ∧ wx.cell? ⟨b, bo + k * 5 + 2, none⟩ = some (.int .i64 zs[k].tint) ∧ wx.cell? ⟨b, bo + k * 5 + 3, none⟩ = some (.string zs[k].mark) ∧ wx.cell? ⟨b, bo + k * 5 + 4, none⟩ = some (.bool zs[k].laid) := fun wx hb => ⟨(hb.cell (p := ⟨b, _, none⟩) (Nat.lt_of_lt_of_le hb2 hbel.size)).trans hc0, (hb.cell (p := ⟨b, _, none⟩) (Nat.lt_of_lt_of_le hb2 hbel.size)).trans hc1, (hb.cell (p := ⟨b, _, none⟩) (Nat.lt_of_lt_of_le hb2 hbel.size)).trans hc2, (hb.cell (p := ⟨b, _, none⟩) (Nat.lt_of_lt_of_le hb2 hbel.size)).trans hc3, (hb.cell (p := ⟨b, _, none⟩) (Nat.lt_of_lt_of_le hb2 hbel.size)).trans hc4⟩
          have HCA := Lib.hid hall
          clear hall
          clear hc g0 g1 g2 g3 g4 hbel hown hcell
          cases hp : (wTest m) zs[k]
          · have hst := Lib.hid (idsToPaper_no (p := wTest m) hlt hp)
            try simp only at hp
            have HX := Lib.hid (Go.Joins.below_alloc1 wr (.cells #[.int .i64 zs[k].id, .int .i64 zs[k].thick, .int .i64 zs[k].tint, .string zs[k].mark, .bool zs[k].laid] 25))
            unfold wTest at hp
            go_wp2_with fail
            go_roundw
            case rel => exact ⟨k + 1, by omega, by go_num, ⟨_, _, by rw [hst.out]⟩, by rw [hst.out]; exact own_below HO.out HX.out, HB.out.trans (HX.out.mono HB.out.size)⟩
            case measure => simp [intOf]; omega
          · have hst := Lib.hid (idsToPaper_yes (p := wTest m) hlt hp)
            try simp only at hp
            have HX := Lib.hid (Go.Joins.below_alloc1 wr (.cells #[.int .i64 zs[k].id, .int .i64 zs[k].thick, .int .i64 zs[k].tint, .string zs[k].mark, .bool zs[k].laid] 25))
            unfold wTest at hp
            go_wp2_with (at_builtin; go_must (refine wpList_append_own _ rfl _ _ 36 rfl w.heap.size 3 i0 (.int .i64 0) 1 8 Tryz.underlying36 hi hz0 hz1 hz2 rfl (by decide) _ _ _ rfl ((own_below HO.out HX.out).alloc _) ⟨wr.heap.size + 1, 0, none⟩ 1 1 [.int .i64 zs[k].id] rfl rfl (World.news_of_block (cs := #[.int .i64 zs[k].id]) (t := 3) (fr := (0, 0)) (new_second wr _ _)) (by simp [Value.oneCell']) (by unfold maxLen; omega) (by omega) (Nat.le_trans (Nat.le_trans HB.out.size HX.out.size) (by simp)) ?_))
            intro v' w3 hown3 hgrow3 _
            obtain ⟨g3, c3, hv⟩ := Go.Joins.ownsRow_form hown3 (by omega)
            have hidl : (idsToPaper (wTest m) zs (k + 1)).length = (idsToPaper (wTest m) zs k).length + 1 := by rw [hst.out]; simp
            have hown4 : w3.ownsRow w.heap.size 3 1 (.slice (some ⟨g3, 0, none⟩) ((idsToPaper (wTest m) zs k).length + 1) c3) (idsToPaper (wTest m) zs (k + 1)).length (ints (idsToPaper (wTest m) zs (k + 1))) := by
              rw [hidl, hst.out]; rw [hv] at hown3; simpa [ints] using hown3
            have HO4 := Lib.hid hown4
            have HL4 := Lib.hid hidl
            have hbel4 : Below w.heap.size w w3 := by
              refine ((HB.out.trans (HX.out.mono HB.out.size)).alloc (Nat.le_trans HB.out.size HX.out.size) _).grown hgrow3 ?_ ?_
              · exact Nat.le_trans (Nat.le_trans HB.out.size HX.out.size) (by simp)
              · intro q hq; exact (HO.out.lt q hq).1
            have HB4 := Lib.hid hbel4
            rw [hv]
            clear hown3 hgrow3 hown4 hidl hbel4 hv
            go_wp2_with fail
            go_roundw
            case rel => exact ⟨k + 1, by omega, by go_num, ⟨_, _, by rw [HL4.out]⟩, HO4.out, HB4.out⟩
            case measure => simp [intOf]; omega
        · have hk2 : k = zs.length := by omega
          have he := Lib.hid (idsToPaper_all (wTest m) zs)
          rw [hk2] at hown ⊢
          rw [he.out] at hown ⊢
          clear hlen hk2
          go_wp2_with fail
          go_ret2
          exact ⟨_, _, rfl, hown, hbel⟩
end Go.Proofs.YtmnlkcclcnnhmaaGreatDoor
