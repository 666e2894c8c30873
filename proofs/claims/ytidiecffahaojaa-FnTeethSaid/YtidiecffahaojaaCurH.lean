/- Holes drawn (FnTeeth). -/
import Derived.Test.YtidiecffahaojaaCurA
import Derived.Test.YtidiecffahaojaaTeethA
import Derived.Deep.AppendLies
namespace Go.Proofs.Ytidiecffahaojaa
open Go.RowKit

theorem grown_newI {w w1 w2 : World} {g : Nat} {row : Option Nat} (h : w.grownBy w1 (some g)) (h2 : w1.grownBy w2 row) (hr : ∀ q, row = some q → w.heap.size ≤ q) : w.grownBy w2 (some g) :=
  ⟨h2.os.trans h.os, h2.tape.trans h.tape, h2.output.trans h.output, Nat.le_trans h.size h2.size, fun k hk hne => (h2.block k (Nat.lt_of_lt_of_le hk h.size) (fun e => by have := hr k e.symm; omega)).trans (h.block k hk hne)⟩
/-- a list of numbers of the draw's own, and the cursor -/
structure LsI (w wr : World) (g n : Nat) (v : Value) (zs : List Int) : Prop where
  form : ∃ ad cp, v = .slice ad zs.length cp
  own : wr.ownsRow w.heap.size 3 1 v zs.length (ints zs)
  cur : Cur wr g n
  low : g < w.heap.size
  grown : w.grownBy wr (some g)
theorem LsI.step {w wr w2 : World} {g n m : Nat} {v : Value} {zs : List Int} (h : LsI w wr g n v zs) (hc : Cur w2 g m) (hg : wr.grownBy w2 (some g)) : LsI w w2 g m v zs :=
  ⟨h.form, own_kept h.own hg (fun q hq e => by have := (h.own.lt q hq).1; have := h.low; injection e with e; omega), hc, h.low, grownBy_trans h.grown hg⟩
theorem LsI.app {w w2 w3 : World} {g n : Nat} {v v' : Value} {zs : List Int} {c : Int} {o : Obj} (h : LsI w w2 g n v zs) (ho : w3.ownsRow w.heap.size 3 1 v' (zs.length + 1) (ints zs ++ [.int .i64 c]))
    (hg : (w2.alloc o).grownBy w3 v.ownBlock) : LsI w w3 g n v' (zs ++ [c]) := by
  have hq : ∀ q, v.ownBlock = some q → w.heap.size ≤ q := fun q hq => (h.own.lt q hq).1
  obtain ⟨g3, c3, hv⟩ := Go.Joins.ownsRow_form ho (by omega)
  refine ⟨⟨some ⟨g3, 0, none⟩, c3, by rw [hv]; simp⟩, by simpa [ints] using ho, (h.cur.alloc o).kept hg (fun q e => by have := hq q e; have := h.low; omega), h.low, grown_newI (grown_alloc h.grown o) hg hq⟩
theorem LsI.mono {w wr : World} {g n m : Nat} {v : Value} {zs : List Int} (h : LsI w wr g n v zs) (hm : n ≤ m) : LsI w wr g m v zs := ⟨h.form, h.own, h.cur.mono hm, h.low, h.grown⟩
theorem LsI.fresh {w wr : World} {g n : Nat} (h : Cur wr g n) (hl : g < w.heap.size) (hg : w.grownBy wr (some g)) : LsI w (wr.alloc (.cells #[] 3)) g n (.slice (some ⟨wr.heap.size, 0, none⟩) 0 0) [] :=
  ⟨⟨_, _, rfl⟩, RowIs.owns (RowIs.new wr 3 ([] : List Value)) (n := 0) (sz := 1) rfl (by unfold maxLen; omega) hg.size, h.alloc _, hl, grown_alloc hg _⟩
theorem len_snocI (zs : List Int) (c : Int) : (zs ++ [c]).length = zs.length + 1 := by simp
def HolesIn (zs : List Int) : Prop := zs.length ≤ 42 ∧ ∀ z ∈ zs, -1000 ≤ z ∧ z ≤ 20000
theorem HolesIn.snoc {zs : List Int} {c : Int} (h : HolesIn zs) (hl : zs.length ≤ 41) (h1 : -1000 ≤ c) (h2 : c ≤ 20000) : HolesIn (zs ++ [c]) :=
  ⟨by rw [len_snocI]; omega, fun z hz => by
    rcases List.mem_append.1 hz with h3 | h3
    · exact h.2 z h3
    · rw [List.mem_singleton] at h3; rw [h3]; exact ⟨h1, h2⟩⟩
/-- drawn holes, and the cursor behind them -/
def DrawnH (w : World) (g m : Nat) (e : Ending) (w' : World) : Prop := ∃ (ad : Option Addr) (cp : Nat) (zs : List Int), e = .returned (.slice ad zs.length cp) ∧ HolesIn zs ∧
  Reads w' ad (ints zs) ∧ (∀ q, ad = some q → w.heap.size ≤ q.block) ∧ Cur w' g m ∧ w.grownBy w' (some g)
theorem DrawnH.of {w wr : World} {g n m : Nat} {ad : Option Addr} {cp : Nat} {zs : List Int} (h : LsI w wr g n (.slice ad zs.length cp) zs) (hz : HolesIn zs) (hm : n ≤ m) : DrawnH w g m (.returned (.slice ad zs.length cp)) wr :=
  ⟨ad, cp, zs, rfl, hz, own_reads h.own, fun q hq => by
    by_cases h0 : 0 < zs.length
    · obtain ⟨g1, rfl, hb, _⟩ := own_form h.own h0
      injection hq with hq; rw [← hq]; exact hb
    · rcases h.own.2 with ⟨h1, _⟩ | ⟨g1, c1, cur, e1, hb, _⟩
      · injection h1 with h1; rw [h1] at hq; injection hq
      · injection e1 with e1; rw [e1] at hq; injection hq with hq; rw [← hq]; exact hb, h.cur.mono hm, h.grown⟩
theorem own_capI {w : World} {base n sz cap : Nat} {e : TypeId} {a : Option Addr} {xs : List Value} (h : w.ownsRow base e sz (.slice a n cap) n xs) : n ≤ cap := by
  rcases h.2 with ⟨h1, _⟩ | ⟨g, c, cur, e1, _, _, h3, _⟩
  · injection h1 with _ h2 h3; omega
  · injection e1 with _ _ e3; rw [e3]; exact h3
theorem DrawnH.pre {w wr : World} {g n m j : Nat} {ad : Option Addr} {cp : Nat} {zs : List Int} (h : LsI w wr g n (.slice ad zs.length cp) zs) (hz : HolesIn zs) (hm : n ≤ m) (hj : j ≤ zs.length) : DrawnH w g m (.returned (.slice ad j cp)) wr := by
  obtain ⟨a2, c2, z2, he, h1, h2, h3, h4, h5⟩ := DrawnH.of h hz hm
  injection he with he
  injection he with e1 e2 e3
  subst e1; subst e3
  refine ⟨ad, cp, zs.take j, by rw [List.length_take, Nat.min_eq_left hj], ⟨by rw [List.length_take]; have := hz.1; omega, fun z hzz => hz.2 z (List.mem_of_mem_take hzz)⟩, ?_, h3, h4, h5⟩
  rcases own_reads h.own with h0 | ⟨b, off, e, hb, hc⟩
  · left
    have : zs = [] := by simpa [ints] using h0
    simp [this, ints]
  · right
    refine ⟨b, off, e, hb, fun k u hu => hc k u ?_⟩
    simp only [ints, List.map_take] at hu ⊢
    rw [List.getElem?_take] at hu
    split at hu
    · exact hu
    · cases hu
set_option maxRecDepth 100000 in
set_option maxHeartbeats 2000000 in
theorem holes5_any (g n : Nat) (w : World) (h : Cur w g n) (hn : n ≤ 1040000) : Calls Try.prog 38 #[.pointer (some ⟨g, 0, none⟩)] w (DrawnH w g (n + 200)) := by
  obtain ⟨i0, hi, hz0, hz1, hz2⟩ := info_parts info_int
  have HP := Lib.hid (fun w n m h hn h1 h2 => pick_any g n m w h hn h1 h2)
  have HB1 := Lib.hid (fun w n m h hn h1 h2 => one_any g n m w h hn h1 h2)
  have HA1 := Lib.hid (fun w n h hn => among_lit g n [100, 167, 174, 182, 400, 30] w h hn (by simp) (by simp) #[.int .i64 100, .int .i64 167, .int .i64 174, .int .i64 182, .int .i64 400, .int .i64 30] rfl 6 rfl)
  have HA2 := Lib.hid (fun w n h hn => among_lit g n [0, 5, 100] w h hn (by simp) (by simp) #[.int .i64 0, .int .i64 5, .int .i64 100] rfl 3 rfl)
  have HA3 := Lib.hid (fun w n h hn => among_lit g n [-5, 0, 0, 0, 5, 6] w h hn (by simp) (by simp) #[.int .i64 (-5), .int .i64 0, .int .i64 0, .int .i64 0, .int .i64 5, .int .i64 6] rfl 6 rfl)
  have HA4 := Lib.hid (fun w n h hn => among_lit g n [0, 10000, 9999] w h hn (by simp) (by simp) #[.int .i64 0, .int .i64 10000, .int .i64 9999] rfl 3 rfl)
  have HL0 := Lib.hid (LsI.fresh h h.lt (⟨rfl, rfl, rfl, Nat.le_refl _, fun _ _ _ => rfl⟩ : w.grownBy w (some g)))
  have hs0 : (w.alloc (.cells #[] 3)).heap.size = w.heap.size + 1 := by simp
  clear h
  go_enter Try.func38, Try.ntmps38
  go_wp2_with fail
  generalize w.alloc (.cells #[] 3) = w0 at *
  rw [← hs0]
  refine (HA1.out _ _ HL0.out.cur (by omega)).mono ?_
  rintro e w1 ⟨st, rfl, hst, hc1, hg1⟩
  have st1 : 30 ≤ st ∧ st ≤ 400 := by simp at hst; omega
  have HL1 := Lib.hid (HL0.out.step hc1 hg1)
  clear hst hc1 hg1
  go_wp2_with fail
  refine (HA2.out _ _ HL1.out.cur (by omega)).mono ?_
  rintro e w2 ⟨at0, rfl, hat, hc1, hg1⟩
  have at1 : 0 ≤ at0 ∧ at0 ≤ 100 := by simp at hat; omega
  have HL2 := Lib.hid (HL1.out.step hc1 hg1)
  clear hat hc1 hg1
  go_wp2_with fail
  refine (HP.out _ _ 12 HL2.out.cur (by omega) (by omega) (by omega)).mono ?_
  rintro e w3 ⟨p, rfl, ⟨p1, p2⟩, hc1, hg1⟩
  obtain ⟨m, rfl⟩ : ∃ m : Nat, p = (m : Int) := ⟨p.toNat, by omega⟩
  have HL3 := Lib.hid (HL2.out.step hc1 hg1)
  clear hc1 hg1
  go_wp2_with fail
  go_loopw [3, 5, 6] (fun v x i wr => ∃ (r k : Nat) (t : Int) (zs : List Int), k + r = m + 2 ∧ x = .int .i64 t ∧ (-5 * (k : Int) ≤ t ∧ t ≤ 100 + 806 * (k : Int)) ∧ i = .int .i64 r ∧ zs.length = k ∧ HolesIn zs ∧ LsI w wr g (n + 6 + 4 * k) v zs) (fun _ _ i _ => (intOf i).toNat)
  case atStart => exact ⟨m + 2, 0, at0, [], by omega, rfl, by omega, by go_num, rfl, ⟨by simp, by simp⟩, HL3.out⟩
  case round =>
    obtain ⟨r, k, t, zs, hrk, rfl, ht, rfl, rfl, hz, hls⟩ := hrel
    obtain ⟨ad, cp, rfl⟩ := hls.form
    have HL := Lib.hid hls
    have HZ := Lib.hid hz
    clear hls hz
    by_cases hlt : 0 < r
    · have hd : decide ((0 : Int) < (r : Int)) = true := by simp; omega
      go_wp2_with (at_builtin; go_must (refine wpList_append_own _ rfl _ _ 36 rfl w.heap.size 3 i0 (.int .i64 0) 1 8 Try.underlying36 hi hz0 hz1 hz2 rfl (by decide) _ _ _ rfl (HL.out.own.alloc _) ⟨wr.heap.size, 0, none⟩ 1 1 [.int .i64 t] rfl rfl (World.news_of_block (cs := #[.int .i64 t]) (t := 3) (fr := (0, 0)) (heap_alloc_new _ _)) (by simp [Value.oneCell']) (by show zs.length + 1 ≤ maxLen; unfold maxLen; omega) (show (zs.length + 1) * 8 ≤ 140737488355328 by omega) (Nat.le_trans HL.out.grown.size (by simp)) ?_))
      intro v' w9 hown9 hgrow9 _
      have HL8 := Lib.hid (HL.out.app hown9 hgrow9)
      obtain ⟨ad9, cp9, hv⟩ := HL8.out.form
      rw [len_snocI] at hv
      have HL9 := Lib.hid (hv ▸ HL8.out)
      rw [hv]
      clear hown9 hgrow9 hv HL8
      go_wp2_with fail
      refine (HA3.out _ _ HL9.out.cur (by omega)).mono ?_
      rintro e w4 ⟨y, rfl, hy, hc1, hg1⟩
      have y1 : -5 ≤ y ∧ y ≤ 6 := by simp at hy; omega
      have HL4 := Lib.hid (HL9.out.step hc1 hg1)
      clear hy hc1 hg1
      go_wp2_with fail
      refine (HB1.out _ _ 9 HL4.out.cur (by omega) (by omega) (by omega)).mono ?_
      rintro e w5 ⟨b, rfl, hc1, hg1⟩
      have HL5 := Lib.hid (HL4.out.step hc1 hg1)
      have HZ5 := Lib.hid (HZ.out.snoc (c := t) (by omega) (by omega) (by omega))
      clear hc1 hg1
      cases b
      · go_wp2_with fail
        go_roundw
        case rel => exact ⟨r - 1, zs.length + 1, _, zs ++ [t], by omega, rfl, by omega, by go_num, len_snocI _ _, HZ5.out, HL5.out.mono (by omega)⟩
        case measure => simp [intOf]; omega
      · go_wp2_with fail
        go_roundw
        case rel => exact ⟨r - 1, zs.length + 1, _, zs ++ [t], by omega, rfl, by omega, by go_num, len_snocI _ _, HZ5.out, HL5.out.mono (by omega)⟩
        case measure => simp [intOf]; omega
    · obtain rfl : r = 0 := by omega
      go_wp2_with fail
      refine (HP.out _ _ 60 HL.out.cur (by omega) (by omega) (by omega)).mono ?_
      rintro e w6 ⟨x, rfl, ⟨x1, x2⟩, hc1, hg1⟩
      have HL6 := Lib.hid (HL.out.step hc1 hg1)
      clear hc1 hg1
      rcases (show x = 0 ∨ x = 1 ∨ x = 2 ∨ 3 ≤ x by omega) with rfl | rfl | rfl | hx
      · have q0 : ((0 : Int) == 0) = true := rfl
        go_wp2_with fail
        refine (HP.out _ _ 2 HL6.out.cur (by omega) (by omega) (by omega)).mono ?_
        rintro e w7 ⟨y, rfl, ⟨y1, y2⟩, hc1, hg1⟩
        obtain ⟨j, rfl⟩ : ∃ j : Nat, y = (j : Int) := ⟨y.toNat, by omega⟩
        have HL7 := Lib.hid (HL6.out.step hc1 hg1)
        have hcap := own_capI HL7.out.own
        have i1 : j ≤ cp := by omega
        have i2 : (j : Int) ≤ (cp : Int) := by omega
        have i3 : (0 : Int) ≤ (j : Int) := by omega
        have HD := Lib.hid (DrawnH.pre (m := n + 200) (j := j) HL7.out HZ.out (by omega) (by omega))
        clear hc1 hg1
        go_wp2_with fail
        go_ret
        exact HD.out
      · have q0 : ((1 : Int) == 0) = false := rfl
        have q1 : ((1 : Int) == 1) = true := rfl
        go_wp2_with fail
        refine (HA4.out _ _ HL6.out.cur (by omega)).mono ?_
        rintro e w7 ⟨y, rfl, hy, hc1, hg1⟩
        have y1 : 0 ≤ y ∧ y ≤ 10000 := by simp at hy; omega
        have HL7 := Lib.hid (HL6.out.step hc1 hg1)
        clear hy hc1 hg1
        go_wp2_with (at_builtin; go_must (refine wpList_append_own _ rfl _ _ 36 rfl w.heap.size 3 i0 (.int .i64 0) 1 8 Try.underlying36 hi hz0 hz1 hz2 rfl (by decide) _ _ _ rfl (HL7.out.own.alloc _) ⟨w7.heap.size, 0, none⟩ 1 1 [.int .i64 y] rfl rfl (World.news_of_block (cs := #[.int .i64 y]) (t := 3) (fr := (0, 0)) (heap_alloc_new _ _)) (by simp [Value.oneCell']) (by show zs.length + 1 ≤ maxLen; unfold maxLen; omega) (show (zs.length + 1) * 8 ≤ 140737488355328 by omega) (Nat.le_trans HL7.out.grown.size (by simp)) ?_))
        intro v' w9 hown9 hgrow9 _
        have HL8 := Lib.hid (HL7.out.app hown9 hgrow9)
        obtain ⟨ad9, cp9, hv⟩ := HL8.out.form
        rw [len_snocI] at hv
        have HL9 := Lib.hid (hv ▸ HL8.out)
        rw [hv]
        clear hown9 hgrow9 hv HL8
        have HZ7 := Lib.hid (HZ.out.snoc (c := y) (by omega) (by omega) (by omega))
        have HD := Lib.hid (DrawnH.of (m := n + 200) (by rw [len_snocI]; exact HL9.out) HZ7.out (by omega))
        rw [len_snocI] at HD
        go_wp2_with fail
        go_ret
        exact HD.out
      · have q0 : ((2 : Int) == 0) = false := rfl
        have q1 : ((2 : Int) == 1) = false := rfl
        have q2 : ((2 : Int) == 2) = true := rfl
        have HN := Lib.hid (LsI.fresh HL6.out.cur HL6.out.low HL6.out.grown)
        go_wp2_with fail
        go_loopw [3, 7] (fun v i wr => ∃ ys : List Int, ys.length ≤ 41 ∧ i = .int .i64 ys.length ∧ HolesIn ys ∧ LsI w wr g (n + 62 + 2 * ys.length) v ys) (fun _ i _ => 42 - (intOf i).toNat)
        case atStart => exact ⟨[], by simp, rfl, ⟨by simp, by simp⟩, HN.out.mono (by omega)⟩
        case round =>
          obtain ⟨ys, hy41, rfl, hyz, hls⟩ := hrel
          obtain ⟨ad2, cp2, rfl⟩ := hls.form
          have HM := Lib.hid hls
          have HY := Lib.hid hyz
          clear hls hyz HL HL6 HN
          go_wp2_with fail
          refine (HP.out _ _ 2 HM.out.cur (by omega) (by omega) (by omega)).mono ?_
          rintro e w7 ⟨y, rfl, ⟨y1, y2⟩, hc3, hg3⟩
          have HL7 := Lib.hid (HM.out.step hc3 hg3)
          clear hc3 hg3
          by_cases hlt2 : (ys.length : Int) < 40 + y
          · have hd2 : decide ((ys.length : Int) < 40 + y) = true := by simpa using hlt2
            go_wp2_with (at_builtin; go_must (refine wpList_append_own _ rfl _ _ 36 rfl w.heap.size 3 i0 (.int .i64 0) 1 8 Try.underlying36 hi hz0 hz1 hz2 rfl (by decide) _ _ _ rfl (HL7.out.own.alloc _) ⟨w7.heap.size, 0, none⟩ 1 1 [.int .i64 (150 * (ys.length : Int))] rfl rfl (World.news_of_block (cs := #[.int .i64 (150 * (ys.length : Int))]) (t := 3) (fr := (0, 0)) (heap_alloc_new _ _)) (by simp [Value.oneCell']) (by show ys.length + 1 ≤ maxLen; unfold maxLen; omega) (show (ys.length + 1) * 8 ≤ 140737488355328 by omega) (Nat.le_trans HL7.out.grown.size (by simp)) ?_))
            intro v' w9 hown9 hgrow9 _
            have HL8 := Lib.hid (HL7.out.app hown9 hgrow9)
            obtain ⟨ad9, cp9, hv⟩ := HL8.out.form
            rw [len_snocI] at hv
            have HL9 := Lib.hid (hv ▸ HL8.out)
            have HZ9 := Lib.hid (HY.out.snoc (c := 150 * (ys.length : Int)) (by omega) (by omega) (by omega))
            rw [hv]
            clear hown9 hgrow9 hv HL8
            go_wp2_with fail
            go_roundw
            case rel => exact ⟨ys ++ [150 * (ys.length : Int)], by rw [len_snocI]; omega, by rw [len_snocI]; go_num, HZ9.out, HL9.out.mono (by rw [len_snocI]; omega)⟩
            case measure => simp [intOf]; omega
          · have hd2 : decide ((ys.length : Int) < 40 + y) = false := by simpa using hlt2
            have HD := Lib.hid (DrawnH.of (m := n + 200) HL7.out HY.out (by omega))
            go_wp2_with fail
            go_ret
            exact HD.out
      · have q0 : (x == 0) = false := by rw [beq_eq_false_iff_ne]; omega
        have q1 : (x == 1) = false := by rw [beq_eq_false_iff_ne]; omega
        have q2 : (x == 2) = false := by rw [beq_eq_false_iff_ne]; omega
        have HD := Lib.hid (DrawnH.of (m := n + 200) HL6.out HZ.out (by omega))
        go_wp2_with fail
        go_ret
        exact HD.out
end Go.Proofs.Ytidiecffahaojaa
