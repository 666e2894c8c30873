/- Stamps drawn. -/
import Derived.Test.YtieopadbbciciaaCurS
import Derived.Test.YtieopadbbciciaaStampC
namespace Go.Proofs.Ytieopadbbciciaa
open Go.RowKit

theorem grown_new {w w1 w2 : World} {g : Nat} {row : Option Nat} (h : w.grownBy w1 (some g)) (h2 : w1.grownBy w2 row) (hr : ∀ q, row = some q → w.heap.size ≤ q) : w.grownBy w2 (some g) :=
  ⟨h2.os.trans h.os, h2.tape.trans h.tape, h2.output.trans h.output, Nat.le_trans h.size h2.size, fun k hk hne => (h2.block k (Nat.lt_of_lt_of_le hk h.size) (fun e => by have := hr k e.symm; omega)).trans (h.block k hk hne)⟩
theorem len_snocS (zs : List StampT) (c : StampT) : (zs ++ [c]).length = zs.length + 1 := by simp
def lenOf : Value → Nat
  | .slice _ n _ => n
  | _ => 0
/-- a list of the draw's own, and the cursor -/
structure Ls (w wr : World) (g n : Nat) (v : Value) (zs : List StampT) : Prop where
  form : ∃ ad cp, v = .slice ad zs.length cp
  own : wr.ownsRow w.heap.size 53 4 v zs.length (stamps zs)
  cur : Cur wr g n
  low : g < w.heap.size
  grown : w.grownBy wr (some g)
theorem Ls.step {w wr w2 : World} {g n m : Nat} {v : Value} {zs : List StampT} (h : Ls w wr g n v zs) (hc : Cur w2 g m) (hg : wr.grownBy w2 (some g)) : Ls w w2 g m v zs :=
  ⟨h.form, own_kept h.own hg (fun q hq e => by have := (h.own.lt q hq).1; have := h.low; injection e with e; omega), hc, h.low, grownBy_trans h.grown hg⟩
theorem Ls.app {w w2 w3 : World} {g n : Nat} {v v' : Value} {zs : List StampT} {c : StampT} {o : Obj} (h : Ls w w2 g n v zs) (ho : w3.ownsRow w.heap.size 53 4 v' (zs.length + 1) (stamps zs ++ c.cells))
    (hg : (w2.alloc o).grownBy w3 v.ownBlock) : Ls w w3 g n v' (zs ++ [c]) := by
  have hq : ∀ q, v.ownBlock = some q → w.heap.size ≤ q := fun q hq => (h.own.lt q hq).1
  obtain ⟨g3, c3, hv⟩ := Go.Joins.ownsRow_form ho (by omega)
  refine ⟨⟨some ⟨g3, 0, none⟩, c3, by rw [hv]; simp⟩, by simpa [stamps] using ho, (h.cur.alloc o).kept hg (fun q e => by have := hq q e; have := h.low; omega), h.low, grown_new (grown_alloc h.grown o) hg hq⟩
theorem Ls.mono {w wr : World} {g n m : Nat} {v : Value} {zs : List StampT} (h : Ls w wr g n v zs) (hm : n ≤ m) : Ls w wr g m v zs := ⟨h.form, h.own, h.cur.mono hm, h.low, h.grown⟩
theorem Ls.new {w : World} {g n : Nat} (h : Cur w g n) : Ls w (w.alloc (.cells #[] 53)) g n (.slice (some ⟨w.heap.size, 0, none⟩) 0 0) [] :=
  ⟨⟨_, _, rfl⟩, RowIs.owns (RowIs.new w 53 ([] : List Value)) (n := 0) (sz := 4) rfl (by unfold maxLen; omega) (Nat.le_refl _), h.alloc _, h.lt, World.grownBy_alloc w _ _⟩
/-- drawn stamps, and the cursor behind them -/
def DrawnL (w : World) (g m : Nat) (e : Ending) (w' : World) : Prop := ∃ (ad : Option Addr) (cp : Nat) (zs : List StampT), e = .returned (.slice ad zs.length cp) ∧ zs.length ≤ 13 ∧
  w'.ownsRow w.heap.size 53 4 (.slice ad zs.length cp) zs.length (stamps zs) ∧ Cur w' g m ∧ w.grownBy w' (some g)
set_option maxRecDepth 100000 in
set_option maxHeartbeats 2000000 in
theorem stamps_any (g n : Nat) (w : World) (h : Cur w g n) (hn : n ≤ 1040000) : Calls Try.prog 41 #[.pointer (some ⟨g, 0, none⟩)] w (DrawnL w g (n + 120)) := by
  obtain ⟨i0, hi, hz0, hz1, hz2⟩ := info_parts info_stamp
  have HP := Lib.hid (fun w n m h hn h1 h2 => pick_any g n m w h hn h1 h2)
  have HB1 := Lib.hid (fun w n m h hn h1 h2 => one_any g n m w h hn h1 h2)
  have HA := Lib.hid (fun w n h hn => among_lit g n [0, 11, 999, 1000] w h hn (by simp) (by simp) #[.int .i64 0, .int .i64 11, .int .i64 999, .int .i64 1000] rfl 4 rfl)
  have HS := Lib.hid (fun w n id h hn => stamp_any g n id w h hn)
  have HL0 := Lib.hid (Ls.new h)
  clear h
  go_enter Try.func41, Try.ntmps41
  go_wp2_with fail
  go_loopw [3, 4] (fun v i wr => ∃ (k : Nat) (zs : List StampT), k ≤ 6 ∧ i = .int .i64 ((k : Int) + 1) ∧ zs.length ≤ k ∧ Ls w wr g (n + 12 * k) v zs) (fun _ i _ => 7 - (intOf i).toNat)
  case atStart => exact ⟨0, [], by omega, rfl, by simp, HL0.out⟩
  case round =>
    obtain ⟨k, zs, hk, rfl, hlen, hls⟩ := hrel
    obtain ⟨ad, cp, rfl⟩ := hls.form
    have HL := Lib.hid hls
    clear hls
    by_cases hlt : k < 6
    · have hd : decide ((k : Int) + 1 < 7) = true := by simp; omega
      go_wp2_with fail
      refine (HB1.out _ _ 3 HL.out.cur (by omega) (by omega) (by omega)).mono ?_
      rintro e w2 ⟨b, rfl, hc2, hg2⟩
      have HL2 := Lib.hid (HL.out.step hc2 hg2)
      clear hc2 hg2
      cases b
      · go_wp2_with fail
        refine (HS.out _ _ _ HL2.out.cur (by omega)).mono ?_
        rintro e w3 ⟨c, rfl, hc3, hg3⟩
        have HL3 := Lib.hid (HL2.out.step hc3 hg3)
        clear hc3 hg3
        go_wp2_with (at_builtin; go_must (refine wpList_append_own _ rfl _ _ 27 rfl w.heap.size 53 i0 _ 4 32 Try.underlying27 hi hz0 hz1 hz2 rfl (by decide) _ _ _ rfl (HL3.out.own.alloc _) ⟨w3.heap.size, 0, none⟩ 1 1 c.cells rfl rfl (World.news_of_block (cs := c.cells.toArray) (t := 53) (fr := (0, 0)) (heap_alloc_new _ _)) (by simp [StampT.cells, Value.oneCell']) (by show zs.length + 1 ≤ maxLen; unfold maxLen; omega) (show (zs.length + 1) * 32 ≤ 140737488355328 by omega) (Nat.le_trans HL3.out.grown.size (by simp)) ?_))
        intro v' w4 hown4 hgrow4 _
        have HL4 := Lib.hid (HL3.out.app hown4 hgrow4)
        obtain ⟨ad4, cp4, hv⟩ := HL4.out.form
        rw [len_snocS] at hv
        have HL5 := Lib.hid (hv ▸ HL4.out)
        rw [hv]
        clear hown4 hgrow4 hv HL4
        go_wp2_with fail
        go_roundw
        case rel => exact ⟨k + 1, zs ++ [c], by omega, by go_num, by simp; omega, HL5.out.mono (by omega)⟩
        case measure => simp [intOf]; omega
      · go_wp2_with fail
        go_roundw
        case rel => exact ⟨k + 1, zs, by omega, by go_num, by omega, HL2.out.mono (by omega)⟩
        case measure => simp [intOf]; omega
    · obtain rfl : k = 6 := by omega
      have hd : decide (((6 : Nat) : Int) + 1 < 7) = false := by decide
      go_wp2_with fail
      refine (HP.out _ _ 32 HL.out.cur (by omega) (by omega) (by omega)).mono ?_
      rintro e w2 ⟨x, rfl, ⟨x1, x2⟩, hc2, hg2⟩
      have HL2 := Lib.hid (HL.out.step hc2 hg2)
      clear hc2 hg2
      rcases (show x = 0 ∨ x = 1 ∨ 2 ≤ x by omega) with rfl | rfl | hx
      · have q0 : ((0 : Int) == 0) = true := rfl
        go_wp2_with fail
        refine (HA.out _ _ HL2.out.cur (by omega)).mono ?_
        rintro e w5 ⟨y, rfl, _, hc5, hg5⟩
        have HL6 := Lib.hid (HL2.out.step hc5 hg5)
        clear hc5 hg5
        go_wp2_with fail
        refine (HS.out _ _ _ HL6.out.cur (by omega)).mono ?_
        rintro e w3 ⟨c, rfl, hc3, hg3⟩
        have HL3 := Lib.hid (HL6.out.step hc3 hg3)
        clear hc3 hg3
        go_wp2_with (at_builtin; go_must (refine wpList_append_own _ rfl _ _ 27 rfl w.heap.size 53 i0 _ 4 32 Try.underlying27 hi hz0 hz1 hz2 rfl (by decide) _ _ _ rfl (HL3.out.own.alloc _) ⟨w3.heap.size, 0, none⟩ 1 1 c.cells rfl rfl (World.news_of_block (cs := c.cells.toArray) (t := 53) (fr := (0, 0)) (heap_alloc_new _ _)) (by simp [StampT.cells, Value.oneCell']) (by show zs.length + 1 ≤ maxLen; unfold maxLen; omega) (show (zs.length + 1) * 32 ≤ 140737488355328 by omega) (Nat.le_trans HL3.out.grown.size (by simp)) ?_))
        intro v' w4 hown4 hgrow4 _
        have HL4 := Lib.hid (HL3.out.app hown4 hgrow4)
        obtain ⟨ad4, cp4, hv⟩ := HL4.out.form
        rw [len_snocS] at hv
        have HL5 := Lib.hid (hv ▸ HL4.out)
        rw [hv]
        clear hown4 hgrow4 hv HL4
        go_wp2_with fail
        go_ret
        exact ⟨ad4, cp4, zs ++ [c], by rw [len_snocS]; rfl, by simp; omega, by have := HL5.out.own; rw [len_snocS] at this ⊢; exact this, HL5.out.cur.mono (by omega), HL5.out.grown⟩
      · have q0 : ((1 : Int) == 0) = false := rfl
        have q1 : ((1 : Int) == 1) = true := rfl
        go_wp2_with fail
        go_loopw [3] (fun v wr => ∃ zs : List StampT, zs.length ≤ 13 ∧ Ls w wr g (n + 74 + 2 * zs.length) v zs) (fun v _ => 13 - lenOf v)
        case atStart => exact ⟨zs, by omega, HL2.out.mono (by omega)⟩
        case round =>
          obtain ⟨zs2, hlen2, hls2⟩ := hrel
          obtain ⟨ad2, cp2, rfl⟩ := hls2.form
          have HM := Lib.hid hls2
          clear hls2 HL HL2
          go_wp2_with fail
          refine (HP.out _ _ 2 HM.out.cur (by omega) (by omega) (by omega)).mono ?_
          rintro e w3 ⟨y, rfl, ⟨y1, y2⟩, hc3, hg3⟩
          have HL3 := Lib.hid (HM.out.step hc3 hg3)
          clear hc3 hg3
          by_cases hlt2 : (zs2.length : Int) < 12 + y
          · have hd2 : decide ((zs2.length : Int) < 12 + y) = true := by simpa using hlt2
            go_wp2_with (at_builtin; go_must (refine wpList_append_own _ rfl _ _ 27 rfl w.heap.size 53 i0 _ 4 32 Try.underlying27 hi hz0 hz1 hz2 rfl (by decide) _ _ _ rfl (HL3.out.own.alloc _) ⟨w3.heap.size, 0, none⟩ 1 1 (⟨100 + (zs2.length : Int), 700, 0, 1900⟩ : StampT).cells rfl rfl (World.news_of_block (cs := #[.int .i64 (100 + (zs2.length : Int)), .int .i64 700, .int .i64 0, .int .i64 1900]) (t := 53) (fr := (0, 0)) (heap_alloc_new _ _)) (by simp [StampT.cells, Value.oneCell']) (by show zs2.length + 1 ≤ maxLen; unfold maxLen; omega) (show (zs2.length + 1) * 32 ≤ 140737488355328 by omega) (Nat.le_trans HL3.out.grown.size (by simp)) ?_))
            intro v' w4 hown4 hgrow4 _
            have HL4 := Lib.hid (HL3.out.app hown4 hgrow4)
            obtain ⟨ad4, cp4, hv⟩ := HL4.out.form
            rw [len_snocS] at hv
            have HL5 := Lib.hid (hv ▸ HL4.out)
            have HLN := Lib.hid (len_snocS zs2 ⟨100 + (zs2.length : Int), 700, 0, 1900⟩)
            rw [hv]
            clear hown4 hgrow4 hv HL4
            go_wp2_with fail
            go_roundw
            case rel => exact ⟨zs2 ++ [⟨100 + (zs2.length : Int), 700, 0, 1900⟩], by rw [HLN.out]; omega, HL5.out.mono (by rw [HLN.out]; omega)⟩
            case measure => simp [lenOf]; omega
          · have hd2 : decide ((zs2.length : Int) < 12 + y) = false := by simpa using hlt2
            go_wp2_with fail
            go_ret
            exact ⟨ad2, cp2, zs2, rfl, hlen2, HL3.out.own, HL3.out.cur.mono (by omega), HL3.out.grown⟩
      · have q0 : (x == 0) = false := by rw [beq_eq_false_iff_ne]; omega
        have q1 : (x == 1) = false := by rw [beq_eq_false_iff_ne]; omega
        go_wp2_with fail
        go_ret
        exact ⟨ad, cp, zs, rfl, by omega, HL2.out.own, HL2.out.cur.mono (by omega), HL2.out.grown⟩
end Go.Proofs.Ytieopadbbciciaa
