/- A sheet drawn. -/
import Derived.Test.YtenedmkjbmbapaaDrawB
import Derived.Test.YtenedmkjbmbapaaLayW
import Derived.Test.YtenedmkjbmbapaaBlankS
import Derived.Deep.RegionHeld3
namespace Go.Proofs.Ytenedmkjbmbapaa
open Go.RowKit

theorem reads_farT {w w' : World} {a : Option Addr} {xs : List Value} {g B : Nat} (h : Reads w a xs) (hg : w.grownBy w' (some g)) (hf : ∀ q, a = some q → B ≤ q.block) (hB : g < B) : Reads w' a xs :=
  h.grown hg (fun q hq e => by have := hf q hq; injection e with e; omega)
theorem cell_grownT {w w' : World} {g b o : Nat} (hg : w.grownBy w' (some g)) (hb : b < w.heap.size) (hne : b ≠ g) : w'.cell? ⟨b, o, none⟩ = w.cell? ⟨b, o, none⟩ :=
  hg.cell_far ⟨b, o, none⟩ hb (fun e => hne (by injection e))
theorem TxIn.of_grid {zs : List ByteArray} {m k : Nat} (h : gridB zs m = true) (hk : m ≤ k) : TxIn k zs := fun z hz => by
  obtain ⟨i, hi, rfl⟩ := List.getElem_of_mem hz
  have := ((gridB_bd h).2.2 i hi).2.2
  rw [rowAt_of hi] at this; omega
theorem grid_len {zs : List ByteArray} {m : Nat} (h : gridB zs m = true) : zs.length ≤ m := (gridB_bd h).2.1
theorem okW_grid {xs ys : List ByteArray} {r c : Int} (h : okW xs ys r c = true) : gridB (layW xs ys r c) 5 = true := by
  simp only [okW, okP, Bool.and_eq_true] at h
  obtain ⟨⟨gx, gy⟩, hf⟩ := h
  rw [layW_of (by simp [okP, gx, gy])]
  obtain ⟨h0, h1, h4, h2, _⟩ := fits_of hf
  obtain ⟨r, rfl⟩ : ∃ n : Nat, r = (n : Int) := ⟨r.toNat, by omega⟩
  obtain ⟨c, rfl⟩ : ∃ n : Nat, c = (n : Int) := ⟨c.toNat, by omega⟩
  rw [layR_of hf]
  exact layF_grid gx gy (by omega)
/-- a drawn sheet, and the cursor behind it -/
def DrawnP (w : World) (g m : Nat) (e : Ending) (w' : World) : Prop := ∃ (ad : Option Addr) (cp : Nat) (zs : List ByteArray), e = .returned (.slice ad zs.length cp) ∧ zs.length ≤ 6 ∧ TxIn 6 zs ∧ zs.length ≤ cp ∧
  Reads w' ad (strs zs) ∧ (∀ q, ad = some q → w.heap.size ≤ q.block) ∧ Cur w' g m ∧ w.grownBy w' (some g)
theorem DrawnP.of {w wr : World} {g n m : Nat} {ad : Option Addr} {cp : Nat} {zs : List ByteArray} (h : LsT w wr g n (.slice ad zs.length cp) zs) (h1 : zs.length ≤ 6) (h2 : TxIn 6 zs) (hm : n ≤ m) : DrawnP w g m (.returned (.slice ad zs.length cp)) wr :=
  ⟨ad, cp, zs, rfl, h1, h2, own_le h.own, own_reads h.own, h.far, h.cur.mono hm, h.grown⟩
theorem LsT.dr {w wr : World} {g n : Nat} {v : Value} {zs : List ByteArray} (h : LsT w wr g n v zs) : LsT w wr.drew g n v zs := h.step (h.cur.dr 1) (below_grown' (Dr.below (Dr.of wr 1) _) _)
theorem LsT.alloc {w wr : World} {g n : Nat} {v : Value} {zs : List ByteArray} (h : LsT w wr g n v zs) (o : Obj) : LsT w (wr.alloc o) g n v zs := h.step (h.cur.alloc o) (World.grownBy_alloc wr o _)
theorem LsT.put {w wr w2 : World} {g n : Nat} {v v2 : Value} {zs ys : List ByteArray} (h : LsT w wr g n v zs) (hb : Below wr.heap.size wr w2) (hf : ∃ ad cp, v2 = .slice ad ys.length cp) (ho : w2.ownsRow wr.heap.size 9 1 v2 ys.length (strs ys)) : LsT w w2 g n v2 ys :=
  ⟨hf, World.ownsRow.mono ho h.grown.size, h.cur.below hb, h.low, grown_below h.grown hb⟩
theorem LsT.belo {w wr w2 : World} {g n : Nat} {v : Value} {zs : List ByteArray} (h : LsT w wr g n v zs) (hb : Below wr.heap.size wr w2) : LsT w w2 g n v zs :=
  h.step (h.cur.below hb) (below_grown' hb _)
abbrev oddS : List ByteArray := [⟨#[]⟩, ⟨#[97, 97, 97, 97, 97, 97]⟩, ⟨#[46]⟩]
theorem oddS_size : ∀ z ∈ oddS, z.size ≤ 6 := by decide +kernel
set_option maxRecDepth 100000 in
set_option maxHeartbeats 4000000 in
theorem plateSheet_any (g n : Nat) (w : World) (h : Cur w g n) (hn : n ≤ 1030000) : Calls Try.prog 68 #[.pointer (some ⟨g, 0, none⟩)] w (DrawnP w g (n + 200)) := by
  obtain ⟨i0, hi, hz0, hz1, hz2⟩ := info_parts info_string
  have hg := h.lt
  have HC0 := Lib.hid h
  have HP := Lib.hid (fun w n m h hn h1 h2 => pick_any g n m w h hn h1 h2)
  have HK := Lib.hid (fun w n h hn => block_any g n w h hn)
  have HO := Lib.hid (fun w n h hn => of_lit g n oddS w h hn (by decide) (by decide) #[.string ⟨#[]⟩, .string ⟨#[97, 97, 97, 97, 97, 97]⟩, .string ⟨#[46]⟩] rfl 3 rfl)
  have HS := Lib.hid oddS_size
  clear h
  go_enter Try.func68, Try.ntmps68
  go_wp2_with fail
  refine (HP.out _ n 5 HC0.out (by omega) (by omega) (by omega)).mono ?_
  rintro e w1 ⟨p, rfl, ⟨p1, p2⟩, hc1, hg1⟩
  obtain ⟨p, rfl⟩ : ∃ m : Nat, p = (m : Int) := ⟨p.toNat, by omega⟩
  have HC1 := Lib.hid hc1
  have HG1 := Lib.hid hg1
  clear hc1 hg1
  go_wp2_with fail
  refine (HP.out _ _ 5 HC1.out (by omega) (by omega) (by omega)).mono ?_
  rintro e w2 ⟨q, rfl, ⟨q1, q2⟩, hc1, hg1⟩
  obtain ⟨q, rfl⟩ : ∃ m : Nat, q = (m : Int) := ⟨q.toNat, by omega⟩
  have HC2 := Lib.hid hc1
  have HG2 := Lib.hid (grownBy_trans HG1.out hg1)
  have HBL := l4Blank_any (p + 1) (q + 1) w2 (by omega) (by omega)
  rw [show ((p + 1 : Nat) : Int) = 1 + (p : Int) by omega, show ((q + 1 : Nat) : Int) = 1 + (q : Int) by omega] at HBL
  have HGB := Lib.hid (blankS_grid (r := p + 1) (c := q + 1) (by omega) (by omega) (by omega) (by omega))
  generalize blankS (p + 1) (q + 1) = bl at *
  have HBLK := Lib.hid HBL
  clear hc1 hg1 HC1 HG1 HBL
  go_wp2_with fail
  refine HBLK.out.mono ?_
  rintro e w3 ⟨ad, cp, rfl, hown, hb⟩
  have HL3 := Lib.hid (show LsT w w3 g (n + 2 + 2) (.slice ad bl.length cp) bl from ⟨⟨_, _, rfl⟩, World.ownsRow.mono hown HG2.out.size, HC2.out.below hb, hg, grown_below HG2.out hb⟩)
  clear hown hb HC2 HBLK HG2
  go_wp2_with fail
  refine (HP.out _ _ 4 HL3.out.cur (by omega) (by omega) (by omega)).mono ?_
  rintro e w4 ⟨m, rfl, ⟨m1, m2⟩, hc1, hg1⟩
  obtain ⟨m, rfl⟩ : ∃ k : Nat, m = (k : Int) := ⟨m.toNat, by omega⟩
  have HL4 := Lib.hid (HL3.out.step hc1 hg1)
  clear hc1 hg1 HL3
  go_wp2_with fail
  go_loopw [3, 4] (fun v i wr => ∃ (r : Nat) (zs : List ByteArray), r ≤ m ∧ i = .int .i64 r ∧ Hid (gridB zs 5 = true) ∧ LsT w wr g (n + 6 + 44 * (m - r)) v zs) (fun _ i _ => (intOf i).toNat)
  case atStart => exact ⟨m, bl, Nat.le_refl _, rfl, HGB, HL4.out.mono (by omega)⟩
  case round =>
    obtain ⟨r, zs, hrm, rfl, hgz, hls⟩ := hrel
    obtain ⟨ad, cp, rfl⟩ := hls.form
    have HL := Lib.hid hls
    clear hls HL4 HGB
    by_cases hlt : 0 < r
    · have hd : decide ((0 : Int) < (r : Int)) = true := by simp; omega
      go_wp2_with fail
      refine (HK.out _ _ HL.out.cur (by omega)).mono ?_
      rintro e w5 ⟨ba, bcp, bz, rfl, hbl, hbt, _, hbr, hbf, hc1, hg1⟩
      have hgw5 : g < w5.heap.size := by have := HL.out.cur.lt; have := hg1.size; omega
      have hgwr : g < wr.heap.size := HL.out.cur.lt
      have HL5 := Lib.hid ((HL.out.step hc1 hg1).alloc (.cells #[.slice ba bz.length bcp] 45))
      have HBR5 := Lib.hid (hbr.below (Go.Joins.below_alloc1 w5 (.cells #[.slice ba bz.length bcp] 45)))
      have HBF := Lib.hid hbf
      have HBX : Hid (RowIs (w5.alloc (.cells #[.slice ba bz.length bcp] 45)) w5.heap.size 45 [.slice ba bz.length bcp]) := Lib.hid (RowIs.new w5 45 [.slice ba bz.length bcp])
      have hltB : w5.heap.size < (w5.alloc (.cells #[.slice ba bz.length bcp] 45)).heap.size := HBX.out.lt
      have cB := HBX.out.cell (j := 0) rfl
      have HLD := Lib.hid HL5.out.dr
      have HZ1 := Lib.hid (grid_len hgz.out)
      have HZ2 := Lib.hid (TxIn.of_grid hgz.out (Nat.le_refl 5))
      have HZ3 := Lib.hid hbt
      clear hc1 hg1 hbr hbf hbt
      go_wp2_with fail
      generalize w5.alloc (.cells #[.slice ba bz.length bcp] 45) = wB at *
      have hneB : w5.heap.size ≠ g := by omega
      go_region_held3 (fun w' => w'.cell? ⟨w5.heap.size, 0, none⟩ = some (.slice ba bz.length bcp))
        (first | exact cB | exact (cell_grownT hg4 hltB hneB).trans cB | exact (cell_grownT hg5 (Nat.lt_of_lt_of_le hltB hg4.size) hneB).trans ((cell_grownT hg4 hltB hneB).trans cB) | exact cell_later hb6 ((cell_grownT hg5 (Nat.lt_of_lt_of_le hltB hg4.size) hneB).trans ((cell_grownT hg4 hltB hneB).trans cB)))
        (first
          | (go_at_call 77; refine (HP.out _ _ 3 hc4 (by omega) (by omega) (by omega)).mono ?_; rintro e w7 ⟨y, rfl, ⟨y1, y2⟩, hc5, hg5⟩)
          | (go_at_call 77; refine (HP.out _ _ 3 HLD.out.cur (by omega) (by omega) (by omega)).mono ?_; rintro e w6 ⟨x, rfl, ⟨x1, x2⟩, hc4, hg4⟩)
          | (go_at_call 34; refine (specLay_any _ _ _ _ zs bz _ _ _ (by omega) (by omega) (by omega) (by omega) (by unfold maxLen; have := HZ1.out; omega) (by unfold maxLen; omega) (fun z hz => by have := HZ2.out z hz; unfold maxLen; omega) (fun z hz => by have := HZ3.out z hz; unfold maxLen; omega) (own_reads ((HLD.out.step hc4 hg4).step hc5 hg5).own) (reads_farT (reads_farT (Reads.drew HBR5.out) hg4 HBF.out (by omega)) hg5 HBF.out (by omega))).mono ?_; rintro e w8 ⟨ad6, cp6, rfl, ho6, hb6⟩))
      have HL7 := Lib.hid ((HLD.out.step hc4 hg4).step hc5 hg5)
      have HL8a := Lib.hid (HL7.out.belo hb6)
      have HL8b := Lib.hid (HL7.out.put hb6 ⟨_, _, rfl⟩ ho6)
      clear hc4 hg4 hc5 hg5 ho6 hb6 cB HL5 HLD HBX HBR5
      cases hok : okW zs bz x y
      · clear hok HL8b
        go_wp2_with fail
        go_roundw
        case rel => exact ⟨r - 1, zs, by omega, by go_num, hgz, HL8a.out.mono (by omega)⟩
        case measure => simp [intOf]; omega
      · have hgn := Lib.hid (okW_grid hok)
        clear hok HL8a
        go_wp2_with fail
        go_roundw
        case rel => exact ⟨r - 1, _, by omega, by go_num, hgn, HL8b.out.mono (by omega)⟩
        case measure => simp [intOf]; omega
    · obtain rfl : r = 0 := by omega
      have HT := Lib.hid (TxIn.of_grid hgz.out (show 5 ≤ 6 by omega))
      have hl5 := grid_len hgz.out
      go_wp2_with fail
      refine (HP.out _ _ 32 HL.out.cur (by omega) (by omega) (by omega)).mono ?_
      rintro e w5 ⟨x, rfl, ⟨x1, x2⟩, hc1, hg1⟩
      have HL5 := Lib.hid (HL.out.step hc1 hg1)
      clear hc1 hg1 HL
      rcases (show x = 0 ∨ x = 1 ∨ 2 ≤ x by omega) with rfl | rfl | hx
      · have q0 : ((0 : Int) == 0) = true := rfl
        go_wp2_with fail
        refine (HO.out _ _ HL5.out.cur (by omega)).mono ?_
        rintro e w6 ⟨t, rfl, ht, hc1, hg1⟩
        have ht1 := HS.out t ht
        have HL6 := Lib.hid (HL5.out.step hc1 hg1)
        clear hc1 hg1 ht
        go_wp2_with (at_builtin; go_must (refine wpList_append_own _ rfl _ _ 31 rfl w.heap.size 9 i0 _ 1 16 Try.underlying31 hi hz0 hz1 hz2 rfl (by decide) _ _ _ rfl (HL6.out.own.alloc _) ⟨w6.heap.size, 0, none⟩ 1 1 [.string t] rfl rfl (World.news_of_block (cs := #[.string t]) (t := 9) (fr := (0, 0)) (heap_alloc_new _ _)) (by simp [Value.oneCell']) (by show zs.length + 1 ≤ maxLen; unfold maxLen; omega) (show (zs.length + 1) * 16 ≤ 140737488355328 by omega) (Nat.le_trans HL6.out.grown.size (by simp)) ?_))
        intro v' w7 hown4 hgrow4 _
        have HL7 := Lib.hid (HL6.out.app hown4 hgrow4)
        obtain ⟨ad7, cp7, hv⟩ := HL7.out.form
        have HD := Lib.hid (DrawnP.of (m := n + 200) (hv ▸ HL7.out) (by rw [len_snocT]; omega) (HT.out.snoc ht1) (by omega))
        rw [hv]
        clear hown4 hgrow4 hv HL7
        rw [len_snocT] at HD ⊢
        go_wp2_with fail
        go_ret
        exact HD.out
      · have q0 : ((1 : Int) == 0) = false := rfl
        have q1 : ((1 : Int) == 1) = true := rfl
        have HD := Lib.hid (DrawnP.of (m := n + 200) (zs := []) (LsT.fresh HL5.out.cur HL5.out.low HL5.out.grown) (by simp) (fun z hz => by cases hz) (by omega))
        go_wp2_with fail
        go_ret
        exact HD.out
      · have q0 : (x == 0) = false := by rw [beq_eq_false_iff_ne]; omega
        have q1 : (x == 1) = false := by rw [beq_eq_false_iff_ne]; omega
        have HD := Lib.hid (DrawnP.of (m := n + 200) HL5.out (by omega) HT.out (by omega))
        go_wp2_with fail
        go_ret
        exact HD.out
end Go.Proofs.Ytenedmkjbmbapaa
