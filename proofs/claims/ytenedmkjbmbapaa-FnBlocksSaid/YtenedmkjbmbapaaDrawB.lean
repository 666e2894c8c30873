/- A block drawn. -/
import Derived.Test.YtenedmkjbmbapaaCurA
import Derived.Test.YtenedmkjbmbapaaBlockS
import Derived.Test.YtenedmkjbmbapaaRebI
namespace Go.Proofs.Ytenedmkjbmbapaa
open Go.RowKit

theorem grown_newT {w w1 w2 : World} {g : Nat} {row : Option Nat} (h : w.grownBy w1 (some g)) (h2 : w1.grownBy w2 row) (hr : ∀ q, row = some q → w.heap.size ≤ q) : w.grownBy w2 (some g) :=
  ⟨h2.os.trans h.os, h2.tape.trans h.tape, h2.output.trans h.output, Nat.le_trans h.size h2.size, fun k hk hne => (h2.block k (Nat.lt_of_lt_of_le hk h.size) (fun e => by have := hr k e.symm; omega)).trans (h.block k hk hne)⟩
/-- a list of texts of the draw's own, and the cursor -/
structure LsT (w wr : World) (g n : Nat) (v : Value) (zs : List ByteArray) : Prop where
  form : ∃ ad cp, v = .slice ad zs.length cp
  own : wr.ownsRow w.heap.size 9 1 v zs.length (strs zs)
  cur : Cur wr g n
  low : g < w.heap.size
  grown : w.grownBy wr (some g)
theorem LsT.step {w wr w2 : World} {g n m : Nat} {v : Value} {zs : List ByteArray} (h : LsT w wr g n v zs) (hc : Cur w2 g m) (hg : wr.grownBy w2 (some g)) : LsT w w2 g m v zs :=
  ⟨h.form, own_kept h.own hg (fun q hq e => by have := (h.own.lt q hq).1; have := h.low; injection e with e; omega), hc, h.low, grownBy_trans h.grown hg⟩
theorem LsT.app {w w2 w3 : World} {g n : Nat} {v v' : Value} {zs : List ByteArray} {c : ByteArray} {o : Obj} (h : LsT w w2 g n v zs) (ho : w3.ownsRow w.heap.size 9 1 v' (zs.length + 1) (strs zs ++ [.string c]))
    (hg : (w2.alloc o).grownBy w3 v.ownBlock) : LsT w w3 g n v' (zs ++ [c]) := by
  have hq : ∀ q, v.ownBlock = some q → w.heap.size ≤ q := fun q hq => (h.own.lt q hq).1
  obtain ⟨g3, c3, hv⟩ := Go.Joins.ownsRow_form ho (by omega)
  refine ⟨⟨some ⟨g3, 0, none⟩, c3, by rw [hv]; simp⟩, by simpa [strs] using ho, (h.cur.alloc o).kept hg (fun q e => by have := hq q e; have := h.low; omega), h.low, grown_newT (grown_alloc h.grown o) hg hq⟩
theorem LsT.mono {w wr : World} {g n m : Nat} {v : Value} {zs : List ByteArray} (h : LsT w wr g n v zs) (hm : n ≤ m) : LsT w wr g m v zs := ⟨h.form, h.own, h.cur.mono hm, h.low, h.grown⟩
theorem LsT.fresh {w wr : World} {g n : Nat} (h : Cur wr g n) (hl : g < w.heap.size) (hg : w.grownBy wr (some g)) : LsT w (wr.alloc (.cells #[] 9)) g n (.slice (some ⟨wr.heap.size, 0, none⟩) 0 0) [] :=
  ⟨⟨_, _, rfl⟩, RowIs.owns (RowIs.new wr 9 ([] : List Value)) (n := 0) (sz := 1) rfl (by unfold maxLen; omega) hg.size, h.alloc _, hl, grown_alloc hg _⟩
theorem len_snocT (zs : List ByteArray) (c : ByteArray) : (zs ++ [c]).length = zs.length + 1 := by simp
theorem LsT.far {w wr : World} {g n : Nat} {ad : Option Addr} {l cp : Nat} {zs : List ByteArray} (h : LsT w wr g n (.slice ad l cp) zs) : ∀ q, ad = some q → w.heap.size ≤ q.block := fun q hq => (h.own.lt q.block (by rw [hq]; rfl)).1
/-- texts that are no longer than m -/
def TxIn (m : Nat) (zs : List ByteArray) : Prop := ∀ z ∈ zs, z.size ≤ m
theorem TxIn.snoc {m : Nat} {zs : List ByteArray} {c : ByteArray} (h : TxIn m zs) (hc : c.size ≤ m) : TxIn m (zs ++ [c]) := fun z hz => by
  rcases List.mem_append.1 hz with h3 | h3
  · exact h z h3
  · rw [List.mem_singleton] at h3; rw [h3]; exact hc
/-- a drawn block, and the cursor behind it -/
def DrawnK (w : World) (g m : Nat) (e : Ending) (w' : World) : Prop := ∃ (ad : Option Addr) (cp : Nat) (zs : List ByteArray), e = .returned (.agg #[.slice ad zs.length cp]) ∧ zs.length ≤ 4 ∧ TxIn 4 zs ∧ zs.length ≤ cp ∧
  Reads w' ad (strs zs) ∧ (∀ q, ad = some q → w.heap.size ≤ q.block) ∧ Cur w' g m ∧ w.grownBy w' (some g)
abbrev lettersL : List ByteArray := [⟨#[97]⟩, ⟨#[97]⟩, ⟨#[98]⟩, ⟨#[99]⟩, ⟨#[46]⟩]
theorem lettersL_size : ∀ z ∈ lettersL, z.size = 1 := by decide +kernel
abbrev oddL : List ByteArray := [⟨#[]⟩, ⟨#[97]⟩, ⟨#[65]⟩, ⟨#[97, 98, 99, 100]⟩]
theorem oddL_size : ∀ z ∈ oddL, z.size ≤ 4 := by decide +kernel
set_option maxRecDepth 100000 in
set_option maxHeartbeats 4000000 in
theorem block_any (g n : Nat) (w : World) (h : Cur w g n) (hn : n ≤ 1040000) : Calls Try.prog 69 #[.pointer (some ⟨g, 0, none⟩)] w (DrawnK w g (n + 40)) := by
  obtain ⟨i0, hi, hz0, hz1, hz2⟩ := info_parts info_string
  have hg := h.lt
  have BX := Lib.hid (RowIs.new w 45 [.slice none 0 0])
  have e0 : (w.alloc (.cells ([.slice none 0 0] : List Value).toArray 45)) = w.alloc (.cells #[.slice none 0 0] 45) := rfl
  rw [e0] at BX
  have HC0 := Lib.hid (h.alloc (.cells #[.slice none 0 0] 45))
  have HG0 := Lib.hid (World.grownBy_alloc w (.cells #[.slice none 0 0] 45) (some g))
  have HP := Lib.hid (fun w n m h hn h1 h2 => pick_any g n m w h hn h1 h2)
  have HO1 := Lib.hid (fun w n h hn => of_lit g n lettersL w h hn (by decide) (by decide) #[.string ⟨#[97]⟩, .string ⟨#[97]⟩, .string ⟨#[98]⟩, .string ⟨#[99]⟩, .string ⟨#[46]⟩] rfl 5 rfl)
  have HO2 := Lib.hid (fun w n h hn => of_lit g n oddL w h hn (by decide) (by decide) #[.string ⟨#[]⟩, .string ⟨#[97]⟩, .string ⟨#[65]⟩, .string ⟨#[97, 98, 99, 100]⟩] rfl 4 rfl)
  have HS1 := Lib.hid lettersL_size
  have HS2 := Lib.hid oddL_size
  clear h e0
  go_enter Try.func69, Try.ntmps69
  go_wp2_with fail
  have hs0 : (w.alloc (.cells #[.slice none 0 0] 45)).heap.size = w.heap.size + 1 := by simp
  generalize w.alloc (.cells #[.slice none 0 0] 45) = w0 at *
  have hgw0 : g < w0.heap.size := by omega
  have hlw : w.heap.size < w0.heap.size := by omega
  clear hs0
  refine (HP.out _ n 3 HC0.out (by omega) (by omega) (by omega)).mono ?_
  rintro e w1 ⟨p, rfl, ⟨p1, p2⟩, hc1, hg1⟩
  obtain ⟨p, rfl⟩ : ∃ m : Nat, p = (m : Int) := ⟨p.toNat, by omega⟩
  have HC1 := Lib.hid hc1
  have HG1 := Lib.hid hg1
  clear hc1 hg1
  go_wp2_with fail
  refine (HP.out _ _ 3 HC1.out (by omega) (by omega) (by omega)).mono ?_
  rintro e w2 ⟨q, rfl, ⟨q1, q2⟩, hc1, hg1⟩
  obtain ⟨q, rfl⟩ : ∃ m : Nat, q = (m : Int) := ⟨q.toNat, by omega⟩
  have HL0 := Lib.hid (LsT.fresh (w := w0) hc1 hgw0 (grownBy_trans HG1.out hg1))
  have BX2 := Lib.hid ((BX.out.grown (grownBy_trans HG1.out hg1) (by intro e; injection e with e; omega)))
  clear hc1 hg1 HC1 HG1 HC0 BX
  go_wp2_with fail
  go_loopw [5, 6] (fun v i wr => ∃ (k : Nat) (zs : List ByteArray), k ≤ p + 1 ∧ i = .int .i64 k ∧ zs.length = k ∧ TxIn 4 zs ∧ LsT w0 wr g (n + 4 + 6 * k) v zs ∧ RowIs wr w.heap.size 45 [.slice none 0 0]) (fun _ i _ => p + 1 - (intOf i).toNat)
  case atStart => exact ⟨0, [], by omega, rfl, rfl, (fun z hz => by cases hz), HL0.out, BX2.out.alloc _⟩
  case round =>
    obtain ⟨k, zs, hk, rfl, rfl, htx, hls, hbox⟩ := hrel
    obtain ⟨ad, cp, rfl⟩ := hls.form
    have HL := Lib.hid hls
    have HTX := Lib.hid htx
    have HBX := Lib.hid hbox
    clear hls htx hbox HL0 BX2
    by_cases hlt : zs.length < p + 1
    · have hd : decide ((zs.length : Int) < 1 + (p : Int)) = true := by simp; omega
      obtain ⟨wo, rfl⟩ : ∃ wo, wo = wr := ⟨wr, rfl⟩
      go_wp2_with fail
      go_loopw [7, 8] (fun x i wr => ∃ (j : Nat) (s : ByteArray), j ≤ q + 1 ∧ i = .int .i64 j ∧ x = .string s ∧ s.size ≤ j ∧ LsT w0 wr g (n + 4 + 6 * zs.length + 2 * j) (.slice ad zs.length cp) zs ∧ RowIs wr w.heap.size 45 [.slice none 0 0]) (fun _ i _ => q + 1 - (intOf i).toNat)
      case atStart => exact ⟨0, ⟨#[]⟩, by omega, rfl, rfl, by decide, HL.out.mono (by omega), HBX.out⟩
      case round =>
        obtain ⟨j, s, hj, rfl, rfl, hsz, hls, hbox⟩ := hrel
        have HM := Lib.hid hls
        have HBM := Lib.hid hbox
        clear hls hbox
        by_cases hjl : j < q + 1
        · have hd2 : decide ((j : Int) < 1 + (q : Int)) = true := by simp; omega
          have hsz2 : s.size ≤ 100 := by omega
          go_wp2_with fail
          refine (HO1.out _ _ HM.out.cur (by omega)).mono ?_
          rintro e w3 ⟨t, rfl, ht, hc1, hg1⟩
          have ht1 := HS1.out t ht
          have HM3 := Lib.hid (HM.out.step hc1 hg1)
          have HB3 := Lib.hid (HBM.out.grown hg1 (by intro e; injection e with e; omega))
          clear hc1 hg1 ht
          go_wp2_with fail
          go_roundw
          case rel => exact ⟨j + 1, _, by omega, by go_num, rfl, by simp; omega, HM3.out.mono (by omega), HB3.out⟩
          case measure => simp [intOf]; omega
        · have hd2 : decide ((j : Int) < 1 + (q : Int)) = false := by simp; omega
          have hs4 : s.size ≤ 4 := by omega
          go_wp2_with (at_builtin; go_must (refine wpList_append_own _ rfl _ _ 31 rfl w0.heap.size 9 i0 _ 1 16 Try.underlying31 hi hz0 hz1 hz2 rfl (by decide) _ _ _ rfl (HM.out.own.alloc _) ⟨wr.heap.size, 0, none⟩ 1 1 [.string s] rfl rfl (World.news_of_block (cs := #[.string s]) (t := 9) (fr := (0, 0)) (heap_alloc_new _ _)) (by simp [Value.oneCell']) (by show zs.length + 1 ≤ maxLen; unfold maxLen; omega) (show (zs.length + 1) * 16 ≤ 140737488355328 by omega) (Nat.le_trans HM.out.grown.size (by simp)) ?_))
          intro v' w4 hown4 hgrow4 _
          have HL4 := Lib.hid (HM.out.app hown4 hgrow4)
          have HB4 := Lib.hid ((HBM.out.alloc (.cells #[.string s] 9)).grown hgrow4 (fun e => by have := (HM.out.own.lt _ e.symm).1; omega))
          obtain ⟨ad4, cp4, hv⟩ := HL4.out.form
          rw [len_snocT] at hv
          have HL5 := Lib.hid (hv ▸ HL4.out)
          have HT5 := Lib.hid (HTX.out.snoc hs4)
          rw [hv]
          clear hown4 hgrow4 hv HL4
          go_wp2_with fail
          go_roundw
          case rel => exact ⟨zs.length + 1, zs ++ [s], by omega, by go_num, len_snocT _ _, HT5.out, HL5.out.mono (by omega), HB4.out⟩
          case measure => simp [intOf]; omega
    · have hd : decide ((zs.length : Int) < 1 + (p : Int)) = false := by simp; omega
      have hl3 : zs.length ≤ 3 := by omega
      go_wp2_with fail
      refine (HP.out _ _ 48 HL.out.cur (by omega) (by omega) (by omega)).mono ?_
      rintro e w5 ⟨x, rfl, ⟨x1, x2⟩, hc1, hg1⟩
      have HL5 := Lib.hid (HL.out.step hc1 hg1)
      have HB5 := Lib.hid (HBX.out.grown hg1 (by intro e; injection e with e; omega))
      clear hc1 hg1 HL HBX
      have fin : ∀ (w6 : World) (m : Nat) (ad : Option Addr) (cp : Nat) (zs : List ByteArray), LsT w0 w6 g m (.slice ad zs.length cp) zs → m ≤ n + 40 → zs.length ≤ 4 → TxIn 4 zs → RowIs w6 w.heap.size 45 [.slice none 0 0] →
          DrawnK w g (n + 40) (.returned (.agg #[.slice ad zs.length cp])) (w6.setCell ⟨w.heap.size, 0, none⟩ (.slice ad zs.length cp)) ∧ (w6.setCell ⟨w.heap.size, 0, none⟩ (.slice ad zs.length cp)).cell? ⟨w.heap.size, 0, none⟩ = some (.slice ad zs.length cp) := by
        intro w6 m ad cp zs hl hm hlen htx hb
        refine ⟨⟨ad, cp, zs, rfl, hlen, htx, own_le hl.own, ?_, fun q hq => by have := hl.far q hq; omega, (hl.cur.set (p := ⟨w.heap.size, 0, none⟩) hg _).mono hm, grown_set (grownBy_trans HG0.out hl.grown) (Nat.le_refl _) _⟩, (hb.set 0 _).cell (j := 0) rfl⟩
        exact (own_reads hl.own).grown (grownBy_setCell w6 _ _) (fun q hq e => by have := hl.far q hq; injection e with e; dsimp only at e; omega)
      have HFIN := Lib.hid fin
      clear fin
      rcases (show x = 0 ∨ x = 1 ∨ 2 ≤ x by omega) with rfl | rfl | hx
      · have q0 : ((0 : Int) == 0) = true := rfl
        go_wp2_with fail
        refine (HO2.out _ _ HL5.out.cur (by omega)).mono ?_
        rintro e w6 ⟨t, rfl, ht, hc1, hg1⟩
        have ht1 := HS2.out t ht
        have HL6 := Lib.hid (HL5.out.step hc1 hg1)
        have HB6 := Lib.hid (HB5.out.grown hg1 (by intro e; injection e with e; omega))
        clear hc1 hg1 ht
        go_wp2_with (at_builtin; go_must (refine wpList_append_own _ rfl _ _ 31 rfl w0.heap.size 9 i0 _ 1 16 Try.underlying31 hi hz0 hz1 hz2 rfl (by decide) _ _ _ rfl (HL6.out.own.alloc _) ⟨w6.heap.size, 0, none⟩ 1 1 [.string t] rfl rfl (World.news_of_block (cs := #[.string t]) (t := 9) (fr := (0, 0)) (heap_alloc_new _ _)) (by simp [Value.oneCell']) (by show zs.length + 1 ≤ maxLen; unfold maxLen; omega) (show (zs.length + 1) * 16 ≤ 140737488355328 by omega) (Nat.le_trans HL6.out.grown.size (by simp)) ?_))
        intro v' w7 hown4 hgrow4 _
        have HL7 := Lib.hid (HL6.out.app hown4 hgrow4)
        have HB7 := Lib.hid ((HB6.out.alloc (.cells #[.string t] 9)).grown hgrow4 (fun e => by have := (HL6.out.own.lt _ e.symm).1; omega))
        obtain ⟨ad7, cp7, hv⟩ := HL7.out.form
        have HL8 := Lib.hid (hv ▸ HL7.out)
        have HT8 := Lib.hid (HTX.out.snoc ht1)
        obtain ⟨us, hus⟩ : ∃ us, us = zs ++ [t] := ⟨_, rfl⟩
        have hul : us.length ≤ 4 := by rw [hus, len_snocT]; omega
        rw [← hus] at HL8 HT8 hv
        rw [hv]
        clear hown4 hgrow4 hv HL7 hus
        have f0 := HB7.out.free 0
        have c0 := HB7.out.cell (j := 0) rfl
        go_wp2_with fail
        obtain ⟨F1, F2⟩ := HFIN.out w7 _ ad7 cp7 us HL8.out (by omega) hul HT8.out HB7.out
        exact bodyPost_ret (v := .agg #[.slice ad7 us.length cp7]) (by simp [results, Try.results69, go_sem, F2]) rfl F1
      · have q0 : ((1 : Int) == 0) = false := rfl
        have q1 : ((1 : Int) == 1) = true := rfl
        have HN := Lib.hid (LsT.fresh HL5.out.cur HL5.out.low HL5.out.grown)
        have HBN := Lib.hid (HB5.out.alloc (.cells #[] 9))
        have f0 := HBN.out.free 0
        have c0 := HBN.out.cell (j := 0) rfl
        go_wp2_with fail
        obtain ⟨F1, F2⟩ := HFIN.out _ _ (some ⟨w5.heap.size, 0, none⟩) 0 [] HN.out (by omega) (by simp) (fun z hz => by cases hz) HBN.out
        have F3 : ((w5.alloc (.cells #[] 9)).setCell ⟨w.heap.size, 0, none⟩ (.slice (some ⟨w5.heap.size, 0, none⟩) 0 0)).cell? ⟨w.heap.size, 0, none⟩ = some (.slice (some ⟨w5.heap.size, 0, none⟩) 0 0) := F2
        exact bodyPost_ret (v := .agg #[.slice (some ⟨w5.heap.size, 0, none⟩) 0 0]) (by simp [results, Try.results69, go_sem, F3]) rfl F1
      · have q0 : (x == 0) = false := by rw [beq_eq_false_iff_ne]; omega
        have q1 : (x == 1) = false := by rw [beq_eq_false_iff_ne]; omega
        have f0 := HB5.out.free 0
        have c0 := HB5.out.cell (j := 0) rfl
        go_wp2_with fail
        obtain ⟨F1, F2⟩ := HFIN.out w5 _ ad cp zs HL5.out (by omega) (by omega) HTX.out HB5.out
        exact bodyPost_ret (v := .agg #[.slice ad zs.length cp]) (by simp [results, Try.results69, go_sem, F2]) rfl F1
end Go.Proofs.Ytenedmkjbmbapaa
