/- CurT, CurD, CurA, DrawB, DrawP, DrawL, DrawR, BlocksP, VText, DrawS, FullS, FullI, FullM, RebQ, RebL in one text. -/
import Derived.Test.YtenedmkjbmbapaaCur
import Derived.Test.YtenedmkjbmbapaaMarkT
import Derived.Test.YtenedmkjbmbapaaBlockS
import Derived.Test.YtenedmkjbmbapaaRebI
import Derived.Test.YtenedmkjbmbapaaLayW
import Derived.Test.YtenedmkjbmbapaaBlankS
import Derived.Deep.RegionHeld3
import Derived.Test.YtenedmkjbmbapaaBlkB
import Derived.Test.YtenedmkjbmbapaaCountM
import Derived.Test.YtenedmkjbmbapaaTextB
import Derived.Test.YtenedmkjbmbapaaPairS
import Derived.ChangeKeysEq
import Derived.Test.YtenedmkjbmbapaaCntS
import Derived.Test.YtenedmkjbmbapaaAskM
import Derived.Test.YtenedmkjbmbapaaFirstI
import Derived.Lib.BufferMore
import Derived.Test.YtenedmkjbmbapaaFirstM
import Derived.Test.YtenedmkjbmbapaaFirstP
namespace Go.Proofs.Ytenedmkjbmbapaa
section
open Go.RowKit

/-- a drawn text, and the cursor behind it -/
def DrawnT (w : World) (g n : Nat) (P : ByteArray → Prop) (e : Ending) (w' : World) : Prop := ∃ t : ByteArray, e = .returned (.string t) ∧ P t ∧ Cur w' g n ∧ w.grownBy w' (some g)
/-- a drawn answer, and the cursor behind it -/
def DrawnB (w : World) (g n : Nat) (e : Ending) (w' : World) : Prop := ∃ b : Bool, e = .returned (.bool b) ∧ Cur w' g n ∧ w.grownBy w' (some g)
theorem of_any (g n cap : Nat) (a : Option Addr) (zs : List ByteArray) (w : World) (h : Cur w g n) (hn : n ≤ 1048570) (h1 : 2 ≤ zs.length) (h2 : zs.length ≤ 200) (hr : Reads w a (strs zs)) (hne : ∀ p, a = some p → p.block ≠ g) :
    Calls Try.prog 95 #[.pointer (some ⟨g, 0, none⟩), .slice a zs.length cap] w (DrawnT w g (n + 2) (fun r => r ∈ zs)) := by
  have H := Lib.hid (pick_any g n (zs.length : Int) w h hn (by omega) (by omega))
  have HR := Lib.hid hr
  have HN := Lib.hid hne
  clear hr hne h
  go_enter Try.func95, Try.ntmps95
  go_wp2_with fail
  refine H.out.mono ?_
  rintro e w1 ⟨x, rfl, ⟨x1, x2⟩, hc1, hg1⟩
  have hr1 := HR.out.grown hg1 (fun p hp => by intro e; injection e with e; exact HN.out p hp e)
  obtain ⟨k, rfl⟩ : ∃ k : Nat, x = (k : Int) := ⟨x.toNat, by omega⟩
  have hk : k < zs.length := by omega
  rcases hr1 with h0 | ⟨b, off, rfl, hb, hc⟩
  · simp [strs] at h0; subst h0; simp at hk
  have hc2 := hc k _ (strs_get hk)
  have HC := Lib.hid hc1
  have HG := Lib.hid hg1
  have HM := Lib.hid (List.getElem_mem hk)
  clear hc hc1 hg1
  go_wp2_with fail
  go_ret
  exact ⟨_, rfl, HM.out, HC.out, HG.out⟩
theorem one_any (g n : Nat) (m : Int) (w : World) (h : Cur w g n) (hn : n ≤ 1048570) (h1 : 2 ≤ m) (h2 : m ≤ 65536) :
    Calls Try.prog 101 #[.pointer (some ⟨g, 0, none⟩), .int .i64 m] w (DrawnB w g (n + 2)) := by
  have H := Lib.hid (pick_any g n m w h hn h1 h2)
  clear h
  go_enter Try.func101, Try.ntmps101
  go_wp2_with fail
  refine H.out.mono ?_
  rintro e w1 ⟨x, rfl, ⟨x1, x2⟩, hc1, hg1⟩
  have HC := Lib.hid hc1
  have HG := Lib.hid hg1
  clear hc1 hg1
  go_wp2_with fail
  go_ret
  exact ⟨_, rfl, HC.out, HG.out⟩
end
section
open Go.RowKit

theorem cur_newT {w : World} {a : Option Addr} {cs : List Int} (cap : Nat) (hm : cs.length ≤ maxLen) (hr : Reads w a (bytesV cs)) (hz : ∀ z ∈ cs, 0 ≤ z ∧ z ≤ 255):
    Cur (w.alloc (.cells #[.slice a cs.length cap, .int .i64 0, .int .u64 0] 92)) w.heap.size 0 :=
  ⟨a, cap, 0, 0, cs, RowIs.new w 92 [.slice a cs.length cap, .int .i64 0, .int .u64 0], Nat.le_refl _, hm, hz, hr.below (Go.Joins.below_alloc1 w _), by
    rcases hr with h0 | ⟨b, off, rfl, hb, _⟩
    · left; simpa [bytesV] using h0
    · right; intro q hq; injection hq with hq; rw [← hq]; exact hb⟩
theorem below_curT {w w' : World} {o : Obj} (h : (w.alloc o).grownBy w' (some w.heap.size)) : Below w.heap.size w w' :=
  (Go.Joins.below_alloc1 w o).grown h (by simp) (fun q hq => by injection hq with hq; omega)
/-- 'c.of([]string{..})': the list is built first -/
theorem of_lit (g n : Nat) (zs : List ByteArray) (w : World) (h : Cur w g n) (hn : n ≤ 1048570) (h1 : 2 ≤ zs.length) (h2 : zs.length ≤ 200) (os : Array Value) (ho : os = (strs zs).toArray) (k : Nat) (hk : k = zs.length) :
    Calls Try.prog 95 #[.pointer (some ⟨g, 0, none⟩), .slice (some ⟨w.heap.size, 0, none⟩) k k] (w.alloc (.cells os 9)) (DrawnT w g (n + 2) (fun t => t ∈ zs)) := by
  subst ho; subst hk
  have hb := Go.Joins.below_alloc1 w (.cells (strs zs).toArray 9)
  have H0 := of_any g n zs.length (some ⟨w.heap.size, 0, none⟩) zs (w.alloc (.cells (strs zs).toArray 9)) (h.below hb) hn h1 h2 (RowIs.new w 9 (strs zs)).reads
    (fun p hp => by injection hp with hp; rw [← hp]; exact Nat.ne_of_gt h.lt)
  exact H0.mono fun _ _ ⟨t, e, ht, hc, hg⟩ => ⟨t, e, ht, hc, grownBy_trans (World.grownBy_alloc w _ (some g)) hg⟩
end
section
open Go.RowKit

/-- 'c.among([]int{..})': the list is built first -/
theorem among_lit (g n : Nat) (zs : List Int) (w : World) (h : Cur w g n) (hn : n ≤ 1048570) (h1 : 2 ≤ zs.length) (h2 : zs.length ≤ 200) (os : Array Value) (ho : os = (ints zs).toArray) (k : Nat) (hk : k = zs.length) :
    Calls Try.prog 80 #[.pointer (some ⟨g, 0, none⟩), .slice (some ⟨w.heap.size, 0, none⟩) k k] (w.alloc (.cells os 3)) (Drawn w g (n + 2) (fun t => t ∈ zs)) := by
  subst ho; subst hk
  have hb := Go.Joins.below_alloc1 w (.cells (ints zs).toArray 3)
  have H0 := among_any g n zs.length (some ⟨w.heap.size, 0, none⟩) zs (w.alloc (.cells (ints zs).toArray 3)) (h.below hb) hn h1 h2 (RowIs.new w 3 (ints zs)).reads
    (fun p hp => by injection hp with hp; rw [← hp]; exact Nat.ne_of_gt h.lt)
  exact H0.mono fun _ _ ⟨t, e, ht, hc, hg⟩ => ⟨t, e, ht, hc, grownBy_trans (World.grownBy_alloc w _ (some g)) hg⟩
theorem grown_set {w w' : World} {row : Option Nat} {p : Addr} (h : w.grownBy w' row) (hp : w.heap.size ≤ p.block) (v : Value) : w.grownBy (w'.setCell p v) row :=
  ⟨h.os, h.tape, h.output, Nat.le_trans h.size (by simp), fun k hk hne => (Below.heap_setCell w' p v k (by omega)).trans (h.block k hk hne)⟩
theorem grown_alloc {w w' : World} {row : Option Nat} (h : w.grownBy w' row) (o : Obj) : w.grownBy (w'.alloc o) row := grownBy_trans h (World.grownBy_alloc w' o row)
theorem grown_below {w w' w'' : World} {row : Option Nat} (h : w.grownBy w' row) (hb : Below w'.heap.size w' w'') : w.grownBy w'' row := grownBy_trans h (below_grown' hb row)
theorem Cur.set {w : World} {g n : Nat} (h : Cur w g n) {p : Addr} (hp : g < p.block) (v : Value) : Cur (w.setCell p v) g n := h.kept (grownBy_setCell w p v) (fun q hq => by injection hq with hq; omega)
theorem Cur.alloc {w : World} {g n : Nat} (h : Cur w g n) (o : Obj) : Cur (w.alloc o) g n := h.below (Go.Joins.below_alloc1 w o)
end
section
open Go.RowKit

theorem grown_newT {w w1 w2 : World} {g : Nat} {row : Option Nat} (h : w.grownBy w1 (some g)) (h2 : w1.grownBy w2 row) (hr : ∀ q, row = some q → w.heap.size ≤ q) : w.grownBy w2 (some g) :=
  ⟨h2.os.trans h.os, h2.tape.trans h.tape, h2.output.trans h.output, Nat.le_trans h.size h2.size, fun k hk hne => (h2.block k (Nat.lt_of_lt_of_le hk h.size) (fun e => by have := hr k e.symm; omega)).trans (h.block k hk hne)⟩
/-- a list of texts of the draw's own, and the cursor -/
structure LsT (w wr : World) (g n : Nat) (v : Value) (zs : List ByteArray) : Prop where
  form : ∃ ad cp, v = .slice ad zs.length cp
  own : wr.ownsRow w.heap.size 9 1 v zs.length (strs zs)
  cur : Cur wr g n
  low : g < w.heap.size
  grown : w.grownBy wr (some g)
theorem LsT.step {w wr w2 : World} {g n m : Nat} {v : Value} {zs : List ByteArray} (h : LsT w wr g n v zs) (hc : Cur w2 g m) (hg : wr.grownBy w2 (some g)) : LsT w w2 g m v zs :=
  ⟨h.form, own_kept h.own hg (fun q hq e => by have := (h.own.lt q hq).1; have := h.low; injection e with e; omega), hc, h.low, grownBy_trans h.grown hg⟩
theorem LsT.app {w w2 w3 : World} {g n : Nat} {v v' : Value} {zs : List ByteArray} {c : ByteArray} {o : Obj} (h : LsT w w2 g n v zs) (ho : w3.ownsRow w.heap.size 9 1 v' (zs.length + 1) (strs zs ++ [.string c]))
    (hg : (w2.alloc o).grownBy w3 v.ownBlock) : LsT w w3 g n v' (zs ++ [c]) := by
  have hq : ∀ q, v.ownBlock = some q → w.heap.size ≤ q := fun q hq => (h.own.lt q hq).1
  obtain ⟨g3, c3, hv⟩ := Go.Joins.ownsRow_form ho (by omega)
  refine ⟨⟨some ⟨g3, 0, none⟩, c3, by rw [hv]; simp⟩, by simpa [strs] using ho, (h.cur.alloc o).kept hg (fun q e => by have := hq q e; have := h.low; omega), h.low, grown_newT (grown_alloc h.grown o) hg hq⟩
theorem LsT.mono {w wr : World} {g n m : Nat} {v : Value} {zs : List ByteArray} (h : LsT w wr g n v zs) (hm : n ≤ m) : LsT w wr g m v zs := ⟨h.form, h.own, h.cur.mono hm, h.low, h.grown⟩
theorem LsT.fresh {w wr : World} {g n : Nat} (h : Cur wr g n) (hl : g < w.heap.size) (hg : w.grownBy wr (some g)) : LsT w (wr.alloc (.cells #[] 9)) g n (.slice (some ⟨wr.heap.size, 0, none⟩) 0 0) [] :=
  ⟨⟨_, _, rfl⟩, RowIs.owns (RowIs.new wr 9 ([] : List Value)) (n := 0) (sz := 1) rfl (by unfold maxLen; omega) hg.size, h.alloc _, hl, grown_alloc hg _⟩
theorem len_snocT (zs : List ByteArray) (c : ByteArray) : (zs ++ [c]).length = zs.length + 1 := by simp
theorem LsT.far {w wr : World} {g n : Nat} {ad : Option Addr} {l cp : Nat} {zs : List ByteArray} (h : LsT w wr g n (.slice ad l cp) zs) : ∀ q, ad = some q → w.heap.size ≤ q.block := fun q hq => (h.own.lt q.block (by rw [hq]; rfl)).1
/-- texts that are no longer than m -/
def TxIn (m : Nat) (zs : List ByteArray) : Prop := ∀ z ∈ zs, z.size ≤ m
theorem TxIn.snoc {m : Nat} {zs : List ByteArray} {c : ByteArray} (h : TxIn m zs) (hc : c.size ≤ m) : TxIn m (zs ++ [c]) := fun z hz => by
  rcases List.mem_append.1 hz with h3 | h3
  · exact h z h3
  · rw [List.mem_singleton] at h3; rw [h3]; exact hc
/-- a drawn block, and the cursor behind it -/
def DrawnK (w : World) (g m : Nat) (e : Ending) (w' : World) : Prop := ∃ (ad : Option Addr) (cp : Nat) (zs : List ByteArray), e = .returned (.agg #[.slice ad zs.length cp]) ∧ zs.length ≤ 4 ∧ TxIn 4 zs ∧ zs.length ≤ cp ∧
  w'.ownsRow w.heap.size 9 1 (.slice ad zs.length cp) zs.length (strs zs) ∧ (∀ q, ad = some q → w.heap.size ≤ q.block) ∧ Cur w' g m ∧ w.grownBy w' (some g)
abbrev lettersL : List ByteArray := [⟨#[97]⟩, ⟨#[97]⟩, ⟨#[98]⟩, ⟨#[99]⟩, ⟨#[46]⟩]
theorem lettersL_size : ∀ z ∈ lettersL, z.size = 1 := by decide +kernel
abbrev oddL : List ByteArray := [⟨#[]⟩, ⟨#[97]⟩, ⟨#[65]⟩, ⟨#[97, 98, 99, 100]⟩]
theorem oddL_size : ∀ z ∈ oddL, z.size ≤ 4 := by decide +kernel
set_option maxRecDepth 100000 in
set_option maxHeartbeats 4000000 in
theorem block_any (g n : Nat) (w : World) (h : Cur w g n) (hn : n ≤ 1040000) : Calls Try.prog 69 #[.pointer (some ⟨g, 0, none⟩)] w (DrawnK w g (n + 40)) := by
  obtain ⟨i0, hi, hz0, hz1, hz2⟩ := info_parts info_string
  have hg := h.lt
  have BX := Lib.hid (RowIs.new w 45 [.slice none 0 0])
  have e0 : (w.alloc (.cells ([.slice none 0 0] : List Value).toArray 45)) = w.alloc (.cells #[.slice none 0 0] 45) := rfl
  rw [e0] at BX
  have HC0 := Lib.hid (h.alloc (.cells #[.slice none 0 0] 45))
  have HG0 := Lib.hid (World.grownBy_alloc w (.cells #[.slice none 0 0] 45) (some g))
  have HP := Lib.hid (fun w n m h hn h1 h2 => pick_any g n m w h hn h1 h2)
  have HO1 := Lib.hid (fun w n h hn => of_lit g n lettersL w h hn (by decide) (by decide) #[.string ⟨#[97]⟩, .string ⟨#[97]⟩, .string ⟨#[98]⟩, .string ⟨#[99]⟩, .string ⟨#[46]⟩] rfl 5 rfl)
  have HO2 := Lib.hid (fun w n h hn => of_lit g n oddL w h hn (by decide) (by decide) #[.string ⟨#[]⟩, .string ⟨#[97]⟩, .string ⟨#[65]⟩, .string ⟨#[97, 98, 99, 100]⟩] rfl 4 rfl)
  have HS1 := Lib.hid lettersL_size
  have HS2 := Lib.hid oddL_size
  clear h e0
  go_enter Try.func69, Try.ntmps69
  go_wp2_with fail
  have hs0 : (w.alloc (.cells #[.slice none 0 0] 45)).heap.size = w.heap.size + 1 := by simp
  generalize w.alloc (.cells #[.slice none 0 0] 45) = w0 at *
  have hgw0 : g < w0.heap.size := by omega
  have hlw : w.heap.size < w0.heap.size := by omega
  clear hs0
  refine (HP.out _ n 3 HC0.out (by omega) (by omega) (by omega)).mono ?_
  rintro e w1 ⟨p, rfl, ⟨p1, p2⟩, hc1, hg1⟩
  obtain ⟨p, rfl⟩ : ∃ m : Nat, p = (m : Int) := ⟨p.toNat, by omega⟩
  have HC1 := Lib.hid hc1
  have HG1 := Lib.hid hg1
  clear hc1 hg1
  go_wp2_with fail
  refine (HP.out _ _ 3 HC1.out (by omega) (by omega) (by omega)).mono ?_
  rintro e w2 ⟨q, rfl, ⟨q1, q2⟩, hc1, hg1⟩
  obtain ⟨q, rfl⟩ : ∃ m : Nat, q = (m : Int) := ⟨q.toNat, by omega⟩
  have HL0 := Lib.hid (LsT.fresh (w := w0) hc1 hgw0 (grownBy_trans HG1.out hg1))
  have BX2 := Lib.hid ((BX.out.grown (grownBy_trans HG1.out hg1) (by intro e; injection e with e; omega)))
  clear hc1 hg1 HC1 HG1 HC0 BX
  go_wp2_with fail
  go_loopw [5, 6] (fun v i wr => ∃ (k : Nat) (zs : List ByteArray), k ≤ p + 1 ∧ i = .int .i64 k ∧ zs.length = k ∧ TxIn 4 zs ∧ LsT w0 wr g (n + 4 + 6 * k) v zs ∧ RowIs wr w.heap.size 45 [.slice none 0 0]) (fun _ i _ => p + 1 - (intOf i).toNat)
  case atStart => exact ⟨0, [], by omega, rfl, rfl, (fun z hz => by cases hz), HL0.out, BX2.out.alloc _⟩
  case round =>
    obtain ⟨k, zs, hk, rfl, rfl, htx, hls, hbox⟩ := hrel
    obtain ⟨ad, cp, rfl⟩ := hls.form
    have HL := Lib.hid hls
    have HTX := Lib.hid htx
    have HBX := Lib.hid hbox
    clear hls htx hbox HL0 BX2
    by_cases hlt : zs.length < p + 1
    · have hd : decide ((zs.length : Int) < 1 + (p : Int)) = true := by simp; omega
      obtain ⟨wo, rfl⟩ : ∃ wo, wo = wr := ⟨wr, rfl⟩
      go_wp2_with fail
      go_loopw [7, 8] (fun x i wr => ∃ (j : Nat) (s : ByteArray), j ≤ q + 1 ∧ i = .int .i64 j ∧ x = .string s ∧ s.size ≤ j ∧ LsT w0 wr g (n + 4 + 6 * zs.length + 2 * j) (.slice ad zs.length cp) zs ∧ RowIs wr w.heap.size 45 [.slice none 0 0]) (fun _ i _ => q + 1 - (intOf i).toNat)
      case atStart => exact ⟨0, ⟨#[]⟩, by omega, rfl, rfl, by decide, HL.out.mono (by omega), HBX.out⟩
      case round =>
        obtain ⟨j, s, hj, rfl, rfl, hsz, hls, hbox⟩ := hrel
        have HM := Lib.hid hls
        have HBM := Lib.hid hbox
        clear hls hbox
        by_cases hjl : j < q + 1
        · have hd2 : decide ((j : Int) < 1 + (q : Int)) = true := by simp; omega
          have hsz2 : s.size ≤ 100 := by omega
          go_wp2_with fail
          refine (HO1.out _ _ HM.out.cur (by omega)).mono ?_
          rintro e w3 ⟨t, rfl, ht, hc1, hg1⟩
          have ht1 := HS1.out t ht
          have HM3 := Lib.hid (HM.out.step hc1 hg1)
          have HB3 := Lib.hid (HBM.out.grown hg1 (by intro e; injection e with e; omega))
          clear hc1 hg1 ht
          go_wp2_with fail
          go_roundw
          case rel => exact ⟨j + 1, _, by omega, by go_num, rfl, by simp; omega, HM3.out.mono (by omega), HB3.out⟩
          case measure => simp [intOf]; omega
        · have hd2 : decide ((j : Int) < 1 + (q : Int)) = false := by simp; omega
          have hs4 : s.size ≤ 4 := by omega
          go_wp2_with (at_builtin; go_must (refine wpList_append_own _ rfl _ _ 31 rfl w0.heap.size 9 i0 _ 1 16 Try.underlying31 hi hz0 hz1 hz2 rfl (by decide) _ _ _ rfl (HM.out.own.alloc _) ⟨wr.heap.size, 0, none⟩ 1 1 [.string s] rfl rfl (World.news_of_block (cs := #[.string s]) (t := 9) (fr := (0, 0)) (heap_alloc_new _ _)) (by simp [Value.oneCell']) (by show zs.length + 1 ≤ maxLen; unfold maxLen; omega) (show (zs.length + 1) * 16 ≤ 140737488355328 by omega) (Nat.le_trans HM.out.grown.size (by simp)) ?_))
          intro v' w4 hown4 hgrow4 _
          have HL4 := Lib.hid (HM.out.app hown4 hgrow4)
          have HB4 := Lib.hid ((HBM.out.alloc (.cells #[.string s] 9)).grown hgrow4 (fun e => by have := (HM.out.own.lt _ e.symm).1; omega))
          obtain ⟨ad4, cp4, hv⟩ := HL4.out.form
          rw [len_snocT] at hv
          have HL5 := Lib.hid (hv ▸ HL4.out)
          have HT5 := Lib.hid (HTX.out.snoc hs4)
          rw [hv]
          clear hown4 hgrow4 hv HL4
          go_wp2_with fail
          go_roundw
          case rel => exact ⟨zs.length + 1, zs ++ [s], by omega, by go_num, len_snocT _ _, HT5.out, HL5.out.mono (by omega), HB4.out⟩
          case measure => simp [intOf]; omega
    · have hd : decide ((zs.length : Int) < 1 + (p : Int)) = false := by simp; omega
      have hl3 : zs.length ≤ 3 := by omega
      go_wp2_with fail
      refine (HP.out _ _ 48 HL.out.cur (by omega) (by omega) (by omega)).mono ?_
      rintro e w5 ⟨x, rfl, ⟨x1, x2⟩, hc1, hg1⟩
      have HL5 := Lib.hid (HL.out.step hc1 hg1)
      have HB5 := Lib.hid (HBX.out.grown hg1 (by intro e; injection e with e; omega))
      clear hc1 hg1 HL HBX
      have fin : ∀ (w6 : World) (m : Nat) (ad : Option Addr) (cp : Nat) (zs : List ByteArray), LsT w0 w6 g m (.slice ad zs.length cp) zs → m ≤ n + 40 → zs.length ≤ 4 → TxIn 4 zs → RowIs w6 w.heap.size 45 [.slice none 0 0] →
          DrawnK w g (n + 40) (.returned (.agg #[.slice ad zs.length cp])) (w6.setCell ⟨w.heap.size, 0, none⟩ (.slice ad zs.length cp)) ∧ (w6.setCell ⟨w.heap.size, 0, none⟩ (.slice ad zs.length cp)).cell? ⟨w.heap.size, 0, none⟩ = some (.slice ad zs.length cp) := by
        intro w6 m ad cp zs hl hm hlen htx hb
        refine ⟨⟨ad, cp, zs, rfl, hlen, htx, own_le hl.own, ?_, fun q hq => by have := hl.far q hq; omega, (hl.cur.set (p := ⟨w.heap.size, 0, none⟩) hg _).mono hm, grown_set (grownBy_trans HG0.out hl.grown) (Nat.le_refl _) _⟩, (hb.set 0 _).cell (j := 0) rfl⟩
        exact own_kept (World.ownsRow.mono hl.own (Nat.le_of_lt hlw)) (grownBy_setCell w6 _ _) (fun q hq e => by have := (hl.own.lt q hq).1; injection e with e; dsimp only at e; omega)
      have HFIN := Lib.hid fin
      clear fin
      rcases (show x = 0 ∨ x = 1 ∨ 2 ≤ x by omega) with rfl | rfl | hx
      · have q0 : ((0 : Int) == 0) = true := rfl
        go_wp2_with fail
        refine (HO2.out _ _ HL5.out.cur (by omega)).mono ?_
        rintro e w6 ⟨t, rfl, ht, hc1, hg1⟩
        have ht1 := HS2.out t ht
        have HL6 := Lib.hid (HL5.out.step hc1 hg1)
        have HB6 := Lib.hid (HB5.out.grown hg1 (by intro e; injection e with e; omega))
        clear hc1 hg1 ht
        go_wp2_with (at_builtin; go_must (refine wpList_append_own _ rfl _ _ 31 rfl w0.heap.size 9 i0 _ 1 16 Try.underlying31 hi hz0 hz1 hz2 rfl (by decide) _ _ _ rfl (HL6.out.own.alloc _) ⟨w6.heap.size, 0, none⟩ 1 1 [.string t] rfl rfl (World.news_of_block (cs := #[.string t]) (t := 9) (fr := (0, 0)) (heap_alloc_new _ _)) (by simp [Value.oneCell']) (by show zs.length + 1 ≤ maxLen; unfold maxLen; omega) (show (zs.length + 1) * 16 ≤ 140737488355328 by omega) (Nat.le_trans HL6.out.grown.size (by simp)) ?_))
        intro v' w7 hown4 hgrow4 _
        have HL7 := Lib.hid (HL6.out.app hown4 hgrow4)
        have HB7 := Lib.hid ((HB6.out.alloc (.cells #[.string t] 9)).grown hgrow4 (fun e => by have := (HL6.out.own.lt _ e.symm).1; omega))
        obtain ⟨ad7, cp7, hv⟩ := HL7.out.form
        have HL8 := Lib.hid (hv ▸ HL7.out)
        have HT8 := Lib.hid (HTX.out.snoc ht1)
        obtain ⟨us, hus⟩ : ∃ us, us = zs ++ [t] := ⟨_, rfl⟩
        have hul : us.length ≤ 4 := by rw [hus, len_snocT]; omega
        rw [← hus] at HL8 HT8 hv
        rw [hv]
        clear hown4 hgrow4 hv HL7 hus
        have f0 := HB7.out.free 0
        have c0 := HB7.out.cell (j := 0) rfl
        go_wp2_with fail
        obtain ⟨F1, F2⟩ := HFIN.out w7 _ ad7 cp7 us HL8.out (by omega) hul HT8.out HB7.out
        exact bodyPost_ret (v := .agg #[.slice ad7 us.length cp7]) (by simp [results, Try.results69, go_sem, F2]) rfl F1
      · have q0 : ((1 : Int) == 0) = false := rfl
        have q1 : ((1 : Int) == 1) = true := rfl
        have HN := Lib.hid (LsT.fresh HL5.out.cur HL5.out.low HL5.out.grown)
        have HBN := Lib.hid (HB5.out.alloc (.cells #[] 9))
        have f0 := HBN.out.free 0
        have c0 := HBN.out.cell (j := 0) rfl
        go_wp2_with fail
        obtain ⟨F1, F2⟩ := HFIN.out _ _ (some ⟨w5.heap.size, 0, none⟩) 0 [] HN.out (by omega) (by simp) (fun z hz => by cases hz) HBN.out
        have F3 : ((w5.alloc (.cells #[] 9)).setCell ⟨w.heap.size, 0, none⟩ (.slice (some ⟨w5.heap.size, 0, none⟩) 0 0)).cell? ⟨w.heap.size, 0, none⟩ = some (.slice (some ⟨w5.heap.size, 0, none⟩) 0 0) := F2
        exact bodyPost_ret (v := .agg #[.slice (some ⟨w5.heap.size, 0, none⟩) 0 0]) (by simp [results, Try.results69, go_sem, F3]) rfl F1
      · have q0 : (x == 0) = false := by rw [beq_eq_false_iff_ne]; omega
        have q1 : (x == 1) = false := by rw [beq_eq_false_iff_ne]; omega
        have f0 := HB5.out.free 0
        have c0 := HB5.out.cell (j := 0) rfl
        go_wp2_with fail
        obtain ⟨F1, F2⟩ := HFIN.out w5 _ ad cp zs HL5.out (by omega) (by omega) HTX.out HB5.out
        exact bodyPost_ret (v := .agg #[.slice ad zs.length cp]) (by simp [results, Try.results69, go_sem, F2]) rfl F1
end
section
open Go.RowKit

theorem reads_farT {w w' : World} {a : Option Addr} {xs : List Value} {g B : Nat} (h : Reads w a xs) (hg : w.grownBy w' (some g)) (hf : ∀ q, a = some q → B ≤ q.block) (hB : g < B) : Reads w' a xs :=
  h.grown hg (fun q hq e => by have := hf q hq; injection e with e; omega)
theorem cell_grownT {w w' : World} {g b o : Nat} (hg : w.grownBy w' (some g)) (hb : b < w.heap.size) (hne : b ≠ g) : w'.cell? ⟨b, o, none⟩ = w.cell? ⟨b, o, none⟩ :=
  hg.cell_far ⟨b, o, none⟩ hb (fun e => hne (by injection e))
theorem TxIn.of_grid {zs : List ByteArray} {m k : Nat} (h : gridB zs m = true) (hk : m ≤ k) : TxIn k zs := fun z hz => by
  obtain ⟨i, hi, rfl⟩ := List.getElem_of_mem hz
  have := ((gridB_bd h).2.2 i hi).2.2
  rw [rowAt_of hi] at this; omega
theorem grid_len {zs : List ByteArray} {m : Nat} (h : gridB zs m = true) : zs.length ≤ m := (gridB_bd h).2.1
theorem okW_grid {xs ys : List ByteArray} {r c : Int} (h : okW xs ys r c = true) : gridB (layW xs ys r c) 5 = true := by
  simp only [okW, okP, Bool.and_eq_true] at h
  obtain ⟨⟨gx, gy⟩, hf⟩ := h
  rw [layW_of (by simp [okP, gx, gy])]
  obtain ⟨h0, h1, h4, h2, _⟩ := fits_of hf
  obtain ⟨r, rfl⟩ : ∃ n : Nat, r = (n : Int) := ⟨r.toNat, by omega⟩
  obtain ⟨c, rfl⟩ : ∃ n : Nat, c = (n : Int) := ⟨c.toNat, by omega⟩
  rw [layR_of hf]
  exact layF_grid gx gy (by omega)
/-- a drawn sheet, and the cursor behind it -/
def DrawnP (w : World) (g m : Nat) (e : Ending) (w' : World) : Prop := ∃ (ad : Option Addr) (cp : Nat) (zs : List ByteArray), e = .returned (.slice ad zs.length cp) ∧ zs.length ≤ 6 ∧ TxIn 6 zs ∧ zs.length ≤ cp ∧
  Reads w' ad (strs zs) ∧ (∀ q, ad = some q → w.heap.size ≤ q.block) ∧ Cur w' g m ∧ w.grownBy w' (some g)
theorem DrawnP.of {w wr : World} {g n m : Nat} {ad : Option Addr} {cp : Nat} {zs : List ByteArray} (h : LsT w wr g n (.slice ad zs.length cp) zs) (h1 : zs.length ≤ 6) (h2 : TxIn 6 zs) (hm : n ≤ m) : DrawnP w g m (.returned (.slice ad zs.length cp)) wr :=
  ⟨ad, cp, zs, rfl, h1, h2, own_le h.own, own_reads h.own, h.far, h.cur.mono hm, h.grown⟩
theorem LsT.dr {w wr : World} {g n : Nat} {v : Value} {zs : List ByteArray} (h : LsT w wr g n v zs) : LsT w wr.drew g n v zs := h.step (h.cur.dr 1) (below_grown' (Dr.below (Dr.of wr 1) _) _)
theorem LsT.alloc {w wr : World} {g n : Nat} {v : Value} {zs : List ByteArray} (h : LsT w wr g n v zs) (o : Obj) : LsT w (wr.alloc o) g n v zs := h.step (h.cur.alloc o) (World.grownBy_alloc wr o _)
theorem LsT.put {w wr w2 : World} {g n : Nat} {v v2 : Value} {zs ys : List ByteArray} (h : LsT w wr g n v zs) (hb : Below wr.heap.size wr w2) (hf : ∃ ad cp, v2 = .slice ad ys.length cp) (ho : w2.ownsRow wr.heap.size 9 1 v2 ys.length (strs ys)) : LsT w w2 g n v2 ys :=
  ⟨hf, World.ownsRow.mono ho h.grown.size, h.cur.below hb, h.low, grown_below h.grown hb⟩
theorem LsT.belo {w wr w2 : World} {g n : Nat} {v : Value} {zs : List ByteArray} (h : LsT w wr g n v zs) (hb : Below wr.heap.size wr w2) : LsT w w2 g n v zs :=
  h.step (h.cur.below hb) (below_grown' hb _)
abbrev oddS : List ByteArray := [⟨#[]⟩, ⟨#[97, 97, 97, 97, 97, 97]⟩, ⟨#[46]⟩]
theorem oddS_size : ∀ z ∈ oddS, z.size ≤ 6 := by decide +kernel
set_option maxRecDepth 100000 in
set_option maxHeartbeats 4000000 in
theorem plateSheet_any (g n : Nat) (w : World) (h : Cur w g n) (hn : n ≤ 1030000) : Calls Try.prog 68 #[.pointer (some ⟨g, 0, none⟩)] w (DrawnP w g (n + 200)) := by
  obtain ⟨i0, hi, hz0, hz1, hz2⟩ := info_parts info_string
  have hg := h.lt
  have HC0 := Lib.hid h
  have HP := Lib.hid (fun w n m h hn h1 h2 => pick_any g n m w h hn h1 h2)
  have HK := Lib.hid (fun w n h hn => block_any g n w h hn)
  have HO := Lib.hid (fun w n h hn => of_lit g n oddS w h hn (by decide) (by decide) #[.string ⟨#[]⟩, .string ⟨#[97, 97, 97, 97, 97, 97]⟩, .string ⟨#[46]⟩] rfl 3 rfl)
  have HS := Lib.hid oddS_size
  clear h
  go_enter Try.func68, Try.ntmps68
  go_wp2_with fail
  refine (HP.out _ n 5 HC0.out (by omega) (by omega) (by omega)).mono ?_
  rintro e w1 ⟨p, rfl, ⟨p1, p2⟩, hc1, hg1⟩
  obtain ⟨p, rfl⟩ : ∃ m : Nat, p = (m : Int) := ⟨p.toNat, by omega⟩
  have HC1 := Lib.hid hc1
  have HG1 := Lib.hid hg1
  clear hc1 hg1
  go_wp2_with fail
  refine (HP.out _ _ 5 HC1.out (by omega) (by omega) (by omega)).mono ?_
  rintro e w2 ⟨q, rfl, ⟨q1, q2⟩, hc1, hg1⟩
  obtain ⟨q, rfl⟩ : ∃ m : Nat, q = (m : Int) := ⟨q.toNat, by omega⟩
  have HC2 := Lib.hid hc1
  have HG2 := Lib.hid (grownBy_trans HG1.out hg1)
  have HBL := l4Blank_any (p + 1) (q + 1) w2 (by omega) (by omega)
  rw [show ((p + 1 : Nat) : Int) = 1 + (p : Int) by omega, show ((q + 1 : Nat) : Int) = 1 + (q : Int) by omega] at HBL
  have HGB := Lib.hid (blankS_grid (r := p + 1) (c := q + 1) (by omega) (by omega) (by omega) (by omega))
  generalize blankS (p + 1) (q + 1) = bl at *
  have HBLK := Lib.hid HBL
  clear hc1 hg1 HC1 HG1 HBL
  go_wp2_with fail
  refine HBLK.out.mono ?_
  rintro e w3 ⟨ad, cp, rfl, hown, hb⟩
  have HL3 := Lib.hid (show LsT w w3 g (n + 2 + 2) (.slice ad bl.length cp) bl from ⟨⟨_, _, rfl⟩, World.ownsRow.mono hown HG2.out.size, HC2.out.below hb, hg, grown_below HG2.out hb⟩)
  clear hown hb HC2 HBLK HG2
  go_wp2_with fail
  refine (HP.out _ _ 4 HL3.out.cur (by omega) (by omega) (by omega)).mono ?_
  rintro e w4 ⟨m, rfl, ⟨m1, m2⟩, hc1, hg1⟩
  obtain ⟨m, rfl⟩ : ∃ k : Nat, m = (k : Int) := ⟨m.toNat, by omega⟩
  have HL4 := Lib.hid (HL3.out.step hc1 hg1)
  clear hc1 hg1 HL3
  go_wp2_with fail
  go_loopw [3, 4] (fun v i wr => ∃ (r : Nat) (zs : List ByteArray), r ≤ m ∧ i = .int .i64 r ∧ Hid (gridB zs 5 = true) ∧ LsT w wr g (n + 6 + 44 * (m - r)) v zs) (fun _ i _ => (intOf i).toNat)
  case atStart => exact ⟨m, bl, Nat.le_refl _, rfl, HGB, HL4.out.mono (by omega)⟩
  case round =>
    obtain ⟨r, zs, hrm, rfl, hgz, hls⟩ := hrel
    obtain ⟨ad, cp, rfl⟩ := hls.form
    have HL := Lib.hid hls
    clear hls HL4 HGB
    by_cases hlt : 0 < r
    · have hd : decide ((0 : Int) < (r : Int)) = true := by simp; omega
      go_wp2_with fail
      refine (HK.out _ _ HL.out.cur (by omega)).mono ?_
      rintro e w5 ⟨ba, bcp, bz, rfl, hbl, hbt, _, hbr, hbf, hc1, hg1⟩
      have hgw5 : g < w5.heap.size := by have := HL.out.cur.lt; have := hg1.size; omega
      have hgwr : g < wr.heap.size := HL.out.cur.lt
      have HL5 := Lib.hid ((HL.out.step hc1 hg1).alloc (.cells #[.slice ba bz.length bcp] 45))
      have HBR5 := Lib.hid ((own_reads hbr).below (Go.Joins.below_alloc1 w5 (.cells #[.slice ba bz.length bcp] 45)))
      have HBF := Lib.hid hbf
      have HBX : Hid (RowIs (w5.alloc (.cells #[.slice ba bz.length bcp] 45)) w5.heap.size 45 [.slice ba bz.length bcp]) := Lib.hid (RowIs.new w5 45 [.slice ba bz.length bcp])
      have hltB : w5.heap.size < (w5.alloc (.cells #[.slice ba bz.length bcp] 45)).heap.size := HBX.out.lt
      have cB := HBX.out.cell (j := 0) rfl
      have HLD := Lib.hid HL5.out.dr
      have HZ1 := Lib.hid (grid_len hgz.out)
      have HZ2 := Lib.hid (TxIn.of_grid hgz.out (Nat.le_refl 5))
      have HZ3 := Lib.hid hbt
      clear hc1 hg1 hbr hbf hbt
      go_wp2_with fail
      generalize w5.alloc (.cells #[.slice ba bz.length bcp] 45) = wB at *
      have hneB : w5.heap.size ≠ g := by omega
      go_region_held3 (fun w' => w'.cell? ⟨w5.heap.size, 0, none⟩ = some (.slice ba bz.length bcp))
        (first | exact cB | exact (cell_grownT hg4 hltB hneB).trans cB | exact (cell_grownT hg5 (Nat.lt_of_lt_of_le hltB hg4.size) hneB).trans ((cell_grownT hg4 hltB hneB).trans cB) | exact cell_later hb6 ((cell_grownT hg5 (Nat.lt_of_lt_of_le hltB hg4.size) hneB).trans ((cell_grownT hg4 hltB hneB).trans cB)))
        (first
          | (go_at_call 77; refine (HP.out _ _ 3 hc4 (by omega) (by omega) (by omega)).mono ?_; rintro e w7 ⟨y, rfl, ⟨y1, y2⟩, hc5, hg5⟩)
          | (go_at_call 77; refine (HP.out _ _ 3 HLD.out.cur (by omega) (by omega) (by omega)).mono ?_; rintro e w6 ⟨x, rfl, ⟨x1, x2⟩, hc4, hg4⟩)
          | (go_at_call 34; refine (specLay_any _ _ _ _ zs bz _ _ _ (by omega) (by omega) (by omega) (by omega) (by unfold maxLen; have := HZ1.out; omega) (by unfold maxLen; omega) (fun z hz => by have := HZ2.out z hz; unfold maxLen; omega) (fun z hz => by have := HZ3.out z hz; unfold maxLen; omega) (own_reads ((HLD.out.step hc4 hg4).step hc5 hg5).own) (reads_farT (reads_farT (Reads.drew HBR5.out) hg4 HBF.out (by omega)) hg5 HBF.out (by omega))).mono ?_; rintro e w8 ⟨ad6, cp6, rfl, ho6, hb6⟩))
      have HL7 := Lib.hid ((HLD.out.step hc4 hg4).step hc5 hg5)
      have HL8a := Lib.hid (HL7.out.belo hb6)
      have HL8b := Lib.hid (HL7.out.put hb6 ⟨_, _, rfl⟩ ho6)
      clear hc4 hg4 hc5 hg5 ho6 hb6 cB HL5 HLD HBX HBR5
      cases hok : okW zs bz x y
      · clear hok HL8b
        go_wp2_with fail
        go_roundw
        case rel => exact ⟨r - 1, zs, by omega, by go_num, hgz, HL8a.out.mono (by omega)⟩
        case measure => simp [intOf]; omega
      · have hgn := Lib.hid (okW_grid hok)
        clear hok HL8a
        go_wp2_with fail
        go_roundw
        case rel => exact ⟨r - 1, _, by omega, by go_num, hgn, HL8b.out.mono (by omega)⟩
        case measure => simp [intOf]; omega
    · obtain rfl : r = 0 := by omega
      have HT := Lib.hid (TxIn.of_grid hgz.out (show 5 ≤ 6 by omega))
      have hl5 := grid_len hgz.out
      go_wp2_with fail
      refine (HP.out _ _ 32 HL.out.cur (by omega) (by omega) (by omega)).mono ?_
      rintro e w5 ⟨x, rfl, ⟨x1, x2⟩, hc1, hg1⟩
      have HL5 := Lib.hid (HL.out.step hc1 hg1)
      clear hc1 hg1 HL
      rcases (show x = 0 ∨ x = 1 ∨ 2 ≤ x by omega) with rfl | rfl | hx
      · have q0 : ((0 : Int) == 0) = true := rfl
        go_wp2_with fail
        refine (HO.out _ _ HL5.out.cur (by omega)).mono ?_
        rintro e w6 ⟨t, rfl, ht, hc1, hg1⟩
        have ht1 := HS.out t ht
        have HL6 := Lib.hid (HL5.out.step hc1 hg1)
        clear hc1 hg1 ht
        go_wp2_with (at_builtin; go_must (refine wpList_append_own _ rfl _ _ 31 rfl w.heap.size 9 i0 _ 1 16 Try.underlying31 hi hz0 hz1 hz2 rfl (by decide) _ _ _ rfl (HL6.out.own.alloc _) ⟨w6.heap.size, 0, none⟩ 1 1 [.string t] rfl rfl (World.news_of_block (cs := #[.string t]) (t := 9) (fr := (0, 0)) (heap_alloc_new _ _)) (by simp [Value.oneCell']) (by show zs.length + 1 ≤ maxLen; unfold maxLen; omega) (show (zs.length + 1) * 16 ≤ 140737488355328 by omega) (Nat.le_trans HL6.out.grown.size (by simp)) ?_))
        intro v' w7 hown4 hgrow4 _
        have HL7 := Lib.hid (HL6.out.app hown4 hgrow4)
        obtain ⟨ad7, cp7, hv⟩ := HL7.out.form
        have HD := Lib.hid (DrawnP.of (m := n + 200) (hv ▸ HL7.out) (by rw [len_snocT]; omega) (HT.out.snoc ht1) (by omega))
        rw [hv]
        clear hown4 hgrow4 hv HL7
        rw [len_snocT] at HD ⊢
        go_wp2_with fail
        go_ret
        exact HD.out
      · have q0 : ((1 : Int) == 0) = false := rfl
        have q1 : ((1 : Int) == 1) = true := rfl
        have HD := Lib.hid (DrawnP.of (m := n + 200) (zs := []) (LsT.fresh HL5.out.cur HL5.out.low HL5.out.grown) (by simp) (fun z hz => by cases hz) (by omega))
        go_wp2_with fail
        go_ret
        exact HD.out
      · have q0 : (x == 0) = false := by rw [beq_eq_false_iff_ne]; omega
        have q1 : (x == 1) = false := by rw [beq_eq_false_iff_ne]; omega
        have HD := Lib.hid (DrawnP.of (m := n + 200) HL5.out (by omega) HT.out (by omega))
        go_wp2_with fail
        go_ret
        exact HD.out
end
section
open Go.RowKit

/-- a row of texts that may be read -/
structure TxR (w : World) (a : Option Addr) (cp : Nat) (zs : List ByteArray) : Prop where
  len : zs.length ≤ 6
  tx : TxIn 6 zs
  cap : zs.length ≤ cp
  reads : Reads w a (strs zs)
theorem TxR.below {w w' : World} {a : Option Addr} {cp : Nat} {zs : List ByteArray} (h : TxR w a cp zs) (hb : Below w.heap.size w w') : TxR w' a cp zs := ⟨h.len, h.tx, h.cap, h.reads.below hb⟩
theorem TxR.grown {w w' : World} {a : Option Addr} {cp g B : Nat} {zs : List ByteArray} (h : TxR w a cp zs) (hg : w.grownBy w' (some g)) (hf : ∀ q, a = some q → B ≤ q.block) (hB : g < B) : TxR w' a cp zs := ⟨h.len, h.tx, h.cap, reads_farT h.reads hg hf hB⟩
theorem DrawnK.look {w : World} {g m : Nat} {e : Ending} {w' : World} (h : DrawnK w g m e w') : ∃ ad cp zs, e = .returned (.agg #[.slice ad zs.length cp]) ∧ TxR w' ad cp zs ∧ (∀ q, ad = some q → w.heap.size ≤ q.block) ∧ Cur w' g m ∧ w.grownBy w' (some g) := by
  obtain ⟨ad, cp, zs, he, h1, h2, h3, h4, h5, h6, h7⟩ := h
  exact ⟨ad, cp, zs, he, ⟨by omega, fun z hz => by have := h2 z hz; omega, h3, own_reads h4⟩, h5, h6, h7⟩
theorem DrawnP.look {w : World} {g m : Nat} {e : Ending} {w' : World} (h : DrawnP w g m e w') : ∃ ad cp zs, e = .returned (.slice ad zs.length cp) ∧ TxR w' ad cp zs ∧ (∀ q, ad = some q → w.heap.size ≤ q.block) ∧ Cur w' g m ∧ w.grownBy w' (some g) := by
  obtain ⟨ad, cp, zs, he, h1, h2, h3, h4, h5, h6, h7⟩ := h
  exact ⟨ad, cp, zs, he, ⟨h1, h2, h3, h4⟩, h5, h6, h7⟩
/-- a box of the draw's own, and a cursor above it -/
theorem box_cur {w : World} (a : Option Addr) (cap : Nat) (cs : List Int) (hm : cs.length ≤ maxLen) (hr : Reads w a (bytesV cs)) (hz : ∀ z ∈ cs, 0 ≤ z ∧ z ≤ 255) (o : Obj) :
    Cur ((w.alloc o).alloc (.cells #[.slice a cs.length cap, .int .i64 0, .int .u64 0] 92)) (w.heap.size + 1) 0 := by
  have := cur_newT (w := w.alloc o) cap hm (hr.below (Go.Joins.below_alloc1 w o)) hz
  rwa [show (w.alloc o).heap.size = w.heap.size + 1 by simp] at this
theorem below_set {w w1 : World} {p : Addr} (h : Below w.heap.size w w1) (hp : w.heap.size ≤ p.block) (v : Value) : Below w.heap.size w (w1.setCell p v) :=
  h.grown (grownBy_setCell w1 p v) h.size (fun q hq => by injection hq with hq; omega)
theorem below_by {w w1 w2 : World} {g : Nat} (h : Below w.heap.size w w1) (hg : w1.grownBy w2 (some g)) (hk : w.heap.size ≤ g) : Below w.heap.size w w2 := h.grown hg h.size (fun q hq => by injection hq with hq; omega)
theorem TxR.set {w : World} {a : Option Addr} {cp g B : Nat} {zs : List ByteArray} (h : TxR w a cp zs) (hf : ∀ q, a = some q → B ≤ q.block) (hB : g < B) (o : Nat) (v : Value) : TxR (w.setCell ⟨g, o, none⟩ v) a cp zs := h.grown (grownBy_setCell w ⟨g, o, none⟩ v) hf hB
set_option maxRecDepth 100000 in
theorem drawIsSheet_any (a : Option Addr) (cap : Nat) (cs : List Int) (w : World) (hm : cs.length ≤ maxLen) (hr : Reads w a (bytesV cs)) (hz : ∀ z ∈ cs, 0 ≤ z ∧ z ≤ 255) :
    Calls Try.prog 82 #[.slice a cs.length cap] w fun e w' => ∃ ad cp zs, e = .returned (.slice ad zs.length cp) ∧ TxR w' ad cp zs ∧ Below w.heap.size w w' := by
  have HC := Lib.hid (cur_newT cap hm hr hz)
  have HS := Lib.hid (fun w g n h hn => plateSheet_any g n w h hn)
  have HB0 : Hid (∀ w', (w.alloc (.cells #[.slice a cs.length cap, .int .i64 0, .int .u64 0] 92)).grownBy w' (some w.heap.size) → Below w.heap.size w w') := Lib.hid (fun w' h => below_curT h)
  clear hr hz
  go_enter Try.func82, Try.ntmps82
  go_wp2_with fail
  generalize w.alloc (.cells #[.slice a cs.length cap, .int .i64 0, .int .u64 0] 92) = w0 at *
  refine (HS.out _ _ 0 HC.out (by omega)).mono ?_
  intro e w1 hd
  obtain ⟨ad, cp, zs, rfl, ht, _, _, hg⟩ := hd.look
  have HT := Lib.hid ht
  have HB := Lib.hid (HB0.out _ hg)
  clear hd ht hg
  go_wp2_with fail
  go_ret
  exact ⟨_, _, _, rfl, HT.out, HB.out⟩
theorem drawPointsOn_any (a : Option Addr) (cap : Nat) (cs : List Int) (w : World) (hm : cs.length ≤ maxLen) (hr : Reads w a (bytesV cs)) (hz : ∀ z ∈ cs, 0 ≤ z ∧ z ≤ 255) :
    Calls Try.prog 39 #[.slice a cs.length cap] w fun e w' => ∃ ad cp zs, e = .returned (.slice ad zs.length cp) ∧ TxR w' ad cp zs ∧ Below w.heap.size w w' := by
  have H := Lib.hid (drawIsSheet_any a cap cs w hm hr hz)
  clear hr hz
  go_enter Try.func39, Try.ntmps39
  go_wp2_with fail
  refine H.out.mono ?_
  rintro e w1 ⟨ad, cp, zs, rfl, ht, hb⟩
  have HT := Lib.hid ht
  have HB := Lib.hid hb
  clear ht hb
  go_wp2_with fail
  go_ret
  exact ⟨_, _, _, rfl, HT.out, HB.out⟩
set_option maxRecDepth 100000 in
theorem drawIsBlock_any (a : Option Addr) (cap : Nat) (cs : List Int) (w : World) (hm : cs.length ≤ maxLen) (hr : Reads w a (bytesV cs)) (hz : ∀ z ∈ cs, 0 ≤ z ∧ z ≤ 255) :
    Calls Try.prog 84 #[.slice a cs.length cap] w fun e w' => ∃ ad cp zs, e = .returned (.agg #[.slice ad zs.length cp]) ∧ TxR w' ad cp zs ∧ (∀ q, ad = some q → w.heap.size < q.block) ∧ Below w.heap.size w w' := by
  have HC := Lib.hid (box_cur a cap cs hm hr hz (.cells #[.slice none 0 0] 45))
  have HK := Lib.hid (fun w g n h hn => block_any g n w h hn)
  have BX : Hid (RowIs ((w.alloc (.cells #[.slice none 0 0] 45)).alloc (.cells #[.slice a cs.length cap, .int .i64 0, .int .u64 0] 92)) w.heap.size 45 [.slice none 0 0]) := Lib.hid ((RowIs.new w 45 [.slice none 0 0]).alloc _)
  have HB0 := Lib.hid (Go.Joins.below_alloc2 w (.cells #[.slice none 0 0] 45) (.cells #[.slice a cs.length cap, .int .i64 0, .int .u64 0] 92))
  clear hr hz
  go_enter Try.func84, Try.ntmps84
  go_wp2_with fail
  generalize (w.alloc (.cells #[.slice none 0 0] 45)).alloc (.cells #[.slice a cs.length cap, .int .i64 0, .int .u64 0] 92) = w0 at *
  refine (HK.out _ _ 0 HC.out (by omega)).mono ?_
  intro e w1 hd
  obtain ⟨ad, cp, zs, rfl, ht, hf, _, hg⟩ := hd.look
  have hsz := HC.out.lt
  have HT := Lib.hid (ht.set (g := w.heap.size) hf (by omega) 0 (.slice ad zs.length cp))
  have HB := Lib.hid (below_set (p := ⟨w.heap.size, 0, none⟩) (below_by HB0.out hg (by omega)) (Nat.le_refl _) (.slice ad zs.length cp))
  have BX1 := Lib.hid (BX.out.grown hg (by intro e; injection e with e; omega))
  have HF := Lib.hid (fun (q : Addr) (hq : ad = some q) => (show w.heap.size < q.block by have := hf q hq; omega))
  have f0 := BX1.out.free 0
  have c0 := BX1.out.cell (j := 0) rfl
  clear hd ht hf hg
  go_wp2_with fail
  have F2 := (BX1.out.set 0 (.slice ad zs.length cp)).cell (j := 0) rfl
  exact bodyPost_ret (v := .agg #[.slice ad zs.length cp]) (by simp [results, Try.results84, go_sem, F2]) rfl ⟨_, _, _, rfl, HT.out, HF.out, HB.out⟩
set_option maxRecDepth 100000 in
theorem drawBlockText_any (a : Option Addr) (cap : Nat) (cs : List Int) (w : World) (hm : cs.length ≤ maxLen) (hr : Reads w a (bytesV cs)) (hz : ∀ z ∈ cs, 0 ≤ z ∧ z ≤ 255) :
    Calls Try.prog 41 #[.slice a cs.length cap] w fun e w' => ∃ ad cp zs, e = .returned (.agg #[.slice ad zs.length cp]) ∧ TxR w' ad cp zs ∧ Below w.heap.size w w' := by
  have HB0 := Lib.hid (Go.Joins.below_alloc1 w (.cells #[.slice none 0 0] 45))
  have H := Lib.hid (drawIsBlock_any a cap cs (w.alloc (.cells #[.slice none 0 0] 45)) hm (hr.below HB0.out) hz)
  have BX : Hid (RowIs (w.alloc (.cells #[.slice none 0 0] 45)) w.heap.size 45 [.slice none 0 0]) := Lib.hid (RowIs.new w 45 [.slice none 0 0])
  have hsz := BX.out.lt
  clear hr hz
  go_enter Try.func41, Try.ntmps41
  go_wp2_with fail
  generalize w.alloc (.cells #[.slice none 0 0] 45) = w0 at *
  refine H.out.mono ?_
  rintro e w1 ⟨ad, cp, zs, rfl, ht, hf, hb⟩
  have HT := Lib.hid (ht.set (g := w.heap.size) (B := w0.heap.size) (fun q hq => Nat.le_of_lt (hf q hq)) hsz 0 (.slice ad zs.length cp))
  have HB := Lib.hid (below_set (p := ⟨w.heap.size, 0, none⟩) (HB0.out.trans (hb.mono HB0.out.size)) (Nat.le_refl _) (.slice ad zs.length cp))
  have BX1 := Lib.hid (BX.out.below hb)
  have f0 := BX1.out.free 0
  have c0 := BX1.out.cell (j := 0) rfl
  clear ht hf hb
  go_wp2_with fail
  have F2 := (BX1.out.set 0 (.slice ad zs.length cp)).cell (j := 0) rfl
  exact bodyPost_ret (v := .agg #[.slice ad zs.length cp]) (by simp [results, Try.results41, go_sem, F2]) rfl ⟨_, _, _, rfl, HT.out, HB.out⟩
set_option maxRecDepth 100000 in
set_option maxHeartbeats 1000000 in
theorem drawPlacesFor_any (a : Option Addr) (cap : Nat) (cs : List Int) (w : World) (hm : cs.length ≤ maxLen) (hr : Reads w a (bytesV cs)) (hz : ∀ z ∈ cs, 0 ≤ z ∧ z ≤ 255) :
    Calls Try.prog 25 #[.slice a cs.length cap] w fun e w' => ∃ ad cp xs bd bp ys, e = .returned (.tuple #[.slice ad xs.length cp, .agg #[.slice bd ys.length bp]]) ∧ TxR w' ad cp xs ∧ TxR w' bd bp ys ∧ Below w.heap.size w w' := by
  have HC := Lib.hid (box_cur a cap cs hm hr hz (.cells #[.slice none 0 0] 45))
  have HS := Lib.hid (fun w g n h hn => plateSheet_any g n w h hn)
  have HK := Lib.hid (fun w g n h hn => block_any g n w h hn)
  have BX : Hid (RowIs ((w.alloc (.cells #[.slice none 0 0] 45)).alloc (.cells #[.slice a cs.length cap, .int .i64 0, .int .u64 0] 92)) w.heap.size 45 [.slice none 0 0]) := Lib.hid ((RowIs.new w 45 [.slice none 0 0]).alloc _)
  have HB0 := Lib.hid (Go.Joins.below_alloc2 w (.cells #[.slice none 0 0] 45) (.cells #[.slice a cs.length cap, .int .i64 0, .int .u64 0] 92))
  clear hr hz
  go_enter Try.func25, Try.ntmps25
  go_wp2_with fail
  generalize (w.alloc (.cells #[.slice none 0 0] 45)).alloc (.cells #[.slice a cs.length cap, .int .i64 0, .int .u64 0] 92) = w0 at *
  have hsz := HC.out.lt
  refine (HS.out _ _ 0 HC.out (by omega)).mono ?_
  intro e w1 hd
  obtain ⟨ad, cp, xs, rfl, ht, hf, hc, hg⟩ := hd.look
  have HC1 := Lib.hid hc
  have HG1 := Lib.hid hg
  have HT1 := Lib.hid ht
  have HF1 := Lib.hid hf
  clear hd ht hf hc hg
  go_wp2_with fail
  refine (HK.out _ _ _ HC1.out (by omega)).mono ?_
  intro e w2 hd
  obtain ⟨bd, bp, ys, rfl, ht, hf, _, hg⟩ := hd.look
  have HG2 := Lib.hid (grownBy_trans HG1.out hg)
  have hs1 := HG1.out.size
  have HTA := Lib.hid ((HT1.out.grown hg HF1.out (by omega)).set (g := w.heap.size) HF1.out (by omega) 0 (.slice bd ys.length bp))
  have HTB := Lib.hid (ht.set (g := w.heap.size) hf (by omega) 0 (.slice bd ys.length bp))
  have HB := Lib.hid (below_set (p := ⟨w.heap.size, 0, none⟩) (below_by HB0.out HG2.out (by omega)) (Nat.le_refl _) (.slice bd ys.length bp))
  have BX1 := Lib.hid (BX.out.grown HG2.out (by intro e; injection e with e; omega))
  have f0 := BX1.out.free 0
  have c0 := BX1.out.cell (j := 0) rfl
  clear hd ht hf hg
  go_wp2_with fail
  have F2 := (BX1.out.set 0 (.slice bd ys.length bp)).cell (j := 0) rfl
  exact bodyPost_ret (v := .tuple #[.slice ad xs.length cp, .agg #[.slice bd ys.length bp]]) (by simp [results, Try.results25, go_sem, F2]) rfl ⟨_, _, _, _, _, _, rfl, HTA.out, HTB.out, HB.out⟩
set_option maxRecDepth 100000 in
set_option maxHeartbeats 1000000 in
theorem drawLayBlock_any (a : Option Addr) (cap : Nat) (cs : List Int) (w : World) (hm : cs.length ≤ maxLen) (hr : Reads w a (bytesV cs)) (hz : ∀ z ∈ cs, 0 ≤ z ∧ z ≤ 255) :
    Calls Try.prog 33 #[.slice a cs.length cap] w fun e w' => ∃ ad cp xs bd bp ys r c, e = .returned (.tuple #[.slice ad xs.length cp, .agg #[.slice bd ys.length bp], .int .i64 r, .int .i64 c]) ∧ (-10 ≤ r ∧ r ≤ 10) ∧ (-10 ≤ c ∧ c ≤ 10) ∧ TxR w' ad cp xs ∧ TxR w' bd bp ys ∧ Below w.heap.size w w' := by
  have HC := Lib.hid (box_cur a cap cs hm hr hz (.cells #[.slice none 0 0] 45))
  have HP := Lib.hid (fun w g n m h hn h1 h2 => pick_any g n m w h hn h1 h2)
  have HS := Lib.hid (fun w g n h hn => plateSheet_any g n w h hn)
  have HK := Lib.hid (fun w g n h hn => block_any g n w h hn)
  have BX : Hid (RowIs ((w.alloc (.cells #[.slice none 0 0] 45)).alloc (.cells #[.slice a cs.length cap, .int .i64 0, .int .u64 0] 92)) w.heap.size 45 [.slice none 0 0]) := Lib.hid ((RowIs.new w 45 [.slice none 0 0]).alloc _)
  have HB0 := Lib.hid (Go.Joins.below_alloc2 w (.cells #[.slice none 0 0] 45) (.cells #[.slice a cs.length cap, .int .i64 0, .int .u64 0] 92))
  clear hr hz
  go_enter Try.func33, Try.ntmps33
  go_wp2_with fail
  generalize (w.alloc (.cells #[.slice none 0 0] 45)).alloc (.cells #[.slice a cs.length cap, .int .i64 0, .int .u64 0] 92) = w0 at *
  have hsz := HC.out.lt
  refine (HS.out _ _ 0 HC.out (by omega)).mono ?_
  intro e w1 hd
  obtain ⟨ad, cp, xs, rfl, ht, hf, hc, hg⟩ := hd.look
  have HC1 := Lib.hid hc
  have HG1 := Lib.hid hg
  have HT1 := Lib.hid ht
  have HF1 := Lib.hid hf
  clear hd ht hf hc hg
  go_wp2_with fail
  refine (HK.out _ _ _ HC1.out (by omega)).mono ?_
  intro e w2 hd
  obtain ⟨bd, bp, ys, rfl, ht, hf, hc, hg⟩ := hd.look
  have HC2 := Lib.hid hc
  have HG2 := Lib.hid (grownBy_trans HG1.out hg)
  have hs1 := HG1.out.size
  have HTA2 := Lib.hid (HT1.out.grown hg HF1.out (by omega))
  have HTB2 := Lib.hid ht
  have HF2 := Lib.hid hf
  clear hd ht hf hg hc
  go_wp2_with fail
  refine (HP.out _ _ _ 4 HC2.out (by omega) (by omega) (by omega)).mono ?_
  rintro e w3 ⟨x, rfl, ⟨x1, x2⟩, hc, hg⟩
  have HC3 := Lib.hid hc
  have HG3 := Lib.hid (grownBy_trans HG2.out hg)
  have HTA3 := Lib.hid (HTA2.out.grown hg HF1.out (by omega))
  have HTB3 := Lib.hid (HTB2.out.grown hg HF2.out (by omega))
  clear hc hg
  go_wp2_with fail
  refine (HP.out _ _ _ 17 HC3.out (by omega) (by omega) (by omega)).mono ?_
  rintro e w4 ⟨y, rfl, ⟨y1, y2⟩, hc, hg⟩
  have HC4 := Lib.hid hc
  have HG4 := Lib.hid (grownBy_trans HG3.out hg)
  have HTA4 := Lib.hid (HTA3.out.grown hg HF1.out (by omega))
  have HTB4 := Lib.hid (HTB3.out.grown hg HF2.out (by omega))
  have hq : 0 ≤ y.tdiv 16 ∧ y.tdiv 16 ≤ 1 := by rw [Int.tdiv_eq_ediv_of_nonneg y1]; omega
  have hq2 : 0 ≤ y / 16 ∧ y / 16 ≤ 1 := by omega
  clear hc hg
  go_wp2_with fail
  refine (HP.out _ _ _ 4 HC4.out (by omega) (by omega) (by omega)).mono ?_
  rintro e w5 ⟨z, rfl, ⟨z1, z2⟩, hc, hg⟩
  have HG5 := Lib.hid (grownBy_trans HG4.out hg)
  have HTA := Lib.hid ((HTA4.out.grown hg HF1.out (by omega)).set (g := w.heap.size) HF1.out (by omega) 0 (.slice bd ys.length bp))
  have HTB := Lib.hid ((HTB4.out.grown hg HF2.out (by omega)).set (g := w.heap.size) HF2.out (by omega) 0 (.slice bd ys.length bp))
  have HB := Lib.hid (below_set (p := ⟨w.heap.size, 0, none⟩) (below_by HB0.out HG5.out (by omega)) (Nat.le_refl _) (.slice bd ys.length bp))
  have BX1 := Lib.hid (BX.out.grown HG5.out (by intro e; injection e with e; omega))
  have f0 := BX1.out.free 0
  have c0 := BX1.out.cell (j := 0) rfl
  clear hc hg
  go_wp2_with fail
  have F2 := (BX1.out.set 0 (.slice bd ys.length bp)).cell (j := 0) rfl
  refine bodyPost_ret (v := .tuple #[.slice ad xs.length cp, .agg #[.slice bd ys.length bp], .int .i64 (x - y.tdiv 16), .int .i64 z]) (by simp [results, Try.results33, go_sem, F2]) rfl ⟨_, _, _, _, _, _, _, _, rfl, by omega, by omega, HTA.out, HTB.out, HB.out⟩
set_option maxRecDepth 100000 in
set_option maxHeartbeats 1000000 in
theorem drawDoAgree_any (a : Option Addr) (cap : Nat) (cs : List Int) (w : World) (hm : cs.length ≤ maxLen) (hr : Reads w a (bytesV cs)) (hz : ∀ z ∈ cs, 0 ≤ z ∧ z ≤ 255) :
    Calls Try.prog 36 #[.slice a cs.length cap] w fun e w' => ∃ ad cp xs bd bp ys r c, e = .returned (.tuple #[.agg #[.slice ad xs.length cp], .agg #[.slice bd ys.length bp], .int .i64 r, .int .i64 c]) ∧ (-10 ≤ r ∧ r ≤ 10) ∧ (-10 ≤ c ∧ c ≤ 10) ∧ TxR w' ad cp xs ∧ TxR w' bd bp ys ∧ Below w.heap.size w w' := by
  have HB00 := Lib.hid (Go.Joins.below_alloc1 w (.cells #[.slice none 0 0] 45))
  have HC := Lib.hid (box_cur (w := w.alloc (.cells #[.slice none 0 0] 45)) a cap cs hm (hr.below HB00.out) hz (.cells #[.slice none 0 0] 45))
  rw [show (w.alloc (.cells #[.slice none 0 0] 45)).heap.size = w.heap.size + 1 by simp] at HC
  have HK := Lib.hid (fun w g n h hn => block_any g n w h hn)
  have HA1 := Lib.hid (fun w g n h hn => among_lit g n [0, 1, 2, -1, -2, 3] w h hn (by simp) (by simp) #[.int .i64 0, .int .i64 1, .int .i64 2, .int .i64 (-1), .int .i64 (-2), .int .i64 3] rfl 6 rfl)
  have HA2 := Lib.hid (fun w g n h hn => among_lit g n [0, 1, 2, -1, -2, -3] w h hn (by simp) (by simp) #[.int .i64 0, .int .i64 1, .int .i64 2, .int .i64 (-1), .int .i64 (-2), .int .i64 (-3)] rfl 6 rfl)
  have BX : Hid (RowIs (((w.alloc (.cells #[.slice none 0 0] 45)).alloc (.cells #[.slice none 0 0] 45)).alloc (.cells #[.slice a cs.length cap, .int .i64 0, .int .u64 0] 92)) w.heap.size 45 [.slice none 0 0]) := Lib.hid ((two_new w (.slice none 0 0) (.slice none 0 0) 45 45).1.alloc _)
  have BY : Hid (RowIs (((w.alloc (.cells #[.slice none 0 0] 45)).alloc (.cells #[.slice none 0 0] 45)).alloc (.cells #[.slice a cs.length cap, .int .i64 0, .int .u64 0] 92)) (w.heap.size + 1) 45 [.slice none 0 0]) := Lib.hid ((two_new w (.slice none 0 0) (.slice none 0 0) 45 45).2.alloc _)
  have HB0 := Lib.hid ((Go.Joins.below_alloc2 w (.cells #[.slice none 0 0] 45) (.cells #[.slice none 0 0] 45)).alloc (by simp; omega) (.cells #[.slice a cs.length cap, .int .i64 0, .int .u64 0] 92))
  clear hr hz HB00
  go_enter Try.func36, Try.ntmps36
  go_wp2_with fail
  generalize ((w.alloc (.cells #[.slice none 0 0] 45)).alloc (.cells #[.slice none 0 0] 45)).alloc (.cells #[.slice a cs.length cap, .int .i64 0, .int .u64 0] 92) = w0 at *
  have hsz := HC.out.lt
  refine (HK.out _ _ 0 HC.out (by omega)).mono ?_
  intro e w1 hd
  obtain ⟨ad, cp, xs, rfl, ht, hf, hc, hg⟩ := hd.look
  have HC1 := Lib.hid hc
  have HG1 := Lib.hid hg
  have HT1 := Lib.hid ht
  have HF1 := Lib.hid hf
  clear hd ht hf hc hg
  go_wp2_with fail
  refine (HK.out _ _ _ HC1.out (by omega)).mono ?_
  intro e w2 hd
  obtain ⟨bd, bp, ys, rfl, ht, hf, hc, hg⟩ := hd.look
  have HC2 := Lib.hid hc
  have HG2 := Lib.hid (grownBy_trans HG1.out hg)
  have hs1 := HG1.out.size
  have HTA2 := Lib.hid (HT1.out.grown hg HF1.out (by omega))
  have HTB2 := Lib.hid ht
  have HF2 := Lib.hid hf
  clear hd ht hf hg hc
  go_wp2_with fail
  refine (HA1.out _ _ _ HC2.out (by omega)).mono ?_
  rintro e w3 ⟨x, rfl, hx, hc, hg⟩
  have x1 : -2 ≤ x ∧ x ≤ 3 := by simp at hx; omega
  have HC3 := Lib.hid hc
  have HG3 := Lib.hid (grownBy_trans HG2.out hg)
  have HTA3 := Lib.hid (HTA2.out.grown hg HF1.out (by omega))
  have HTB3 := Lib.hid (HTB2.out.grown hg HF2.out (by omega))
  clear hc hg hx
  go_wp2_with fail
  refine (HA2.out _ _ _ HC3.out (by omega)).mono ?_
  rintro e w4 ⟨y, rfl, hy, hc, hg⟩
  have y1 : -3 ≤ y ∧ y ≤ 2 := by simp at hy; omega
  have HG4 := Lib.hid (grownBy_trans HG3.out hg)
  have HTA := Lib.hid (((HTA3.out.grown hg HF1.out (by omega)).set (g := w.heap.size) HF1.out (by omega) 0 (.slice ad xs.length cp)).set (g := w.heap.size + 1) HF1.out (by omega) 0 (.slice bd ys.length bp))
  have HTB := Lib.hid (((HTB3.out.grown hg HF2.out (by omega)).set (g := w.heap.size) HF2.out (by omega) 0 (.slice ad xs.length cp)).set (g := w.heap.size + 1) HF2.out (by omega) 0 (.slice bd ys.length bp))
  have HB := Lib.hid (below_set (p := ⟨w.heap.size + 1, 0, none⟩) (below_set (p := ⟨w.heap.size, 0, none⟩) (below_by HB0.out HG4.out (by omega)) (Nat.le_refl _) (.slice ad xs.length cp)) (by show w.heap.size ≤ w.heap.size + 1; omega) (.slice bd ys.length bp))
  have BX1 := Lib.hid (BX.out.grown HG4.out (by intro e; injection e with e; omega))
  have BY1 := Lib.hid (BY.out.grown HG4.out (by intro e; injection e with e; omega))
  have f0 := BX1.out.free 0
  have c0 := BX1.out.cell (j := 0) rfl
  have f1 := BY1.out.free 0
  have c1 := BY1.out.cell (j := 0) rfl
  clear hc hg hy
  go_wp2_with fail
  have F1 := ((BX1.out.set 0 (.slice ad xs.length cp)).far (p := ⟨w.heap.size + 1, 0, none⟩) (by show w.heap.size ≠ w.heap.size + 1; omega) (.slice bd ys.length bp)).cell (j := 0) rfl
  have F2 := ((BY1.out.far (p := ⟨w.heap.size, 0, none⟩) (by show w.heap.size + 1 ≠ w.heap.size; omega) (.slice ad xs.length cp)).set 0 (.slice bd ys.length bp)).cell (j := 0) rfl
  refine bodyPost_ret (v := .tuple #[.agg #[.slice ad xs.length cp], .agg #[.slice bd ys.length bp], .int .i64 x, .int .i64 y]) (by simp [results, Try.results36, go_sem, F1, F2]) rfl ⟨_, _, _, _, _, _, _, _, rfl, by omega, by omega, HTA.out, HTB.out, HB.out⟩
end
section
open Go.RowKit

theorem own_type_ne2 {w : World} {b1 b2 s1 s2 n1 n2 : Nat} {e1 e2 : TypeId} {v u : Value} {xs ys : List Value} (h : w.ownsRow b1 e1 s1 v n1 xs) (k : w.ownsRow b2 e2 s2 u n2 ys) (hne : e1 ≠ e2) : ∀ q, u.ownBlock = some q → v.ownBlock ≠ some q := by
  intro q hq hv
  rcases h.2 with ⟨rfl, _⟩ | ⟨g, c, cur, rfl, _, hh, _⟩
  · simp [Value.ownBlock] at hv
  · rcases k.2 with ⟨rfl, _⟩ | ⟨g', c', cur', rfl, _, hh', _⟩
    · simp [Value.ownBlock] at hq
    · simp [Value.ownBlock] at hv hq
      subst hv; subst hq
      rw [hh] at hh'
      injection hh' with hh'
      injection hh' with _ ht
      exact hne ht
abbrev BlkT.sl (b : BlkT) : Value := .slice b.ad b.zs.length b.cap
/-- blocks that are short, each in memory of the draw's own -/
def BlkOk (w wr : World) (b : BlkT) : Prop := b.zs.length ≤ 6 ∧ TxIn 6 b.zs ∧ wr.ownsRow w.heap.size 9 1 b.sl b.zs.length (strs b.zs)
/-- a list of blocks of the draw's own, and the cursor -/
structure LsB (w wr : World) (g n : Nat) (v : Value) (bs : List BlkT) : Prop where
  form : ∃ ad cp, v = .slice ad bs.length cp
  own : wr.ownsRow w.heap.size 45 1 v bs.length (blks bs)
  inner : ∀ b ∈ bs, BlkOk w wr b
  cur : Cur wr g n
  low : g < w.heap.size
  grown : w.grownBy wr (some g)
theorem BlkOk.kept {w wr w2 : World} {b : BlkT} {row : Option Nat} (h : BlkOk w wr b) (hg : wr.grownBy w2 row) (hr : ∀ q, row = some q → b.sl.ownBlock ≠ some q) : BlkOk w w2 b :=
  ⟨h.1, h.2.1, own_kept h.2.2 hg (fun q hq e => hr q e hq)⟩
theorem LsB.step {w wr w2 : World} {g n m : Nat} {v : Value} {bs : List BlkT} (h : LsB w wr g n v bs) (hc : Cur w2 g m) (hg : wr.grownBy w2 (some g)) : LsB w w2 g m v bs :=
  ⟨h.form, own_kept h.own hg (fun q hq e => by have := (h.own.lt q hq).1; have := h.low; injection e with e; omega), fun b hb => (h.inner b hb).kept hg (fun q hq e => by have := ((h.inner b hb).2.2.lt q e).1; have := h.low; injection hq with hq; omega), hc, h.low, grownBy_trans h.grown hg⟩
theorem LsB.app {w w2 w3 : World} {g n : Nat} {v v' : Value} {bs : List BlkT} {b : BlkT} {o : Obj} (h : LsB w w2 g n v bs) (hb : BlkOk w w2 b) (ho : w3.ownsRow w.heap.size 45 1 v' (bs.length + 1) (blks bs ++ [b.sl]))
    (hg : (w2.alloc o).grownBy w3 v.ownBlock) : LsB w w3 g n v' (bs ++ [b]) := by
  have hq : ∀ q, v.ownBlock = some q → w.heap.size ≤ q := fun q hq => (h.own.lt q hq).1
  obtain ⟨g3, c3, hv⟩ := Go.Joins.ownsRow_form ho (by omega)
  have hin : ∀ d, BlkOk w w2 d → BlkOk w w3 d := fun d hd => BlkOk.kept (wr := w2.alloc o) ⟨hd.1, hd.2.1, hd.2.2.alloc o⟩ hg (fun q hq e => own_type_ne2 (h.own.alloc o) (hd.2.2.alloc o) (by decide) q e hq)
  refine ⟨⟨some ⟨g3, 0, none⟩, c3, by rw [hv]; simp⟩, by rw [blks_snoc]; simpa using ho, fun d hd => ?_, (h.cur.alloc o).kept hg (fun q e => by have := hq q e; have := h.low; omega), h.low, grown_newT (grown_alloc h.grown o) hg hq⟩
  rcases List.mem_append.1 hd with h3 | h3
  · exact hin d (h.inner d h3)
  · rw [List.mem_singleton] at h3; rw [h3]; exact hin b hb
theorem LsB.mono {w wr : World} {g n m : Nat} {v : Value} {bs : List BlkT} (h : LsB w wr g n v bs) (hm : n ≤ m) : LsB w wr g m v bs := ⟨h.form, h.own, h.inner, h.cur.mono hm, h.low, h.grown⟩
theorem LsB.fresh {w : World} {g n : Nat} (h : Cur w g n) : LsB w (w.alloc (.cells #[] 45)) g n (.slice (some ⟨w.heap.size, 0, none⟩) 0 0) [] :=
  ⟨⟨_, _, rfl⟩, RowIs.owns (RowIs.new w 45 ([] : List Value)) (n := 0) (sz := 1) rfl (by unfold maxLen; omega) (Nat.le_refl _), fun b hb => by simp at hb, h.alloc _, h.lt, World.grownBy_alloc w _ _⟩
theorem LsB.alloc {w wr : World} {g n : Nat} {v : Value} {bs : List BlkT} (h : LsB w wr g n v bs) (o : Obj) : LsB w (wr.alloc o) g n v bs := h.step (h.cur.alloc o) (World.grownBy_alloc wr o _)
theorem len_snocB (bs : List BlkT) (b : BlkT) : (bs ++ [b]).length = bs.length + 1 := by simp
def lenOf : Value → Nat
  | .slice _ n _ => n
  | _ => 0
theorem info_block : (Try.prog.info? 45).map (fun i => (i.zero, i.size, i.bytes)) = some (some (.agg #[.slice none 0 0]), 1, 24) := by kernel_rfl
/-- a drawn answer, and the cursor behind it -/
def DrawnBs (w : World) (g m : Nat) (e : Ending) (w' : World) : Prop := ∃ (ad : Option Addr) (cp : Nat) (bs : List BlkT), e = .returned (.slice ad bs.length cp) ∧ bs.length ≤ 5 ∧ LsB w w' g m (.slice ad bs.length cp) bs
set_option maxRecDepth 100000 in
set_option maxHeartbeats 4000000 in
theorem blocks_any (g n : Nat) (w : World) (h : Cur w g n) (hn : n ≤ 1030000) : Calls Try.prog 86 #[.pointer (some ⟨g, 0, none⟩), .int .i64 3] w (DrawnBs w g (n + 200)) := by
  obtain ⟨i0, hi, hz0, hz1, hz2⟩ := info_parts info_block
  have hg := h.lt
  have HP := Lib.hid (fun w n m h hn h1 h2 => pick_any g n m w h hn h1 h2)
  have HON := Lib.hid (fun w n m h hn h1 h2 => one_any g n m w h hn h1 h2)
  have HK := Lib.hid (fun w n h hn => block_any g n w h hn)
  have HL0 := Lib.hid (LsB.fresh h)
  clear h
  go_enter Try.func86, Try.ntmps86
  go_wp2_with fail
  refine (HP.out _ n 4 HL0.out.cur (by omega) (by omega) (by omega)).mono ?_
  rintro e w1 ⟨m, rfl, ⟨m1, m2⟩, hc1, hg1⟩
  obtain ⟨m, rfl⟩ : ∃ k : Nat, m = (k : Int) := ⟨m.toNat, by omega⟩
  have HL1 := Lib.hid (HL0.out.step hc1 hg1)
  clear hc1 hg1 HL0
  go_wp2_with fail
  go_loopw [5, 6] (fun v i wr => ∃ (r : Nat) (bs : List BlkT), r ≤ m ∧ i = .int .i64 r ∧ Hid (bs.length + r = m) ∧ LsB w wr g (n + 2 + 40 * (m - r)) v bs) (fun _ i _ => (intOf i).toNat)
  case atStart => exact ⟨m, [], Nat.le_refl _, rfl, Lib.hid (by simp), HL1.out.mono (by omega)⟩
  case round =>
    obtain ⟨r, bs, hrm, rfl, hbr, hls⟩ := hrel
    obtain ⟨ad, cp, rfl⟩ := hls.form
    have HL := Lib.hid hls
    have hb3 : bs.length ≤ 3 := by have := hbr.out; omega
    clear hls HL1
    by_cases hlt : 0 < r
    · have hd : decide ((0 : Int) < (r : Int)) = true := by simp; omega
      go_wp2_with fail
      refine (HK.out _ _ HL.out.cur (by omega)).mono ?_
      rintro e w5 ⟨ba, bcp, bz, rfl, hbl, hbt, _, hbr2, hbf, hc1, hg1⟩
      have HL5 := Lib.hid (HL.out.step hc1 hg1)
      have HBK : Hid (BlkOk w w5 ⟨ba, bcp, bz⟩) := Lib.hid ⟨by show bz.length ≤ 6; omega, fun z hz => by have := hbt z hz; omega, World.ownsRow.mono hbr2 HL.out.grown.size⟩
      clear hbl hbt hbr2 hbf hc1 hg1
      go_wp2_with (at_builtin; go_must (refine wpList_append_own _ rfl _ _ 26 rfl w.heap.size 45 i0 _ 1 24 Try.underlying26 hi hz0 hz1 hz2 rfl (by decide) _ _ _ rfl (HL5.out.own.alloc _) ⟨w5.heap.size, 0, none⟩ 1 1 [.slice ba bz.length bcp] rfl rfl (World.news_of_block (cs := #[.slice ba bz.length bcp]) (t := 45) (fr := (0, 0)) (heap_alloc_new _ _)) (by simp [Value.oneCell']) (by show bs.length + 1 ≤ maxLen; unfold maxLen; omega) (show (bs.length + 1) * 24 ≤ 140737488355328 by omega) (Nat.le_trans HL5.out.grown.size (by simp)) ?_))
      intro v' w6 hown4 hgrow4 _
      have HL6 := Lib.hid (HL5.out.app HBK.out hown4 hgrow4)
      obtain ⟨ad6, cp6, hv⟩ := HL6.out.form
      rw [len_snocB] at hv
      have HL7 := Lib.hid (hv ▸ HL6.out)
      rw [hv]
      clear hown4 hgrow4 hv HL6 HL5
      go_wp2_with fail
      go_roundw
      case rel => exact ⟨r - 1, bs ++ [⟨ba, bcp, bz⟩], by omega, by go_num, Lib.hid (by have := hbr.out; rw [len_snocB]; omega), HL7.out.mono (by omega)⟩
      case measure => simp [intOf]; omega
    · obtain rfl : r = 0 := by omega
      go_wp2_with fail
      refine (HON.out _ _ 32 HL.out.cur (by omega) (by omega) (by omega)).mono ?_
      rintro e w5 ⟨ob, rfl, hc1, hg1⟩
      have HL5 := Lib.hid (HL.out.step hc1 hg1)
      clear hc1 hg1 HL
      cases ob
      · go_wp2_with fail
        go_ret
        exact ⟨ad, cp, bs, rfl, by omega, HL5.out.mono (by omega)⟩
      · go_wp2_with fail
        go_loopw [5] (fun v wr => ∃ cs : List BlkT, cs.length ≤ 5 ∧ LsB w wr g (n + 132 + 2 * cs.length) v cs) (fun v _ => 5 - lenOf v)
        case atStart => exact ⟨bs, by omega, HL5.out.mono (by omega)⟩
        case round =>
          obtain ⟨cs, hc5, hls⟩ := hrel
          obtain ⟨ad2, cp2, rfl⟩ := hls.form
          have HM := Lib.hid hls
          clear hls HL5 hbr
          go_wp2_with fail
          refine (HP.out _ _ 2 HM.out.cur (by omega) (by omega) (by omega)).mono ?_
          rintro e w6 ⟨y, rfl, ⟨y1, y2⟩, hc1, hg1⟩
          have HL6 := Lib.hid (HM.out.step hc1 hg1)
          clear hc1 hg1 HM
          by_cases hlt2 : (cs.length : Int) < 4 + y
          · have hd2 : decide ((cs.length : Int) < 4 + y) = true := by simpa using hlt2
            have HR7 : Hid (BlkOk w (w6.alloc (.cells #[.string ⟨#[97, 97, 97]⟩, .string ⟨#[97, 97, 97]⟩, .string ⟨#[97, 97, 97]⟩] 9)) ⟨some ⟨w6.heap.size, 0, none⟩, 3, [⟨#[97, 97, 97]⟩, ⟨#[97, 97, 97]⟩, ⟨#[97, 97, 97]⟩]⟩) := Lib.hid ⟨by show (3 : Nat) ≤ 6; omega, (by decide +kernel : ∀ z ∈ ([⟨#[97, 97, 97]⟩, ⟨#[97, 97, 97]⟩, ⟨#[97, 97, 97]⟩] : List ByteArray), z.size ≤ 6), RowIs.owns (RowIs.new w6 9 (strs [⟨#[97, 97, 97]⟩, ⟨#[97, 97, 97]⟩, ⟨#[97, 97, 97]⟩])) (n := 3) (sz := 1) rfl (by unfold maxLen; omega) HL6.out.grown.size⟩
            have HL7 := Lib.hid (HL6.out.alloc (.cells #[.string ⟨#[97, 97, 97]⟩, .string ⟨#[97, 97, 97]⟩, .string ⟨#[97, 97, 97]⟩] 9))
            have hs7 : (w6.alloc (.cells #[.string ⟨#[97, 97, 97]⟩, .string ⟨#[97, 97, 97]⟩, .string ⟨#[97, 97, 97]⟩] 9)).heap.size = w6.heap.size + 1 := by simp
            have HS7 := Lib.hid hs7
            clear hs7
            go_wp2_with (at_builtin; go_must (refine wpList_append_own _ rfl _ _ 26 rfl w.heap.size 45 i0 _ 1 24 Try.underlying26 hi hz0 hz1 hz2 rfl (by decide) _ _ _ rfl (HL7.out.own.alloc _) ⟨w6.heap.size + 1, 0, none⟩ 1 1 [.slice (some ⟨w6.heap.size, 0, none⟩) 3 3] rfl rfl (World.news_of_block (cs := #[.slice (some ⟨w6.heap.size, 0, none⟩) 3 3]) (t := 45) (fr := (0, 0)) (by have := heap_alloc_new (w6.alloc (.cells #[.string ⟨#[97, 97, 97]⟩, .string ⟨#[97, 97, 97]⟩, .string ⟨#[97, 97, 97]⟩] 9)) (.cells #[.slice (some ⟨w6.heap.size, 0, none⟩) 3 3] 45); rw [HS7.out] at this; exact this)) (by simp [Value.oneCell']) (by show cs.length + 1 ≤ maxLen; unfold maxLen; omega) (show (cs.length + 1) * 24 ≤ 140737488355328 by omega) (Nat.le_trans HL7.out.grown.size (by simp)) ?_))
            intro v' w8 hown4 hgrow4 _
            have HL8 := Lib.hid (HL7.out.app HR7.out hown4 hgrow4)
            obtain ⟨ad8, cp8, hv⟩ := HL8.out.form
            rw [len_snocB] at hv
            have HL9 := Lib.hid (hv ▸ HL8.out)
            have HLN := Lib.hid (len_snocB cs ⟨some ⟨w6.heap.size, 0, none⟩, 3, [⟨#[97, 97, 97]⟩, ⟨#[97, 97, 97]⟩, ⟨#[97, 97, 97]⟩]⟩)
            rw [hv]
            clear hown4 hgrow4 hv HL8 HL7
            go_wp2_with fail
            go_roundw
            case rel => exact ⟨_, by rw [HLN.out]; omega, HL9.out.mono (by rw [HLN.out]; omega)⟩
            case measure => simp [lenOf]; omega
          · have hd2 : decide ((cs.length : Int) < 4 + y) = false := by simpa using hlt2
            go_wp2_with fail
            go_ret
            exact ⟨ad2, cp2, cs, rfl, hc5, HL6.out.mono (by omega)⟩
/-- what a law needs of drawn blocks -/
structure BsR (w : World) (a : Option Addr) (cp : Nat) (bs : List BlkT) : Prop where
  len : bs.length ≤ 5
  cap : bs.length ≤ cp
  at_ : BlksAt w a bs
  short : ∀ b ∈ bs, b.zs.length ≤ 6 ∧ TxIn 6 b.zs
theorem BsR.below {w w' : World} {a : Option Addr} {cp : Nat} {bs : List BlkT} (h : BsR w a cp bs) (hb : Below w.heap.size w w') : BsR w' a cp bs := ⟨h.len, h.cap, h.at_.below hb, h.short⟩
theorem BsR.m {w : World} {a : Option Addr} {cp : Nat} {bs : List BlkT} (h : BsR w a cp bs) : bs.length ≤ maxLen := by have := h.len; unfold maxLen; omega
theorem BsR.fits {w : World} {a : Option Addr} {cp : Nat} {bs : List BlkT} (h : BsR w a cp bs) : Fits bs := fun b hb => by
  obtain ⟨h1, h2⟩ := h.short b hb
  exact ⟨by unfold maxLen; omega, fun z hz => by have := h2 z hz; unfold maxLen; omega⟩
theorem LsB.out {w wr : World} {g n : Nat} {ad : Option Addr} {cp : Nat} {bs : List BlkT} (h : LsB w wr g n (.slice ad bs.length cp) bs) (hl : bs.length ≤ 5) : BsR wr ad cp bs :=
  ⟨hl, own_le h.own, ⟨own_reads h.own, fun b hb => own_reads (h.inner b hb).2.2⟩, fun b hb => ⟨(h.inner b hb).1, (h.inner b hb).2.1⟩⟩
end
section
open Go.RowKit

theorem cnt_layL (x y : List UInt8) (c m : Nat) : (layL x y c m).count 46 ≤ x.count 46 := by
  have e : x = (List.range x.length).map (fun k => x.getD k 0) := by
    apply List.ext_getElem (by simp)
    intro k h1 h2
    simp [List.getD_eq_getElem?_getD, List.getElem?_eq_getElem h1]
  conv => rhs; rw [e]
  unfold layL
  simp only [List.count_eq_countP, List.countP_map]
  refine List.countP_mono_left fun k hk h => ?_
  simp only [Function.comp] at h ⊢
  split at h
  · rename_i q
    exact absurd (by simpa using h) q.2.2
  · exact h
theorem cnt_layRow (x y : ByteArray) (c : Nat) : cntTo (layRow x y c) (layRow x y c).size ≤ cntTo x x.size := by
  rw [cntTo_all, cntTo_all]
  have : (layRow x y c).data.toList = layL x.data.toList y.data.toList c y.size := by simp [layRow]
  rw [this]
  exact cnt_layL _ _ _ _
theorem pts_layTo (xs ys : List ByteArray) (r c i : Nat) : ∀ k, k ≤ xs.length → ptsTo (layTo xs ys r c i) k ≤ ptsTo xs k := by
  intro k
  induction k with
  | zero => intro _; exact Nat.le_refl _
  | succ k ih =>
    intro hk
    have h1 := ih (by omega)
    rw [ptsTo, ptsTo]
    have h2 : cntTo (rowAt (layTo xs ys r c i) k) (rowAt (layTo xs ys r c i) k).size ≤ cntTo (rowAt xs k) (rowAt xs k).size := by
      rw [rowAt_layTo (by omega)]
      split
      · exact cnt_layRow _ _ _
      · exact Nat.le_refl _
    omega
theorem pts_layR {xs ys : List ByteArray} {r c : Int} (h : fitsB xs ys r c = true) : ptsF (layR xs ys r c) ≤ ptsF xs := by
  rw [layR, if_pos h, ptsF, ptsF, layF, layTo_len]
  exact pts_layTo _ _ _ _ _ _ (Nat.le_refl _)
theorem pts_layW {xs ys : List ByteArray} {r c : Int} (h : okW xs ys r c = true) : ptsF (layW xs ys r c) ≤ ptsF xs := by
  simp only [okW, Bool.and_eq_true] at h
  rw [layW_of h.1]
  exact pts_layR h.2
theorem okW_plF {xs ys : List ByteArray} {p : Int × Int} (hp : p ∈ plR xs ys) : okW xs ys p.1 p.2 = true ∧ gridB xs 5 = true ∧ (-10 ≤ p.1 ∧ p.1 ≤ 10) ∧ (-10 ≤ p.2 ∧ p.2 ≤ 10) := by
  unfold plR at hp
  split at hp
  · rename_i h
    have hg : gridB xs 5 = true := by simp only [okP, Bool.and_eq_true] at h; exact h.1
    have hs := plF_small hg hp
    obtain ⟨r, c, rfl, _, _, hf⟩ := plF_in hp
    exact ⟨by rw [okW, h, hf]; rfl, hg, ⟨hs.1, hs.2.1⟩, ⟨hs.2.2.1, hs.2.2.2⟩⟩
  · cases hp
theorem inB_neg (d : Int) : inB (-d) (-2) 2 = inB d (-2) 2 := by
  rw [Bool.eq_iff_iff, inB_true, inB_true]; omega
theorem agS_flip {xs ys : List ByteArray} {d r : Int} (hy : gridB ys 3 = true) : agS ys xs (-d) (-r) = agI xs ys d r := by
  obtain ⟨_, _, hy3⟩ := gridB_bd hy
  have e : ∀ i k, okS ys xs (-d) (-r) i k = okI xs ys d r i k := by
    intro i k
    unfold okS okI
    rw [Int.sub_neg, Int.sub_neg, diffB_symm]
  rw [Bool.eq_iff_iff]
  simp only [agS, agI, allB_true]
  constructor
  · intro h i hi k hk
    rw [(hy3 i hi).1] at hk
    rw [← e]; exact h i hi k hk
  · intro h i hi k hk
    rw [e]; exact h i hi k (by rw [(hy3 i hi).1]; exact hk)
theorem agF_flip (xs ys : List ByteArray) (d r : Int) : agF ys xs (-d) (-r) = agF xs ys d r := by
  unfold agF
  rw [inB_neg, inB_neg, Bool.and_comm (gridB ys 3) (gridB xs 3)]
  by_cases h : (gridB xs 3 && gridB ys 3 && inB d (-2) 2 && inB r (-2) 2) = true
  · rw [if_pos h, if_pos h]
    simp only [Bool.and_eq_true] at h
    rw [agS_flip h.1.1.2, ag_eq h.1.1.1 h.1.1.2]
  · rw [if_neg h, if_neg h]
theorem grid_small2 {zs : List ByteArray} (h : gridB zs 5 = true) : zs.length ≤ 1048576 ∧ ∀ z ∈ zs, z.size ≤ 1048576 := by
  obtain ⟨_, l2, _⟩ := gridB_bd h
  exact ⟨by omega, fun z hz => by have := gridB_mem h z hz; omega⟩
theorem ptsR_of {zs : List ByteArray} (h : gridB zs 5 = true) : ptsR zs = ((ptsF zs : Int), true) := by rw [ptsR, if_pos h]
end
section
open Go.RowKit

theorem neq_pair (a b : Int) (W : World) : (binOp .neq 54 (.agg #[.int .i64 a, .int .i64 b]) (.agg #[.int .i64 a, .int .i64 b])).run Try.prog W = .ok (.bool false) W := by
  obtain ⟨i0, hi, _⟩ := info_parts info_int
  have hc : Try.prog.cellsOf 3 = 1 := by kernel_rfl
  have he : Try.prog.plainKey 3 = true := by kernel_rfl
  have p0 : ∀ W, (part 3 #[.int .i64 a, .int .i64 b] 0).run Try.prog W = .ok (.int .i64 a) W := fun W => run_part_plain W he rfl
  have p1 : ∀ W, (part 3 #[.int .i64 a, .int .i64 b] 1).run Try.prog W = .ok (.int .i64 b) W := fun W => run_part_plain W he rfl
  have hi2 : ∀ W z, (Op.equalIn 9999 3 (.int .i64 z) (.int .i64 z)).run Try.prog W = .ok true W := fun W z => by
    rw [run_equalIn_int W 9998 3 .i64 .i64 z z Try.underlying3]; simp
  rw [run_neq_struct, run_equalIn_array W 9999 _ _ Try.underlying54 hi, hc]
  simp [Op.eqItems, List.range, List.range.loop, p0, p1, hi2]
set_option maxRecDepth 100000 in
set_option maxHeartbeats 1000000 in
theorem vPairs_same (a b : Option Addr) (ca cb : Nat) (ps : List (Int × Int)) (w : World) (hm : ps.length ≤ maxLen) (hx : Reads w a (pairs ps)) (hy : Reads w b (pairs ps)) :
    Calls Try.prog 28 #[.slice a ps.length ca, .slice b ps.length cb] w fun e w' => e = .returned (.bool true) ∧ Dr w w' := by
  unfold maxLen at hm
  have HX := Lib.hid hx
  have HY := Lib.hid hy
  clear hx hy
  go_enter Try.func28, Try.ntmps28
  go_wp2_with fail
  go_loopw [5] (fun i wr => ∃ k : Nat, k ≤ ps.length ∧ i = .int .i64 k ∧ Dr w wr) (fun i _ => ps.length - (intOf i).toNat)
  case atStart => exact ⟨0, Nat.zero_le _, rfl, Dr.refl _⟩
  case round =>
    obtain ⟨k, hk, rfl, hdr⟩ := hrel
    by_cases hlt : k < ps.length
    · rcases HX.out.dr hdr with h0 | ⟨b1, o1, rfl, hb1, hc1⟩
      · have := pairs_length ps; rw [h0] at this; simp at this; omega
      rcases HY.out.dr hdr with h0 | ⟨b2, o2, rfl, hb2, hc2⟩
      · have := pairs_length ps; rw [h0] at this; simp at this; omega
      obtain ⟨g0, g1⟩ := pairs_get hlt
      have c0 := hc1 _ _ g0
      have c1 := hc1 _ _ g1
      have d0 := hc2 _ _ g0
      have d1 := hc2 _ _ g1
      simp only [← Nat.add_assoc] at c1 d1
      have hn := neq_pair ps[k].1 ps[k].2
      have HDR := Lib.hid hdr
      clear hc1 hc2 g0 g1 hdr
      go_wp2_with fail
      go_quiet (fail)
      go_wp2_with fail
      go_roundw
      case rel => exact ⟨k + 1, by omega, by go_num, HDR.out.trans (Dr.of _ _)⟩
      case measure => simp [intOf]; omega
    · obtain rfl : k = ps.length := by omega
      go_wp2_with fail
      go_ret
      exact ⟨rfl, hdr⟩
set_option maxRecDepth 100000 in
set_option maxHeartbeats 1000000 in
theorem vTexts_same (a b : Option Addr) (ca cb : Nat) (xs : List ByteArray) (w : World) (hm : xs.length ≤ maxLen) (hx : Reads w a (strs xs)) (hy : Reads w b (strs xs)) :
    Calls Try.prog 35 #[.slice a xs.length ca, .slice b xs.length cb] w fun e w' => e = .returned (.bool true) ∧ Dr w w' := by
  unfold maxLen at hm
  have HX := Lib.hid hx
  have HY := Lib.hid hy
  clear hx hy
  go_enter Try.func35, Try.ntmps35
  go_wp2_with fail
  go_loopw [5] (fun i wr => ∃ k : Nat, k ≤ xs.length ∧ i = .int .i64 k ∧ Dr w wr) (fun i _ => xs.length - (intOf i).toNat)
  case atStart => exact ⟨0, Nat.zero_le _, rfl, Dr.refl _⟩
  case round =>
    obtain ⟨k, hk, rfl, hdr⟩ := hrel
    by_cases hlt : k < xs.length
    · rcases HX.out.dr hdr with h0 | ⟨b1, o1, rfl, hb1, hc1⟩
      · simp [strs] at h0; subst h0; simp at hlt
      rcases HY.out.dr hdr with h0 | ⟨b2, o2, rfl, hb2, hc2⟩
      · simp [strs] at h0; subst h0; simp at hlt
      have c0 := hc1 _ _ (strs_get hlt)
      have d0 := hc2 _ _ (strs_get hlt)
      have HDR := Lib.hid hdr
      clear hc1 hc2 hdr
      go_wp2_with fail
      go_quiet (fail)
      go_wp2_with fail
      go_roundw
      case rel => exact ⟨k + 1, by omega, by go_num, HDR.out.trans (Dr.of _ _)⟩
      case measure => simp [intOf]; omega
    · obtain rfl : k = xs.length := by omega
      go_wp2_with fail
      go_ret
      exact ⟨rfl, hdr⟩
end
section
open Go.RowKit

set_option maxRecDepth 100000 in
set_option maxHeartbeats 400000 in
theorem drawFirst_any (a : Option Addr) (cap : Nat) (cs : List Int) (w : World) (hm : cs.length ≤ maxLen) (hr : Reads w a (bytesV cs)) (hz : ∀ z ∈ cs, 0 ≤ z ∧ z ≤ 255) :
    Calls Try.prog 44 #[.slice a cs.length cap] w fun e w' => ∃ (r c : Int) (ad : Option Addr) (cp : Nat) (bs : List BlkT), e = .returned (.tuple #[.int .i64 r, .int .i64 c, .slice ad bs.length cp]) ∧ BsR w' ad cp bs ∧ Below w.heap.size w w' := by
  have HC := Lib.hid (cur_newT cap hm hr hz)
  have HB := Lib.hid (fun w g n h hn => blocks_any g n w h hn)
  have HA1 := Lib.hid (fun w g n h hn => among_lit g n [1, 2, 2, 3, 3, 4, 5, 0, 6] w h hn (by simp) (by simp) #[.int .i64 1, .int .i64 2, .int .i64 2, .int .i64 3, .int .i64 3, .int .i64 4, .int .i64 5, .int .i64 0, .int .i64 6] rfl 9 rfl)
  have HA2 := Lib.hid (fun w g n h hn => among_lit g n [1, 2, 3, 3, 4, 5, 6] w h hn (by simp) (by simp) #[.int .i64 1, .int .i64 2, .int .i64 3, .int .i64 3, .int .i64 4, .int .i64 5, .int .i64 6] rfl 7 rfl)
  have HB0 : Hid (∀ w', (w.alloc (.cells #[.slice a cs.length cap, .int .i64 0, .int .u64 0] 92)).grownBy w' (some w.heap.size) → Below w.heap.size w w') := Lib.hid (fun w' h => below_curT h)
  have hs0 : (w.alloc (.cells #[.slice a cs.length cap, .int .i64 0, .int .u64 0] 92)).heap.size = w.heap.size + 1 := by simp
  clear hr hz
  go_enter Try.func44, Try.ntmps44
  go_wp2_with fail
  generalize w.alloc (.cells #[.slice a cs.length cap, .int .i64 0, .int .u64 0] 92) = w0 at *
  rw [← hs0]
  clear hs0
  refine (HA1.out _ _ 0 HC.out (by omega)).mono ?_
  rintro e w1 ⟨r, rfl, _, hc1, hg1⟩
  have HC1 := Lib.hid hc1
  have HG1 := Lib.hid hg1
  clear hc1 hg1
  go_wp2_with fail
  refine (HA2.out _ _ _ HC1.out (by omega)).mono ?_
  rintro e w2 ⟨c, rfl, _, hc1, hg1⟩
  have HC2 := Lib.hid hc1
  have HG2 := Lib.hid (grownBy_trans HG1.out hg1)
  clear hc1 hg1
  go_wp2_with fail
  refine (HB.out _ _ _ HC2.out (by omega)).mono ?_
  rintro e w3 ⟨ad, cp, bs, rfl, hl5, hls⟩
  have HR3 := Lib.hid (hls.out hl5)
  have HB3 := Lib.hid (HB0.out _ (grownBy_trans HG2.out hls.grown))
  clear hls
  go_wp2_with fail
  go_ret3
  exact ⟨_, _, _, _, _, rfl, HR3.out, HB3.out⟩
set_option maxRecDepth 100000 in
set_option maxHeartbeats 400000 in
theorem drawFull_any (a : Option Addr) (cap : Nat) (cs : List Int) (w : World) (hm : cs.length ≤ maxLen) (hr : Reads w a (bytesV cs)) (hz : ∀ z ∈ cs, 0 ≤ z ∧ z ≤ 255) :
    Calls Try.prog 46 #[.slice a cs.length cap] w fun e w' => ∃ (r c : Int) (ad : Option Addr) (cp : Nat) (bs : List BlkT), e = .returned (.tuple #[.int .i64 r, .int .i64 c, .slice ad bs.length cp]) ∧ BsR w' ad cp bs ∧ Below w.heap.size w w' := by
  have HC := Lib.hid (cur_newT cap hm hr hz)
  have HB := Lib.hid (fun w g n h hn => blocks_any g n w h hn)
  have HA1 := Lib.hid (fun w g n h hn => among_lit g n [1, 2, 2, 3, 3, 0] w h hn (by simp) (by simp) #[.int .i64 1, .int .i64 2, .int .i64 2, .int .i64 3, .int .i64 3, .int .i64 0] rfl 6 rfl)
  have HA2 := Lib.hid (fun w g n h hn => among_lit g n [1, 2, 3, 3, 6] w h hn (by simp) (by simp) #[.int .i64 1, .int .i64 2, .int .i64 3, .int .i64 3, .int .i64 6] rfl 5 rfl)
  have HB0 : Hid (∀ w', (w.alloc (.cells #[.slice a cs.length cap, .int .i64 0, .int .u64 0] 92)).grownBy w' (some w.heap.size) → Below w.heap.size w w') := Lib.hid (fun w' h => below_curT h)
  have hs0 : (w.alloc (.cells #[.slice a cs.length cap, .int .i64 0, .int .u64 0] 92)).heap.size = w.heap.size + 1 := by simp
  clear hr hz
  go_enter Try.func46, Try.ntmps46
  go_wp2_with fail
  generalize w.alloc (.cells #[.slice a cs.length cap, .int .i64 0, .int .u64 0] 92) = w0 at *
  rw [← hs0]
  clear hs0
  refine (HA1.out _ _ 0 HC.out (by omega)).mono ?_
  rintro e w1 ⟨r, rfl, _, hc1, hg1⟩
  have HC1 := Lib.hid hc1
  have HG1 := Lib.hid hg1
  clear hc1 hg1
  go_wp2_with fail
  refine (HA2.out _ _ _ HC1.out (by omega)).mono ?_
  rintro e w2 ⟨c, rfl, _, hc1, hg1⟩
  have HC2 := Lib.hid hc1
  have HG2 := Lib.hid (grownBy_trans HG1.out hg1)
  clear hc1 hg1
  go_wp2_with fail
  refine (HB.out _ _ _ HC2.out (by omega)).mono ?_
  rintro e w3 ⟨ad, cp, bs, rfl, hl5, hls⟩
  have HR3 := Lib.hid (hls.out hl5)
  have HB3 := Lib.hid (HB0.out _ (grownBy_trans HG2.out hls.grown))
  clear hls
  go_wp2_with fail
  go_ret3
  exact ⟨_, _, _, _, _, rfl, HR3.out, HB3.out⟩
set_option maxRecDepth 100000 in
set_option maxHeartbeats 400000 in
theorem drawCount_any (a : Option Addr) (cap : Nat) (cs : List Int) (w : World) (hm : cs.length ≤ maxLen) (hr : Reads w a (bytesV cs)) (hz : ∀ z ∈ cs, 0 ≤ z ∧ z ≤ 255) :
    Calls Try.prog 45 #[.slice a cs.length cap] w fun e w' => ∃ (r c : Int) (ad : Option Addr) (cp : Nat) (bs : List BlkT) (m : Int), e = .returned (.tuple #[.int .i64 r, .int .i64 c, .slice ad bs.length cp, .int .i64 m]) ∧ BsR w' ad cp bs ∧ Below w.heap.size w w' := by
  have HC := Lib.hid (cur_newT cap hm hr hz)
  have HB := Lib.hid (fun w g n h hn => blocks_any g n w h hn)
  have HA1 := Lib.hid (fun w g n h hn => among_lit g n [1, 2, 2, 3, 3, 4, 0] w h hn (by simp) (by simp) #[.int .i64 1, .int .i64 2, .int .i64 2, .int .i64 3, .int .i64 3, .int .i64 4, .int .i64 0] rfl 7 rfl)
  have HA2 := Lib.hid (fun w g n h hn => among_lit g n [1, 2, 3, 3, 4, 6] w h hn (by simp) (by simp) #[.int .i64 1, .int .i64 2, .int .i64 3, .int .i64 3, .int .i64 4, .int .i64 6] rfl 6 rfl)
  have HA3 := Lib.hid (fun w g n h hn => among_lit g n [1, 5, 50, 300, 0, 1001] w h hn (by simp) (by simp) #[.int .i64 1, .int .i64 5, .int .i64 50, .int .i64 300, .int .i64 0, .int .i64 1001] rfl 6 rfl)
  have HB0 : Hid (∀ w', (w.alloc (.cells #[.slice a cs.length cap, .int .i64 0, .int .u64 0] 92)).grownBy w' (some w.heap.size) → Below w.heap.size w w') := Lib.hid (fun w' h => below_curT h)
  have hs0 : (w.alloc (.cells #[.slice a cs.length cap, .int .i64 0, .int .u64 0] 92)).heap.size = w.heap.size + 1 := by simp
  clear hr hz
  go_enter Try.func45, Try.ntmps45
  go_wp2_with fail
  generalize w.alloc (.cells #[.slice a cs.length cap, .int .i64 0, .int .u64 0] 92) = w0 at *
  rw [← hs0]
  clear hs0
  refine (HA1.out _ _ 0 HC.out (by omega)).mono ?_
  rintro e w1 ⟨r, rfl, _, hc1, hg1⟩
  have HC1 := Lib.hid hc1
  have HG1 := Lib.hid hg1
  clear hc1 hg1
  go_wp2_with fail
  refine (HA2.out _ _ _ HC1.out (by omega)).mono ?_
  rintro e w2 ⟨c, rfl, _, hc1, hg1⟩
  have HC2 := Lib.hid hc1
  have HG2 := Lib.hid (grownBy_trans HG1.out hg1)
  clear hc1 hg1
  go_wp2_with fail
  refine (HB.out _ _ _ HC2.out (by omega)).mono ?_
  rintro e w3 ⟨ad, cp, bs, rfl, hl5, hls⟩
  have HLS := Lib.hid hls
  clear hls
  go_wp2_with fail
  refine (HA3.out _ _ _ HLS.out.cur (by omega)).mono ?_
  rintro e w4 ⟨m, rfl, _, hc1, hg1⟩
  have hls := HLS.out.step hc1 hg1
  have HR3 := Lib.hid (hls.out hl5)
  have HB3 := Lib.hid (HB0.out _ (grownBy_trans HG2.out hls.grown))
  clear hls hc1 hg1
  go_wp2_with fail
  refine bodyPost_ret (v := .tuple #[.int .i64 r, .int .i64 c, .slice ad bs.length cp, .int .i64 m]) (by simp [results, Try.results45, go_sem]) rfl ?_
  exact ⟨_, _, _, _, _, _, rfl, HR3.out, HB3.out⟩
end
section
open Go.RowKit

/-- the sheet with the fewest points so far -/
def fullStep (st : List ByteArray × Nat) (l : Leaf) : List ByteArray × Nat := if ptsF l.2 < st.2 then (l.2, ptsF l.2) else st
def fullF (L : List Leaf) (st : List ByteArray × Nat) : List ByteArray × Nat := L.foldl fullStep st
theorem fullF_app (a b : List Leaf) (st : List ByteArray × Nat) : fullF (a ++ b) st = fullF b (fullF a st) := by simp [fullF]
theorem fullF_le (L : List Leaf) : ∀ st : List ByteArray × Nat, (fullF L st).2 ≤ st.2 := by
  induction L with
  | nil => intro st; exact Nat.le_refl _
  | cons l L ih =>
    intro st
    refine Nat.le_trans (ih (fullStep st l)) ?_
    unfold fullStep
    split <;> simp <;> omega
def FullOut (B : Nat) (w : World) (r : List ByteArray × Nat) (e : Ending) (w' : World) : Prop := ∃ ra rc, e = .returned (.tuple #[.slice ra r.1.length rc, .int .i64 (r.2 : Int)]) ∧
  w'.ownsRow B 9 1 (.slice ra r.1.length rc) r.1.length (strs r.1) ∧ Below w.heap.size w w'
theorem grid_small {zs : List ByteArray} (h : gridB zs 5 = true) : zs.length ≤ 1048576 ∧ ∀ z ∈ zs, z.size ≤ 1048576 := by
  obtain ⟨_, l2, _⟩ := gridB_bd h
  exact ⟨by omega, fun z hz => by have := gridB_mem h z hz; omega⟩
set_option maxRecDepth 100000 in
set_option maxHeartbeats 4000000 in
theorem l4Fullest_any (B : Nat) (ba : Option Addr) (bc : Nat) (bs : List BlkT) (hbl : bs.length ≤ 4) (hbg : ∀ b ∈ bs, gridB b.zs 3 = true) : ∀ (n j : Nat), bs.length - j = n → j ≤ bs.length → ∀ (sa : Option Addr) (sc : Nat) (s : List ByteArray) (ta : Option Addr) (tc : Nat) (bst : List ByteArray) (least : Nat) (ps : List (Int × Int)) (w : World),
    gridB s 5 = true → B ≤ w.heap.size → w.ownsRow B 9 1 (.slice sa s.length sc) s.length (strs s) → w.ownsRow B 9 1 (.slice ta bst.length tc) bst.length (strs bst) → least ≤ 99 → BlksAt w ba bs →
    Calls Try.prog 65 #[.slice sa s.length sc, .slice ba bs.length bc, .int .i64 (j : Int), .slice ta bst.length tc, .int .i64 (least : Int)] w (FullOut B w (fullF (leaves (zssB (bs.drop j)) s ps) (bst, least))) := by
  intro n
  induction n with
  | zero =>
    intro j hn hj sa sc s ta tc bst least ps w gs hB hs ht hl hb
    obtain rfl : j = bs.length := by omega
    have HR := Lib.hid (show fullF (leaves (zssB (bs.drop bs.length)) s ps) (bst, least) = fullStep (bst, least) (ps, s) by rw [List.drop_length]; rfl)
    rw [HR.out]
    have HP := Lib.hid (l4Points_any sa sc s w (grid_small gs).1 (grid_small gs).2 (own_reads hs))
    have HS := Lib.hid hs
    have HT := Lib.hid ht
    clear hs ht hb hbg gs
    by_cases hlt : ptsF s < least
    · have hd : decide (ptsF s < least) = true := by simpa using hlt
      have HF := Lib.hid (show fullStep (bst, least) (ps, s) = (s, ptsF s) by simp [fullStep, hlt])
      rw [HF.out]
      go_enter Try.func65, Try.ntmps65
      go_wp2_with (go_at_call 83; refine HP.out.mono ?_; rintro e w' ⟨rfl, rfl⟩)
      go_ret2
      exact ⟨_, _, rfl, HS.out, Below.refl _ _⟩
    · have hd : decide (ptsF s < least) = false := by simpa using hlt
      have HF := Lib.hid (show fullStep (bst, least) (ps, s) = (bst, least) by simp [fullStep, hlt])
      rw [HF.out]
      go_enter Try.func65, Try.ntmps65
      go_wp2_with (go_at_call 83; refine HP.out.mono ?_; rintro e w' ⟨rfl, rfl⟩)
      go_ret2
      exact ⟨_, _, rfl, HT.out, Below.refl _ _⟩
  | succ n ih =>
    intro j hn hj sa sc s ta tc bst least ps w gs hB hs ht hl hb
    have hjl : j < bs.length := by omega
    have HG := Lib.hid gs
    have gb := hbg _ (List.getElem_mem hjl)
    have HZ := Lib.hid (zssB_drop hjl)
    have HS := Lib.hid (own_reads hs)
    have HT := Lib.hid ht
    have HBB := Lib.hid hB
    have HB := Lib.hid hb
    have hin := hb.inner _ (List.getElem_mem hjl)
    have hne2 : ((j : Int) == (bs.length : Int)) = false := by simp; omega
    rcases hb.outer with h0 | ⟨b, off, rfl, hbk, hc⟩
    · have := blks_length bs; rw [h0] at this; simp at this; omega
    have hc0 := hc _ _ (blks_get hjl)
    obtain ⟨⟨ya, yc, ys⟩, hy⟩ : ∃ y, y = bs[j] := ⟨_, rfl⟩
    rw [← hy] at hc0 hin gb HZ
    simp only at hc0 hin gb HZ
    have HY := Lib.hid hin
    have HGB := Lib.hid gb
    have HC0 := Lib.hid hc0
    obtain ⟨rest, hrest⟩ : ∃ rest, rest = zssB (bs.drop (j + 1)) := ⟨_, rfl⟩
    rw [← hrest] at HZ
    have HIH := Lib.hid (fun sa sc s ta tc bst least ps w g1 g2 g3 g4 g5 g6 => ih (j + 1) (by omega) (by omega) sa sc s ta tc bst least ps w g1 g2 g3 g4 g5 g6)
    rw [← hrest] at HIH
    rw [HZ.out]
    have HALL := Lib.hid (leavesTo_all ys rest s ps)
    have HSUC := Lib.hid (fun k h => leavesTo_succ (b := ys) (bs := rest) (s := s) (ps := ps) (k := k) h)
    have hj0 : (0 : Int) ≤ (j : Int) := by omega
    have hj1 : (j : Int) < (bs.length : Int) := by omega
    have hnl : ¬ j = bs.length := by omega
    clear ih hs ht hb hin gb hc hy hrest gs hB
    go_enter Try.func65, Try.ntmps65
    go_wp2_with fail
    refine (l4Places_any _ _ _ _ s ys _ HG.out HGB.out HS.out HY.out).mono ?_
    rintro e w1 ⟨pa, pc, rfl, hown, hb1⟩
    have HPL := Lib.hid hown
    have HB1 := Lib.hid hb1
    have hpl := plF_len' (ys := ys) HG.out
    clear hown hb1
    go_wp2_with fail
    obtain ⟨pl, hpe⟩ : ∃ pl, pl = plF s ys := ⟨_, rfl⟩
    rw [← hpe] at HPL hpl HALL ⊢
    have HPE := Lib.hid hpe
    clear hpe
    go_loopw [3, 4, 14] (fun t q i wr => ∃ (i0 : Nat) (ua : Option Addr) (uc : Nat) (ust : List ByteArray) (ul : Nat), i0 ≤ pl.length ∧ i = .int .i64 i0 ∧ t = .slice ua ust.length uc ∧ q = .int .i64 (ul : Int) ∧ Hid (fullF (leavesTo ys rest s ps i0) (bst, least) = (ust, ul)) ∧ ul ≤ 99 ∧ Hid (wr.ownsRow B 9 1 (.slice ua ust.length uc) ust.length (strs ust)) ∧ Below w1.heap.size w1 wr) (fun _ _ i _ => pl.length - (intOf i).toNat)
    case atStart => exact ⟨0, ta, tc, bst, least, by omega, rfl, rfl, rfl, Lib.hid (by rw [leavesTo_zero]; rfl), hl, Lib.hid (own_below HT.out HB1.out), Below.refl _ _⟩
    case round =>
      obtain ⟨i, ua, uc, ust, ul, hi, rfl, rfl, rfl, hrun, hul, hown2, hbel⟩ := hrel
      by_cases hil : i < pl.length
      · have hpm : pl[i] ∈ plF s ys := by rw [← HPE.out]; exact List.getElem_mem hil
        have hpg := layR_grid HG.out HGB.out hpm
        have hlr := layR_len hpm
        have hsuc : leavesTo ys rest s ps (i + 1) = leavesTo ys rest s ps i ++ leaves rest (layR s ys pl[i].1 pl[i].2) (ps ++ [pl[i]]) := by
          have h := HSUC.out i (by rw [← HPE.out]; exact hil)
          simp only [← HPE.out] at h; exact h
        have HLY := Lib.hid (fun w hx hy => l4LayR_any sa ya sc yc s ys pl[i] w HG.out HGB.out hpm hx hy)
        obtain ⟨s2, hs2⟩ : ∃ s2, s2 = layR s ys pl[i].1 pl[i].2 := ⟨_, rfl⟩
        rw [← hs2] at hpg hlr hsuc HLY
        have hBwr : B ≤ wr.heap.size := Nat.le_trans HBB.out (Nat.le_trans HB1.out.size hbel.size)
        have HBwr := Lib.hid hBwr
        have HCN := Lib.hid (fun (sa : Option Addr) (sc : Nat) w hB hr ht hb => HIH.out sa sc s2 ua uc ust ul (ps ++ [pl[i]]) w hpg hB hr ht hul hb)
        obtain ⟨⟨nst, nl⟩, hnew⟩ : ∃ r, r = fullF (leaves rest s2 (ps ++ [pl[i]])) (ust, ul) := ⟨_, rfl⟩
        rw [← hnew, hlr] at HCN
        have HNEW : Hid (fullF (leavesTo ys rest s ps (i + 1)) (bst, least) = (nst, nl)) := Lib.hid (by rw [hsuc, fullF_app, hrun.out, hnew])
        have hnl2 : nl ≤ 99 := by
          have := fullF_le (leaves rest s2 (ps ++ [pl[i]])) (ust, ul)
          rw [← hnew] at this; simp only at this; omega
        have hplr := own_reads HPL.out
        rcases hplr with h0 | ⟨pb, po, rfl, hpb, hpc⟩
        · have := pairs_length pl; rw [h0] at this; simp at this; omega
        obtain ⟨g0, g1⟩ := pairs_get hil
        have d0 := (hbel.cell (p := ⟨pb, _, none⟩) hpb).trans (hpc _ _ g0)
        have d1 := (hbel.cell (p := ⟨pb, _, none⟩) hpb).trans (hpc _ _ g1)
        simp only [← Nat.add_assoc] at d1
        obtain ⟨p1, hp1⟩ : ∃ x, x = pl[i].1 := ⟨_, rfl⟩
        obtain ⟨p2, hp2⟩ : ∃ x, x = pl[i].2 := ⟨_, rfl⟩
        rw [← hp1] at d0 HLY
        rw [← hp2] at d1 HLY
        have hB2 := HB1.out.trans (hbel.mono HB1.out.size)
        have cB := (hB2.cell (p := ⟨b, off + j, none⟩) hbk).trans HC0.out
        have HSr := Lib.hid (HS.out.below hB2)
        have HYr := Lib.hid (HY.out.below hB2)
        have HBr := Lib.hid (HB.out.below hB2)
        have HTr := Lib.hid hown2.out
        have HBL := Lib.hid hbel
        have hw1 : IntKind.i64.wrap ((j : Int) + 1) = ((j + 1 : Nat) : Int) := by rw [small_in (by omega) (by omega)]; omega
        have i0 : (0 : Int) ≤ (i : Int) := by omega
        have i1 : (i : Int) < (pl.length : Int) := by omega
        clear hpm hpg hlr hsuc hs2 hnew g0 g1 hpc hp1 hp2 hB2 hbel hrun hown2 hBwr
        go_wp2_with fail
        go_region_held3 (fun w' => w'.cell? ⟨b, off + j, none⟩ = some (.slice ya ys.length yc) ∧ w'.cell? ⟨pb, po + i * 2, none⟩ = some (.int .i64 p1) ∧ w'.cell? ⟨pb, po + i * 2 + 1, none⟩ = some (.int .i64 p2))
          (first | exact ⟨cB, d0, d1⟩ | exact ⟨cell_later hb2 cB, cell_later hb2 d0, cell_later hb2 d1⟩ | exact ⟨cell_later hb3 (cell_later hb2 cB), cell_later hb3 (cell_later hb2 d0), cell_later hb3 (cell_later hb2 d1)⟩)
          (first
            | (go_at_call 79; refine (HLY.out _ (Reads.drew HSr.out) (Reads.drew HYr.out)).mono ?_; rintro e w2 ⟨ad2, cp2, rfl, ho2, hb2⟩)
            | (go_at_call 65; refine (HCN.out _ _ _ (Nat.le_trans HBwr.out hb2.size) (World.ownsRow.mono ho2 HBwr.out) (own_below HTr.out.drew hb2) ((HBr.out.below ((Below.refl _ _).drew)).below hb2)).mono ?_; rintro e w3 ⟨ua3, uc3, rfl, ho3, hb3⟩))
        have HBB3 := Lib.hid (HBL.out.trans ((((Below.refl wr.heap.size wr).drew.trans (hb2.mono (Nat.le_refl _))).trans (hb3.mono hb2.size)).mono HBL.out.size))
        have HO3 := Lib.hid ho3
        clear hb2 hb3 ho2 ho3 cB d0 d1
        go_wp2_with fail
        go_roundw
        case rel => exact ⟨i + 1, _, _, _, nl, by omega, by go_num, rfl, rfl, HNEW, hnl2, HO3, HBB3.out⟩
        case measure => simp [intOf]; omega
      · obtain rfl : i = pl.length := by omega
        have HBR := Lib.hid (HB1.out.trans (hbel.mono HB1.out.size))
        have HFIN : Hid (fullF (leaves (ys :: rest) s ps) (bst, least) = (ust, ul)) := Lib.hid (by rw [← HALL.out]; exact hrun.out)
        have HO := Lib.hid hown2.out
        clear hbel hrun hown2
        go_wp2_with fail
        go_ret2
        rw [HFIN.out]
        exact ⟨_, _, rfl, HO.out, HBR.out⟩
end
section
open Go.RowKit

/-- the best sheet so far, and its points -/
def uStep (st : Option (List ByteArray × Nat)) (l : Leaf) : Option (List ByteArray × Nat) × Bool :=
  match st with
  | none => (some (l.2, ptsF l.2), true)
  | some (b, n) => if ptsF l.2 < n then (some (l.2, ptsF l.2), true) else (some (b, n), true)
def uF (L : List Leaf) (st : Option (List ByteArray × Nat)) : Option (List ByteArray × Nat) := L.foldl (fun st l => (uStep st l).1) st
theorem uStep_true (st : Option (List ByteArray × Nat)) (l : Leaf) : (uStep st l).2 = true := by
  cases st with
  | none => rfl
  | some x => obtain ⟨b, n⟩ := x; simp only [uStep]; split <;> rfl
theorem uRun (L : List Leaf) : ∀ st, runL uStep st L = (uF L st, true) := by
  induction L with
  | nil => intro st; rfl
  | cons l L ih =>
    intro st
    rw [runL, uStep_true, if_pos rfl, ih]
    rfl
/-- what the two sides carry is the same -/
def URel : Option (List ByteArray × Nat) → List ByteArray × Nat → Prop
  | none, x => x = ([], 99)
  | some y, x => x = y ∧ y.2 < 99
theorem uF_rel : ∀ (L : List Leaf) (st : Option (List ByteArray × Nat)) (x : List ByteArray × Nat), (∀ l ∈ L, ptsF l.2 < 99) → URel st x → URel (uF L st) (fullF L x) := by
  intro L
  induction L with
  | nil => intro st x _ h; exact h
  | cons l L ih =>
    intro st x hl h
    have h1 := hl l (List.mem_cons_self ..)
    refine ih (uStep st l).1 (fullStep x l) (fun k hk => hl k (List.mem_cons_of_mem _ hk)) ?_
    cases st with
    | none =>
      obtain rfl : x = ([], 99) := h
      simp only [fullStep, uStep, h1, if_true]
      exact ⟨rfl, h1⟩
    | some y =>
      obtain ⟨b, n⟩ := y
      obtain ⟨rfl, h2⟩ := h
      simp only [fullStep, uStep]
      by_cases h3 : ptsF l.2 < n
      · simp only [h3, if_true]; exact ⟨rfl, h1⟩
      · simp only [h3, if_false]; exact ⟨rfl, h2⟩
def UInv (gp gs N : Nat) (st : Option (List ByteArray × Nat)) (w : World) : Prop := gp ≠ gs ∧ match st with
  | none => RowIs w gp 31 [.slice none 0 0] ∧ RowIs w gs 3 [.int .i64 0]
  | some (b, n) => ∃ ga gc, RowIs w gp 31 [.slice (some ⟨ga, 0, none⟩) b.length gc] ∧ RowIs w gs 3 [.int .i64 (n : Int)] ∧ w.ownsRow N 9 1 (.slice (some ⟨ga, 0, none⟩) b.length gc) b.length (strs b)
theorem eg66 : ∀ args w, (callFunc 66 args).run Try.prog w = .ok (.enter 66 args) w := enters_of Try.func66 (by kernel_rfl) rfl
set_option maxRecDepth 100000 in
set_option maxHeartbeats 4000000 in
theorem uTell (gp gs N : Nat) (h0 : gp < N) (h1 : gs < N) : Teller (Option (List ByteArray × Nat)) 66 (.pointer (some ⟨gp, 0, none⟩)) (.pointer (some ⟨gs, 0, none⟩)) (fun k => k = gp ∨ k = gs) N (UInv gp gs N) uStep (fun _ => True) := by
  refine ⟨fun k hk => by rcases hk with h | h <;> omega, fun _ _ _ _ => trivial, ?_, ?_⟩
  · intro st w w' row _ hi hf hr
    have ne : ∀ k, k < N → ¬ row = some k := fun k hk e => by have := (hr k e).1; omega
    refine ⟨hi.1, ?_⟩
    cases st with
    | none => exact ⟨hf.row hi.2.1 (ne _ h0), hf.row hi.2.2 (ne _ h1)⟩
    | some y =>
      obtain ⟨b, n⟩ := y
      obtain ⟨ga, gc, k1, k2, k3⟩ := hi.2
      refine ⟨ga, gc, hf.row k1 (ne _ h0), hf.row k2 (ne _ h1), hf.own k3 (fun q hq e => ?_)⟩
      obtain ⟨_, cur, hc⟩ := hr q e
      rcases k3.2 with ⟨h2, _⟩ | ⟨g', c', cur', h2, _, hh, _⟩
      · cases h2
      · injection h2 with h2
        injection h2 with h2
        injection h2 with h2
        simp [Value.ownBlock] at hq
        subst hq; subst h2
        rw [hc] at hh
        injection hh with hh
        injection hh with _ hh
        exact absurd hh (by decide)
  · intro st w pa pc ps sa sc s _ hi hN gs5 hcap hps hsh hp hs
    have HPT := Lib.hid (fun w hr => pointsOn_any sa sc s w hcap gs5 hr)
    have HSC := Lib.hid (fun w hr => cloneSheet_any sa sc s w gs5 hr)
    have HS := Lib.hid hs
    have HNN := Lib.hid hN
    have hne := hi.1
    have hne2 := hne.symm
    have hlast : ∀ (w2 : World) (sg sc' : Nat) (v1 v2 : Value), Below w.heap.size w w2 → w2.ownsRow w.heap.size 9 1 (.slice (some ⟨sg, 0, none⟩) s.length sc') s.length (strs s) → RowIs w2 gp 31 [v1] → RowIs w2 gs 3 [v2] →
        UInv gp gs N (some (s, ptsF s)) ((w2.setCell ⟨gp, 0, none⟩ (.slice (some ⟨sg, 0, none⟩) s.length sc')).setCell ⟨gs, 0, none⟩ (.int .i64 (ptsF s : Int))) ∧
        Fr (fun k => k = gp ∨ k = gs) w ((w2.setCell ⟨gp, 0, none⟩ (.slice (some ⟨sg, 0, none⟩) s.length sc')).setCell ⟨gs, 0, none⟩ (.int .i64 (ptsF s : Int))) := by
      intro w2 sg sc' v1 v2 hb ho hr1 hr2
      have hS := World.ownsRow.mono ho hN
      have hS2 := own_kept (own_kept hS (grownBy_setCell w2 ⟨gp, 0, none⟩ (.slice (some ⟨sg, 0, none⟩) s.length sc')) (fun q hq e => by have := (hS.lt q hq).1; have := Option.some.inj e; dsimp only at this; omega)) (grownBy_setCell _ ⟨gs, 0, none⟩ (.int .i64 (ptsF s : Int))) (fun q hq e => by have := (hS.lt q hq).1; have := Option.some.inj e; dsimp only at this; omega)
      refine ⟨⟨hne, sg, sc', (hr1.set 0 _).far (fun e => hne e) _, (hr2.far (fun e => hne e.symm) _).set 0 _, hS2⟩, ?_⟩
      exact ((Fr.of_below hb _).trans ((Fr.of_grown (grownBy_setCell w2 _ _)).mono (fun k _ h => .inl (Option.some.inj h).symm))).trans ((Fr.of_grown (grownBy_setCell _ _ _)).mono (fun k _ h => .inr (Option.some.inj h).symm))
    have HL := Lib.hid hlast
    have HI := Lib.hid hi
    clear hp hs gs5 hsh hN hlast hi hcap
    have hnn : ∀ W, (binOp .eql 31 (.slice none 0 0) (.slice none 0 0)).run Try.prog W = .ok (.bool true) W := fun W => Lib.run_eql_slice_nil_nil W _ _ Try.underlying31
    have hsn : ∀ W a l c, (binOp .eql 31 (.slice (some a) l c) (.slice none 0 0)).run Try.prog W = .ok (.bool false) W := fun W a l c => Lib.run_eql_slice_some_nil W a l c Try.underlying31
    cases st with
    | none =>
      clear hsn
      have HST := Lib.hid (show uStep none (ps, s) = (some (s, ptsF s), true) from rfl)
      rw [HST.out]
      have HI1 := Lib.hid (show RowIs w gp 31 [.slice none 0 0] from HI.out.2.1)
      have HI2 := Lib.hid (show RowIs w gs 3 [.int .i64 0] from HI.out.2.2)
      clear HI
      go_enter Try.func66, Try.ntmps66
      go_wp2_with fail
      refine (HPT.out _ HS.out).mono ?_
      rintro e w1 ⟨rfl, hb1⟩
      have HB1 := Lib.hid hb1
      have a0 := (HI1.out.below hb1).cell (j := 0) rfl
      have a1 := (HI2.out.below hb1).cell (j := 0) rfl
      clear hb1
      go_wp2_with fail
      refine (HSC.out _ (HS.out.below HB1.out)).mono ?_
      rintro e w2 ⟨sg, sc', rfl, ho2, hb2⟩
      have HB2 := Lib.hid (HB1.out.trans (hb2.mono HB1.out.size))
      have HO2 := Lib.hid (World.ownsRow.mono ho2 HB1.out.size)
      have HR1 := Lib.hid (HI1.out.below HB2.out)
      have HR2 := Lib.hid (HI2.out.below HB2.out)
      have a2 := HR1.out.cell (j := 0) rfl
      have a3 := HR2.out.cell (j := 0) rfl
      have f0 := HR1.out.free 0
      have f1 := HR2.out.free 0
      clear ho2 hb2 a0 a1
      go_wp2_with fail
      go_ret
      obtain ⟨r1, r2⟩ := HL.out w2 sg sc' _ _ HB2.out HO2.out HR1.out HR2.out
      exact ⟨rfl, r1, r2⟩
    | some y =>
      obtain ⟨b, n⟩ := y
      obtain ⟨ga, gc, k1, k2, k3⟩ := HI.out.2
      have HI1 := Lib.hid k1
      have HI2 := Lib.hid k2
      clear k1 k2 k3 hnn
      by_cases hlt : ptsF s < n
      · have HST := Lib.hid (show uStep (some (b, n)) (ps, s) = (some (s, ptsF s), true) by simp [uStep, hlt])
        rw [HST.out]
        have hd : decide (ptsF s < n) = true := by simpa using hlt
        clear HI
        go_enter Try.func66, Try.ntmps66
        go_wp2_with fail
        refine (HPT.out _ HS.out).mono ?_
        rintro e w1 ⟨rfl, hb1⟩
        have HB1 := Lib.hid hb1
        have a0 := (HI1.out.below hb1).cell (j := 0) rfl
        have a1 := (HI2.out.below hb1).cell (j := 0) rfl
        clear hb1
        go_wp2_with fail
        refine (HSC.out _ (HS.out.below HB1.out)).mono ?_
        rintro e w2 ⟨sg, sc', rfl, ho2, hb2⟩
        have HB2 := Lib.hid (HB1.out.trans (hb2.mono HB1.out.size))
        have HO2 := Lib.hid (World.ownsRow.mono ho2 HB1.out.size)
        have HR1 := Lib.hid (HI1.out.below HB2.out)
        have HR2 := Lib.hid (HI2.out.below HB2.out)
        have a2 := HR1.out.cell (j := 0) rfl
        have a3 := HR2.out.cell (j := 0) rfl
        have f0 := HR1.out.free 0
        have f1 := HR2.out.free 0
        clear ho2 hb2 a0 a1
        go_wp2_with fail
        go_ret
        obtain ⟨r1, r2⟩ := HL.out w2 sg sc' _ _ HB2.out HO2.out HR1.out HR2.out
        exact ⟨rfl, r1, r2⟩
      · have HST := Lib.hid (show uStep (some (b, n)) (ps, s) = (some (b, n), true) by simp [uStep, hlt])
        rw [HST.out]
        have hd : decide (ptsF s < n) = false := by simpa using hlt
        go_enter Try.func66, Try.ntmps66
        go_wp2_with fail
        refine (HPT.out _ HS.out).mono ?_
        rintro e w1 ⟨rfl, hb1⟩
        have HB1 := Lib.hid hb1
        have a0 := (HI1.out.below hb1).cell (j := 0) rfl
        have a1 := (HI2.out.below hb1).cell (j := 0) rfl
        clear hb1
        go_wp2_with fail
        go_ret
        obtain ⟨ga, gc, k1, k2, k3⟩ := HI.out.2
        exact ⟨rfl, ⟨hne, ga, gc, k1.below HB1.out, k2.below HB1.out, own_below k3 HB1.out⟩, Fr.of_below HB1.out _⟩
end
section
open Go.RowKit

theorem leaves_grid : ∀ (zss : List (List ByteArray)) (s : List ByteArray) (ps : List (Int × Int)), gridB s 5 = true → (∀ zs ∈ zss, gridB zs 3 = true) → ∀ l ∈ leaves zss s ps, gridB l.2 5 = true := by
  intro zss
  induction zss with
  | nil =>
    intro s ps hs _ l hl
    obtain rfl : l = (ps, s) := by simpa [leaves] using hl
    exact hs
  | cons b bs ih =>
    intro s ps hs hz l hl
    rw [show leaves (b :: bs) s ps = (plF s b).flatMap fun p => leaves bs (layR s b p.1 p.2) (ps ++ [p]) from rfl, List.mem_flatMap] at hl
    obtain ⟨p, hp, hl⟩ := hl
    exact ih _ _ (layR_grid hs (hz b (List.mem_cons_self ..)) hp) (fun k hk => hz k (List.mem_cons_of_mem _ hk)) l hl
theorem pts_grid {zs : List ByteArray} (h : gridB zs 5 = true) : ptsF zs ≤ 25 := by
  obtain ⟨_, l2, _⟩ := gridB_bd h
  exact Nat.le_trans (ptsTo_le (gridB_mem h) zs.length (Nat.le_refl _)) (Nat.mul_le_mul_right 5 l2)
theorem asked3 (r c : Int) (zss : List (List ByteArray)) : askedM 3 r c zss = (askedB r c zss && decide ((zss.length : Int) ≤ 3)) := by
  unfold askedM askedB
  cases goodB zss <;> cases inB r 1 5 <;> cases inB c 1 5 <;> simp
  omega
def fullL (L : List Leaf) : (List ByteArray × Nat) × Bool := if (fullF L ([], 99)).2 = 99 then (([], 0), false) else (fullF L ([], 99), true)
def fullR (r c : Int) (zss : List (List ByteArray)) : (List ByteArray × Nat) × Bool := if askedM 3 r c zss = true then fullL (leaves zss (blankS r.toNat c.toNat) []) else (([], 0), false)
def FullROut (w : World) (r : (List ByteArray × Nat) × Bool) (e : Ending) (w' : World) : Prop := ∃ ra rc, e = .returned (.tuple #[.slice ra r.1.1.length rc, .int .i64 (r.1.2 : Int), .bool r.2]) ∧
  w'.ownsRow w.heap.size 9 1 (.slice ra r.1.1.length rc) r.1.1.length (strs r.1.1) ∧ Below w.heap.size w w'
theorem own_newS (u : World) (B : Nat) (h : B ≤ u.heap.size) : (u.alloc (.cells #[] 9)).ownsRow B 9 1 (.slice (some ⟨u.heap.size, 0, none⟩) 0 0) 0 [] := RowIs.owns (RowIs.new u 9 ([] : List Value)) (n := 0) (sz := 1) rfl (by unfold maxLen; omega) h
/-- what the program's teller holds behind all leaves -/
def uOut : Option (List ByteArray × Nat) → (List ByteArray × Nat) × Bool
  | none => (([], 0), false)
  | some y => (y, true)
theorem fullL_of {L : List Leaf} (h : ∀ l ∈ L, ptsF l.2 < 99) : fullL L = uOut (uF L none) := by
  have hr := uF_rel L none ([], 99) h rfl
  unfold fullL
  generalize fullF L ([], 99) = x at hr
  cases hu : uF L none with
  | none =>
    rw [hu] at hr
    obtain rfl : x = ([], 99) := hr
    rfl
  | some y =>
    rw [hu] at hr
    obtain ⟨rfl, h2⟩ := hr
    rw [if_neg (by omega)]
    rfl
set_option maxRecDepth 100000 in
set_option maxHeartbeats 4000000 in
theorem specFull_any (r c : Int) (a : Option Addr) (cap : Nat) (bs : List BlkT) (w : World) (hm : bs.length ≤ maxLen) (hf : Fits bs) (hb : BlksAt w a bs) :
    Calls Try.prog 22 #[.int .i64 r, .int .i64 c, .slice a bs.length cap] w (FullROut w (fullR r c (zssB bs))) := by
  have hA := l4Asked_any r c a cap bs w hm hf hb
  have HB := Lib.hid hb
  clear hb hf hm
  cases e1 : askedB r c (zssB bs)
  · have E1 := Lib.hid (show fullR r c (zssB bs) = (([], 0), false) by rw [fullR, asked3, e1]; rfl)
    rw [E1.out]
    rw [e1] at hA
    have HA := Lib.hid hA
    clear hA e1
    go_enter Try.func22, Try.ntmps22
    go_wp2_with fail
    refine HA.out.mono ?_
    rintro e w1 ⟨rfl, hb⟩
    have HB1 := Lib.hid hb
    clear hb
    go_wp2_with fail
    go_ret3
    exact ⟨_, _, rfl, own_newS w1 w.heap.size HB1.out.size, HB1.out.alloc HB1.out.size _⟩
  rw [e1] at hA
  have HA := Lib.hid hA
  obtain ⟨⟨r1, r2⟩, ⟨c1, c2⟩, hl4, hgood⟩ := asked_bd e1
  by_cases h3 : bs.length ≤ 3
  case neg =>
    have E1 := Lib.hid (show fullR r c (zssB bs) = (([], 0), false) by rw [fullR, asked3, e1, zssB_length]; simp; omega)
    rw [E1.out]
    have hd : decide (3 < bs.length) = true := by simp; omega
    clear hA e1 hgood
    go_enter Try.func22, Try.ntmps22
    go_wp2_with fail
    refine HA.out.mono ?_
    rintro e w1 ⟨rfl, hb⟩
    have HB1 := Lib.hid hb
    clear hb
    go_wp2_with fail
    go_ret3
    exact ⟨_, _, rfl, own_newS w1 w.heap.size HB1.out.size, HB1.out.alloc HB1.out.size _⟩
  have hd : decide (3 < bs.length) = false := by simp; omega
  obtain ⟨r, rfl⟩ : ∃ n : Nat, r = (n : Int) := ⟨r.toNat, by omega⟩
  obtain ⟨c, rfl⟩ : ∃ n : Nat, c = (n : Int) := ⟨c.toNat, by omega⟩
  have E1 := Lib.hid (show fullR r c (zssB bs) = fullL (leaves (zssB bs) (blankS r c) []) by rw [fullR, asked3, e1, zssB_length, if_pos (by simp; omega)]; rfl)
  rw [E1.out]
  have HBL := Lib.hid (fun w => l4Blank_any r c w (by omega) (by omega))
  have HG := Lib.hid (blankS_grid (r := r) (c := c) (by omega) (by omega) (by omega) (by omega))
  have HFI := Lib.hid (fun sa sc ta tc w' h2 h3 h4 h6 => l4Fullest_any w.heap.size a cap bs hl4 hgood bs.length 0 (by omega) (by omega) sa sc (blankS r c) ta tc [] 99 [] w' HG.out h2 h3 h4 (by omega) h6)
  simp only [List.drop_zero] at HFI
  generalize blankS r c = bl at *
  generalize leaves (zssB bs) bl [] = LL at *
  obtain ⟨⟨rs, rn⟩, hres⟩ : ∃ x, x = fullF LL ([], 99) := ⟨_, rfl⟩
  rw [← hres] at HFI
  have HRES := Lib.hid hres
  clear hA e1 hgood hres
  go_enter Try.func22, Try.ntmps22
  go_wp2_with fail
  refine HA.out.mono ?_
  rintro e w1 ⟨rfl, hb⟩
  have HB1 := Lib.hid hb
  clear hb
  go_wp2_with fail
  refine (HBL.out _).mono ?_
  rintro e w2 ⟨ad, cp, rfl, hown, hb⟩
  have HR2 := Lib.hid (World.ownsRow.mono hown HB1.out.size)
  have HB2 := Lib.hid (HB1.out.trans (hb.mono HB1.out.size))
  have HO2 := Lib.hid (own_newS w2 w.heap.size HB2.out.size)
  clear hown hb
  go_wp2_with fail
  refine (HFI.out ad cp (some ⟨w2.heap.size, 0, none⟩) 0 (w2.alloc (.cells #[] 9)) (Nat.le_trans HB2.out.size (by simp)) (HR2.out.alloc _) HO2.out ((HB.out.below HB2.out).below (Go.Joins.below_alloc1 w2 _))).mono ?_
  rintro e w3 ⟨ra, rc, rfl, hs, hb⟩
  have HS := Lib.hid hs
  have HB3 := Lib.hid ((HB2.out.alloc HB2.out.size _).trans (hb.mono (Nat.le_trans HB2.out.size (by simp))))
  clear hs hb
  by_cases e99 : rn = 99
  · subst e99
    have HF := Lib.hid (show fullL LL = (([], 0), false) by rw [fullL, ← HRES.out]; rfl)
    go_wp2_with fail
    go_ret3
    rw [HF.out]
    exact ⟨_, _, rfl, own_newS w3 w.heap.size HB3.out.size, HB3.out.alloc HB3.out.size _⟩
  · have HF := Lib.hid (show fullL LL = ((rs, rn), true) by rw [fullL, ← HRES.out, if_neg (by simpa using e99)])
    have he : ((rn : Int) == 99) = false := by simp; omega
    go_wp2_with fail
    go_ret3
    rw [HF.out]
    exact ⟨_, _, rfl, HS.out, HB3.out⟩
set_option maxRecDepth 100000 in
set_option maxHeartbeats 4000000 in
theorem implFull_any (r c : Int) (a : Option Addr) (cap : Nat) (bs : List BlkT) (w : World) (hm : bs.length ≤ maxLen) (hcap : bs.length ≤ cap) (hf : Fits bs) (hb : BlksAt w a bs) :
    Calls Try.prog 23 #[.int .i64 r, .int .i64 c, .slice a bs.length cap] w (FullROut w (fullR r c (zssB bs))) := by
  have hA := rebuildingFitsM_any 3 r c a cap bs w hm hf hb
  have HB := Lib.hid hb
  clear hb hf hm
  cases e1 : askedM 3 r c (zssB bs)
  · have E1 := Lib.hid (show fullR r c (zssB bs) = (([], 0), false) by rw [fullR, e1]; rfl)
    rw [E1.out]
    rw [e1] at hA
    have HA := Lib.hid hA
    clear hA e1
    go_enter Try.func23, Try.ntmps23
    go_wp2_with fail
    refine HA.out.mono ?_
    rintro e w1 ⟨rfl, hb⟩
    have HB1 := Lib.hid hb
    clear hb
    go_wp2_with fail
    go_ret3
    exact ⟨none, 0, rfl, World.ownsRow_nil _ _ _ _, HB1.out⟩
  rw [e1] at hA
  have HA := Lib.hid hA
  have e2 : askedB r c (zssB bs) = true := by rw [asked3] at e1; simp at e1; exact e1.1
  obtain ⟨⟨r1, r2⟩, ⟨c1, c2⟩, hl4, hgood⟩ := asked_bd e2
  obtain ⟨r, rfl⟩ : ∃ n : Nat, r = (n : Int) := ⟨r.toNat, by omega⟩
  obtain ⟨c, rfl⟩ : ∃ n : Nat, c = (n : Int) := ⟨c.toNat, by omega⟩
  have E1 := Lib.hid (show fullR r c (zssB bs) = fullL (leaves (zssB bs) (blankS r c) []) by rw [fullR, e1, if_pos rfl]; rfl)
  rw [E1.out]
  have HBL := Lib.hid (fun w => emptySheet_any r c w (by omega) (by omega) (by omega))
  have HG := Lib.hid (blankS_grid (r := r) (c := c) (by omega) (by omega) (by omega) (by omega))
  have HRUN := Lib.hid (uRun (leaves (zssB bs) (blankS r c) []) none)
  have HGD := Lib.hid hgood
  have HFL := Lib.hid (fullL_of (L := leaves (zssB bs) (blankS r c) []) (fun l hl => by
    have := pts_grid (leaves_grid _ _ _ HG.out (fun zs hz => by
      simp only [zssB, List.mem_map] at hz
      obtain ⟨b, hb, rfl⟩ := hz
      exact hgood b hb) l hl)
    omega))
  have HL1 := Lib.hid (fun q (e : a = some q) (h : bs ≠ []) => reads_low HB.out.outer (blks_some h) q e)
  have HL2 := Lib.hid (fun b (hb : b ∈ bs) q (e : b.ad = some q) => reads_low (HB.out.inner b hb) (grid_some (HGD.out b hb)) q e)
  generalize blankS r c = bl at *
  obtain ⟨LL, hLL⟩ : ∃ LL, LL = leaves (zssB bs) bl [] := ⟨_, rfl⟩
  rw [← hLL] at HFL HRUN ⊢
  have HLL := Lib.hid hLL
  clear hLL
  clear hA e1 e2 hgood
  rw [HFL.out]
  clear HFL
  go_enter Try.func23, Try.ntmps23
  go_wp2_with fail
  refine HA.out.mono ?_
  rintro e w1 ⟨rfl, hb⟩
  have HB1 := Lib.hid hb
  clear hb
  go_wp2_with fail
  have hB1a : Below w.heap.size w ((w1.alloc (.cells #[.slice none 0 0] 31)).alloc (.cells #[.int .i64 0] 3)) := (HB1.out.alloc HB1.out.size _).alloc (by have := HB1.out.size; simp; omega) _
  have HY := Lib.hid (two_new w1 (.slice none 0 0) (.int .i64 0) 31 3)
  have HB1a := Lib.hid hB1a
  clear hB1a
  refine (HBL.out _).mono ?_
  rintro e w2 ⟨ad, cp, rfl, hown, hb⟩
  have HR2 := Lib.hid (own_reads hown)
  have HLO := Lib.hid (fun q (e : ad = some q) => (hown.lt q.block (by rw [e]; rfl)).1)
  have HB2 := Lib.hid (HB1a.out.trans (hb.mono HB1a.out.size))
  have hinv : UInv w1.heap.size (w1.heap.size + 1) w2.heap.size none w2 := ⟨by omega, HY.out.1.below hb, HY.out.2.below hb⟩
  have hsz : w1.heap.size + 1 < w2.heap.size := hinv.2.2.lt
  have hw1 := HB1.out.size
  have hcall := rebuild_any eg66 (uTell w1.heap.size (w1.heap.size + 1) w2.heap.size (by omega) hsz) bs a cap ad cp bl none 0 [] w2 none hcap (by simpa using hl4) HGD.out HG.out (own_le hown) (Nat.le_refl _) hinv HR2.out (HB.out.below HB2.out)
    (fun q e => ⟨fun hk => by have := HLO.out q e; simp at this; omega, by simp [Value.ownBlock]⟩) (fun hne q e => ⟨fun hk => by have := HL1.out q e hne; omega, by simp [Value.ownBlock]⟩) (fun b hb q e => ⟨fun hk => by have := HL2.out b hb q e; omega, by simp [Value.ownBlock]⟩) (World.ownsRow_nil _ _ _ _) trivial
  rw [← HLL.out, HRUN.out] at hcall
  have HCALL := Lib.hid hcall
  have HSZ := Lib.hid hsz
  clear hown hb hinv hcall
  go_wp2_with fail
  refine HCALL.out.mono ?_
  rintro e w3 ⟨rfl, hi, _, hf⟩
  have HB3 := Lib.hid (Fr.low HB2.out hf (fun k hk => by
    rcases hk with (h | h) | h
    · omega
    · omega
    · simp [Value.ownBlock] at h))
  clear hf HRUN HCALL E1 HLL
  obtain ⟨u, hu⟩ : ∃ u, u = uF LL none := ⟨_, rfl⟩
  rw [← hu] at hi
  have HU := Lib.hid hu
  clear hu
  cases u with
  | none =>
    obtain ⟨_, hi1, hi2⟩ := (show UInv w1.heap.size (w1.heap.size + 1) w2.heap.size none w3 from hi)
    have c0 := hi1.cell (j := 0) rfl
    have c1 := hi2.cell (j := 0) rfl
    clear hi hi1 hi2
    go_wp2_with fail
    go_quiet (fail)
    go_wp2_with fail
    go_ret3
    rw [← HU.out]
    exact ⟨none, 0, rfl, World.ownsRow_nil _ _ _ _, HB3.out.trans ((Dr.of _ _).below _)⟩
  | some y =>
    obtain ⟨b, n⟩ := y
    obtain ⟨_, ga, gc, h1, h2, h3⟩ := (show UInv w1.heap.size (w1.heap.size + 1) w2.heap.size (some (b, n)) w3 from hi)
    clear hi
    have c0 := h1.cell (j := 0) rfl
    have c1 := h2.cell (j := 0) rfl
    have HO3 := Lib.hid (World.ownsRow.mono h3 HB2.out.size)
    clear h1 h2 h3
    go_wp2_with fail
    go_quiet (fail)
    go_wp2_with fail
    go_ret3
    rw [← HU.out]
    exact ⟨_, _, rfl, own_dr HO3.out (Dr.of _ _), HB3.out.trans ((Dr.of _ _).below _)⟩
theorem fullR_len (r c : Int) (bs : List BlkT) : (fullR r c (zssB bs)).1.1.length ≤ 5 ∧ (fullR r c (zssB bs)).1.2 ≤ 99 := by
  have key : ∀ (L : List Leaf) (st : List ByteArray × Nat), (∀ l ∈ L, l.2.length ≤ 5) → st.1.length ≤ 5 → (fullF L st).1.length ≤ 5 := by
    intro L
    induction L with
    | nil => intro st _ h; exact h
    | cons l L ih =>
      intro st h1 h2
      refine ih (fullStep st l) (fun k hk => h1 k (List.mem_cons_of_mem _ hk)) ?_
      unfold fullStep
      split
      · exact h1 l (List.mem_cons_self ..)
      · exact h2
  unfold fullR
  split
  · rename_i h
    rw [asked3] at h
    simp only [Bool.and_eq_true] at h
    obtain ⟨⟨r1, r2⟩, _, _, _⟩ := asked_bd h.1
    have hs := leaves_shape (zssB bs) (blankS r.toNat c.toNat) []
    have k1 := key (leaves (zssB bs) (blankS r.toNat c.toNat) []) ([], 99) (fun l hl => by have := (hs l hl).2; rw [blankS_length] at this; omega) (by simp)
    have k2 := fullF_le (leaves (zssB bs) (blankS r.toNat c.toNat) []) ([], 99)
    unfold fullL
    split
    · simp
    · exact ⟨k1, k2⟩
  · simp
end
section
open Go.RowKit

/-- a block lies on a sheet: each of its letters is there -/
def Cov (s b : List ByteArray) (r c : Nat) : Prop := r + b.length ≤ s.length ∧ c + (rowAt b 0).size ≤ (rowAt s 0).size ∧ ∀ i, i < b.length → ∀ k, k < (rowAt b i).size → ub (rowAt b i) k = 46 ∨ ub (rowAt s (r + i)) (c + k) = ub (rowAt b i) k
theorem ub_layRow {x y : ByteArray} {c k : Nat} (h : k < x.size) : ub (layRow x y c) k = if c ≤ k ∧ k < c + y.size ∧ ub y (k - c) ≠ 46 then ub y (k - c) else ub x k := by
  have hl : k < (layL x.data.toList y.data.toList c y.size).length := by rw [layL_len, size_list]; exact h
  have e : ub (layRow x y c) k = (layL x.data.toList y.data.toList c y.size)[k] := by
    unfold ub
    rw [show (layRow x y c).data.toList = layL x.data.toList y.data.toList c y.size by simp [layRow], List.getD_eq_getElem?_getD, List.getElem?_eq_getElem hl]
    rfl
  rw [e, layL_at (by rw [size_list]; exact h)]
  rfl
theorem cov_lay {s b : List ByteArray} {r c : Nat} (gs : gridB s 5 = true) (gb : gridB b 3 = true) (hf : fitsB s b (r : Int) (c : Int) = true) : Cov (layF s b r c) b r c := by
  obtain ⟨_, h1, _, h2, _⟩ := fits_of hf
  obtain ⟨s1, _, s3⟩ := gridB_bd gs
  obtain ⟨b1, _, b3⟩ := gridB_bd gb
  refine ⟨by rw [layF, layTo_len]; omega, by rw [layF, size_layTo (by omega)]; omega, fun i hi k hk => ?_⟩
  by_cases e : ub (rowAt b i) k = 46
  · exact .inl e
  right
  have e1 := (b3 i hi).1
  have e2 := (s3 (r + i) (by omega)).1
  rw [layF, rowAt_layTo (by omega), if_pos ⟨by omega, by omega⟩, show r + i - r = i by omega, ub_layRow (by omega), show c + k - c = k by omega, if_pos ⟨by omega, by omega, e⟩]
theorem cov_keep {s b b2 : List ByteArray} {r c r2 c2 : Nat} (gs : gridB s 5 = true) (gb : gridB b 3 = true) (h : Cov s b r c) (hf : fitsB s b2 (r2 : Int) (c2 : Int) = true) : Cov (layF s b2 r2 c2) b r c := by
  obtain ⟨h1, h2, h3⟩ := h
  obtain ⟨_, f1, _, f2, f3⟩ := fits_of hf
  obtain ⟨s1, _, s3⟩ := gridB_bd gs
  obtain ⟨b1, _, b3⟩ := gridB_bd gb
  rw [Int.toNat_natCast, Int.toNat_natCast, noDiff, allB_true] at f3
  refine ⟨by rw [layF, layTo_len]; exact h1, by rw [layF, size_layTo (by omega)]; exact h2, fun i hi k hk => ?_⟩
  rcases h3 i hi k hk with e | e
  · exact .inl e
  by_cases e46 : ub (rowAt b i) k = 46
  · exact .inl e46
  right
  have e1 := (b3 i hi).1
  have e2 := (s3 (r + i) (by omega)).1
  rw [layF, rowAt_layTo (by omega)]
  split
  · rename_i q
    rw [ub_layRow (by omega)]
    split
    · rename_i q2
      have hd := f3 (r + i - r2) (by omega)
      rw [noDiffRow, allB_true] at hd
      have hd2 := hd (c + k - c2) (by omega)
      rw [show r2 + (r + i - r2) = r + i by omega, show c2 + (c + k - c2) = c + k by omega, chAt_ub, chAt_ub] at hd2
      simp only [diffB, Bool.not_eq_true', Bool.and_eq_false_iff, Bool.not_eq_false'] at hd2
      have n46 : (46 : UInt8).toNat = 46 := rfl
      rcases hd2 with (hd2 | hd2) | hd2
      · exact absurd (UInt8.toNat_inj.1 (by rw [n46]; exact of_decide_eq_true hd2)) q2.2.2
      · have := UInt8.toNat_inj.1 (show (ub (rowAt s (r + i)) (c + k)).toNat = (46 : UInt8).toNat by rw [n46]; exact of_decide_eq_true hd2)
        rw [e] at this; exact absurd this e46
      · rw [UInt8.toNat_inj.1 (of_decide_eq_true hd2)]; exact e
    · exact e
  · exact e
/-- to lay once more what lies there changes nothing -/
theorem cov_again {s b : List ByteArray} {r c : Nat} (gs : gridB s 5 = true) (gb : gridB b 3 = true) (h : Cov s b r c) : fitsB s b (r : Int) (c : Int) = true ∧ layF s b r c = s := by
  obtain ⟨h1, h2, h3⟩ := h
  obtain ⟨s1, _, s3⟩ := gridB_bd gs
  obtain ⟨b1, _, b3⟩ := gridB_bd gb
  constructor
  · simp only [fitsB, Bool.and_eq_true, decide_eq_true_eq]
    refine ⟨⟨⟨⟨by omega, by omega⟩, by omega⟩, by omega⟩, ?_⟩
    rw [Int.toNat_natCast, Int.toNat_natCast, noDiff, allB_true]
    intro i hi
    rw [noDiffRow, allB_true]
    intro k hk
    rw [chAt_ub, chAt_ub]
    rcases h3 i hi k hk with e | e
    · rw [e]; rfl
    · rw [e]; simp [diffB]
  · apply List.ext_getElem (by rw [layF, layTo_len])
    intro j j1 j2
    have hj : rowAt (layF s b r c) j = rowAt s j := by
      rw [layF, rowAt_layTo j2]
      split
      · rename_i q
        have hi : j - r < b.length := by omega
        have e1 := (b3 (j - r) hi).1
        have e2 := (s3 j j2).1
        have hsz := layRow_size (rowAt s j) (rowAt b (j - r)) c
        apply ByteArray.ext
        apply Array.ext (by simpa using hsz)
        intro k k1 k2
        have k3 : k < (rowAt s j).size := k2
        have hu : ub (layRow (rowAt s j) (rowAt b (j - r)) c) k = ub (rowAt s j) k := by
          rw [ub_layRow k3]
          split
          · rename_i q2
            have := h3 (j - r) hi (k - c) (by omega)
            rw [show r + (j - r) = j by omega, show c + (k - c) = k by omega] at this
            rcases this with e | e
            · exact absurd e q2.2.2
            · exact e.symm
          · rfl
        rw [ub_of (by omega), ub_of k3] at hu
        exact hu
      · rfl
    rw [rowAt_of j1, rowAt_of j2] at hj
    exact hj
theorem leaf_cov : ∀ (zss : List (List ByteArray)) (s : List ByteArray) (ps : List (Int × Int)), gridB s 5 = true → (∀ zs ∈ zss, gridB zs 3 = true) → ∀ l ∈ leaves zss s ps,
    (∃ qs, l.1 = ps ++ qs ∧ qs.length = zss.length ∧ ∀ i (hi : i < zss.length) (hq : i < qs.length), ∃ r c : Nat, qs[i] = ((r : Int), (c : Int)) ∧ r ≤ 5 ∧ c ≤ 5 ∧ Cov l.2 zss[i] r c) ∧ (∀ b r c, gridB b 3 = true → Cov s b r c → Cov l.2 b r c) := by
  intro zss
  induction zss with
  | nil =>
    intro s ps hs _ l hl
    obtain rfl : l = (ps, s) := by simpa [leaves] using hl
    exact ⟨⟨[], by simp, rfl, fun i hi => by simp at hi⟩, fun _ _ _ _ h => h⟩
  | cons b bs ih =>
    intro s ps hs hz l hl
    rw [show leaves (b :: bs) s ps = (plF s b).flatMap fun p => leaves bs (layR s b p.1 p.2) (ps ++ [p]) from rfl, List.mem_flatMap] at hl
    obtain ⟨p, hp, hl⟩ := hl
    have gb := hz b (List.mem_cons_self ..)
    have hg2 := layR_grid hs gb hp
    have hsm := plF_small hs hp
    obtain ⟨r, c, rfl, hr, hc, hf⟩ := plF_in hp
    simp only at hl hg2 hsm
    rw [layR_of hf] at hl hg2
    obtain ⟨⟨qs, h1, h2, h3⟩, h4⟩ := ih _ _ hg2 (fun k hk => hz k (List.mem_cons_of_mem _ hk)) l hl
    have s5 := (gridB_bd hs).2.1
    have s6 := ((gridB_bd hs).2.2 0 (by have := (gridB_bd hs).1; omega)).2.2
    have ff := fits_of hf
    have b1 := (gridB_bd gb).1
    refine ⟨⟨((r : Int), (c : Int)) :: qs, by rw [h1]; simp, by simp [h2], fun i hi hq => ?_⟩, fun b' r' c' g' hcv => h4 b' r' c' g' (cov_keep hs g' hcv hf)⟩
    cases i with
    | zero => exact ⟨r, c, rfl, by omega, by omega, h4 b r c gb (cov_lay hs gb hf)⟩
    | succ i =>
      simp only [List.length_cons] at hi hq
      exact h3 i (by omega) (by omega)
/-- each block of the first rebuilding lies on its sheet -/
theorem first_again {r c : Int} {bs : List BlkT} {ps : List (Int × Int)} {s : List ByteArray} (h : firstR r c (zssB bs) = ((ps, s), true)) :
    gridB s 5 = true ∧ ps.length = bs.length ∧ ∀ i (hi : i < bs.length) (hq : i < ps.length), okW s bs[i].zs ps[i].1 ps[i].2 = true ∧ layW s bs[i].zs ps[i].1 ps[i].2 = s ∧ (-10 ≤ ps[i].1 ∧ ps[i].1 ≤ 10) ∧ (-10 ≤ ps[i].2 ∧ ps[i].2 ≤ 10) := by
  unfold firstR at h
  split at h
  case isFalse => exact absurd (congrArg Prod.snd h) (by simp)
  rename_i ha
  obtain ⟨⟨r1, r2⟩, ⟨c1, c2⟩, _, hg⟩ := asked_bd ha
  have hz : ∀ zs ∈ zssB bs, gridB zs 3 = true := fun zs hz => by
    simp only [zssB, List.mem_map] at hz
    obtain ⟨b, hb, rfl⟩ := hz
    exact hg b hb
  have hbl := blankS_grid (r := r.toNat) (c := c.toNat) (by omega) (by omega) (by omega) (by omega)
  cases hL : leaves (zssB bs) (blankS r.toNat c.toNat) [] with
  | nil => rw [hL] at h; exact absurd (congrArg Prod.snd h) (by simp [firstL])
  | cons l L =>
    rw [hL] at h
    have hl : l ∈ leaves (zssB bs) (blankS r.toNat c.toNat) [] := by rw [hL]; exact List.mem_cons_self ..
    have h0 : l = (ps, s) := congrArg Prod.fst h
    have gl := leaves_grid _ _ _ hbl hz l hl
    obtain ⟨⟨qs, h1, h2, h3⟩, _⟩ := leaf_cov _ _ _ hbl hz l hl
    subst h0
    simp only [List.nil_append] at h1
    subst h1
    refine ⟨gl, by rw [h2, zssB_length], fun i hi hq => ?_⟩
    obtain ⟨rr, cc, e, e5, e6, hc⟩ := h3 i (by rw [zssB_length]; exact hi) hq
    have ez : (zssB bs)[i]'(by rw [zssB_length]; exact hi) = bs[i].zs := by simp [zssB]
    rw [ez] at hc
    have gb := hg _ (List.getElem_mem hi)
    obtain ⟨k1, k2⟩ := cov_again gl gb hc
    have hok : okW s bs[i].zs (rr : Int) (cc : Int) = true := by rw [okW, okP, gl, gb, k1]; rfl
    rw [e]
    refine ⟨hok, ?_, by simp only; omega, by simp only; omega⟩
    simp only
    rw [layW_of (by rw [okP, gl, gb]; rfl), layR_of k1]
    exact k2
/-- one rebuilding is counted just when there is a first one -/
theorem count_one (r c : Int) (bs : List BlkT) (h : okC r c (zssB bs) 1 = true) : (firstR r c (zssB bs)).2 = (cntR r c (zssB bs) 1 == 1) := by
  have ha : askedB r c (zssB bs) = true := by simp only [okC, Bool.and_eq_true] at h; exact h.1
  have hc : cntR r c (zssB bs) 1 = ((min (cntB (zssB bs) (blankS r.toNat c.toNat)) 1 : Nat) : Int) := by rw [cntR, if_pos h]; rfl
  rw [hc, ← leaves_len _ _ [], firstR, if_pos ha]
  cases leaves (zssB bs) (blankS r.toNat c.toNat) [] with
  | nil => rfl
  | cons l L => simp [firstL]
theorem fullF_spec : ∀ (L : List Leaf) (st : List ByteArray × Nat), (∀ l ∈ L, (fullF L st).2 ≤ ptsF l.2) ∧ (fullF L st = st ∨ ∃ l ∈ L, fullF L st = (l.2, ptsF l.2)) := by
  intro L
  induction L with
  | nil => intro st; exact ⟨fun l hl => by simp at hl, .inl rfl⟩
  | cons l L ih =>
    intro st
    have e : fullF (l :: L) st = fullF L (fullStep st l) := rfl
    obtain ⟨h1, h2⟩ := ih (fullStep st l)
    have hle := fullF_le L (fullStep st l)
    have hs : (fullStep st l).2 ≤ ptsF l.2 ∧ (fullStep st l = st ∨ fullStep st l = (l.2, ptsF l.2)) := by
      unfold fullStep; split
      · exact ⟨Nat.le_refl _, .inr rfl⟩
      · exact ⟨by omega, .inl rfl⟩
    rw [e]
    refine ⟨fun k hk => ?_, ?_⟩
    · rcases List.mem_cons.1 hk with rfl | hk
      · omega
      · exact h1 k hk
    · rcases h2 with h2 | ⟨k, hk, h2⟩
      · rcases hs.2 with h3 | h3
        · left; rw [h2, h3]
        · right; exact ⟨l, List.mem_cons_self .., by rw [h2, h3]⟩
      · right; exact ⟨k, List.mem_cons_of_mem _ hk, h2⟩
/-- the fullest sheet has its points, and the first one has no fewer -/
theorem full_first {r c : Int} {bs : List BlkT} {s : List ByteArray} {n : Nat} (h : fullR r c (zssB bs) = ((s, n), true)) :
    gridB s 5 = true ∧ ptsF s = n ∧ ∃ l, firstR r c (zssB bs) = (l, true) ∧ gridB l.2 5 = true ∧ n ≤ ptsF l.2 := by
  unfold fullR at h
  split at h
  case isFalse => exact absurd (congrArg Prod.snd h) (by simp)
  rename_i ha
  rw [asked3] at ha
  simp only [Bool.and_eq_true] at ha
  obtain ⟨⟨r1, r2⟩, ⟨c1, c2⟩, _, hg⟩ := asked_bd ha.1
  have hz : ∀ zs ∈ zssB bs, gridB zs 3 = true := fun zs hz => by
    simp only [zssB, List.mem_map] at hz
    obtain ⟨b, hb, rfl⟩ := hz
    exact hg b hb
  have hbl := blankS_grid (r := r.toNat) (c := c.toNat) (by omega) (by omega) (by omega) (by omega)
  have hgl := leaves_grid (zssB bs) _ [] hbl hz
  obtain ⟨L, hL⟩ : ∃ L, L = leaves (zssB bs) (blankS r.toNat c.toNat) [] := ⟨_, rfl⟩
  rw [← hL] at h hgl
  have hf : firstR r c (zssB bs) = firstL L := by rw [firstR, if_pos ha.1, hL]
  obtain ⟨k1, k2⟩ := fullF_spec L ([], 99)
  unfold fullL at h
  split at h
  case isTrue => exact absurd (congrArg Prod.snd h) (by simp)
  rename_i hn
  have he : fullF L ([], 99) = (s, n) := congrArg Prod.fst h
  rw [he] at k1 k2 hn
  rcases k2 with k2 | ⟨l, hl, k2⟩
  · rw [k2] at hn; exact absurd rfl hn
  · injection k2 with e1 e2
    subst e1
    refine ⟨hgl l hl, e2.symm, ?_⟩
    cases L with
    | nil => simp at hl
    | cons l0 L0 => exact ⟨l0, by rw [hf]; rfl, hgl l0 (List.mem_cons_self ..), k1 l0 (List.mem_cons_self ..)⟩
end
section
open Go.ChangeShapes Go.WideShapes Go.ChangeAt Go.RowKit

theorem vBig_any (a : Option Addr) (len cap : Nat) (w : World) : Calls Try.prog 24 #[.slice a len cap] w fun e w' => e = .returned (.bool (decide ((65536 : Int) < (len : Int)))) ∧ w = w' := by
  go_enter Try.func24, Try.ntmps24
  go_wp2_with fail
  go_ret
  exact ⟨rfl, rfl⟩
def First2 (w : World) (ps : List (Int × Int)) (s : List ByteArray) (ok : Bool) (e : Ending) (w' : World) : Prop := ∃ pa pc sa sc, e = .returned (.tuple #[.slice pa ps.length pc, .slice sa s.length sc, .bool ok]) ∧ Reads w' pa (pairs ps) ∧ Reads w' sa (strs s) ∧ s.length ≤ sc ∧ Below w.heap.size w w'
theorem First2.of {w w' : World} {l : Leaf × Bool} {ps : List (Int × Int)} {s : List ByteArray} {ok : Bool} {e : Ending} (h : l = ((ps, s), ok)) (hf : FirstOut w.heap.size w l e w') : First2 w ps s ok e w' := by
  subst h
  obtain ⟨pa, pc, sa, sc, rfl, hp, hs, hb⟩ := hf
  exact ⟨pa, pc, sa, sc, rfl, own_reads hp, own_reads hs, own_le hs, hb⟩
theorem implFirst2 {r c : Int} {a : Option Addr} {cap : Nat} {bs : List BlkT} {ps : List (Int × Int)} {s : List ByteArray} {ok : Bool} (h : firstR r c (zssB bs) = ((ps, s), ok)) (w : World) (hb : BsR w a cap bs) :
    Calls Try.prog 14 #[.int .i64 r, .int .i64 c, .slice a bs.length cap] w (First2 w ps s ok) := (implFirst_any r c a cap bs w hb.m hb.cap hb.fits hb.at_).mono fun _ _ hf => First2.of h hf
theorem specFirst2 {r c : Int} {a : Option Addr} {cap : Nat} {bs : List BlkT} {ps : List (Int × Int)} {s : List ByteArray} {ok : Bool} (h : firstR r c (zssB bs) = ((ps, s), ok)) (w : World) (hb : BsR w a cap bs) :
    Calls Try.prog 13 #[.int .i64 r, .int .i64 c, .slice a bs.length cap] w (First2 w ps s ok) := (specFirst_any r c a cap bs w hb.m hb.fits hb.at_).mono fun _ _ hf => First2.of h hf
def Full2 (w : World) (s : List ByteArray) (n : Nat) (ok : Bool) (e : Ending) (w' : World) : Prop := ∃ sa sc, e = .returned (.tuple #[.slice sa s.length sc, .int .i64 (n : Int), .bool ok]) ∧ Reads w' sa (strs s) ∧ s.length ≤ sc ∧ Below w.heap.size w w'
theorem Full2.of {w w' : World} {l : (List ByteArray × Nat) × Bool} {s : List ByteArray} {n : Nat} {ok : Bool} {e : Ending} (h : l = ((s, n), ok)) (hf : FullROut w l e w') : Full2 w s n ok e w' := by
  subst h
  obtain ⟨sa, sc, rfl, hs, hb⟩ := hf
  exact ⟨sa, sc, rfl, own_reads hs, own_le hs, hb⟩
theorem implFull2 {r c : Int} {a : Option Addr} {cap : Nat} {bs : List BlkT} {s : List ByteArray} {n : Nat} {ok : Bool} (h : fullR r c (zssB bs) = ((s, n), ok)) (w : World) (hb : BsR w a cap bs) :
    Calls Try.prog 23 #[.int .i64 r, .int .i64 c, .slice a bs.length cap] w (Full2 w s n ok) := (implFull_any r c a cap bs w hb.m hb.cap hb.fits hb.at_).mono fun _ _ hf => Full2.of h hf
theorem specFull2 {r c : Int} {a : Option Addr} {cap : Nat} {bs : List BlkT} {s : List ByteArray} {n : Nat} {ok : Bool} (h : fullR r c (zssB bs) = ((s, n), ok)) (w : World) (hb : BsR w a cap bs) :
    Calls Try.prog 22 #[.int .i64 r, .int .i64 c, .slice a bs.length cap] w (Full2 w s n ok) := (specFull_any r c a cap bs w hb.m hb.fits hb.at_).mono fun _ _ hf => Full2.of h hf
theorem pts2 {s : List ByteArray} {n : Nat} (hg : gridB s 5 = true) (hn : ptsF s = n) (a : Option Addr) (cp : Nat) (w : World) (hc : s.length ≤ cp) (h : Reads w a (strs s)) :
    Calls Try.prog 32 #[.slice a s.length cp] w fun e w' => e = .returned (.tuple #[.int .i64 (n : Int), .bool true]) ∧ Below w.heap.size w w' := by
  have := implPts_any a cp s w hc (grid_small hg).1 (grid_small hg).2 h
  rw [ptsR_of hg, hn] at this
  exact this
theorem lay2 {xs ys : List ByteArray} {r c : Int} (hok : okW xs ys r c = true) (hs : layW xs ys r c = xs) (h1 : -10 ≤ r ∧ r ≤ 10) (h2 : -10 ≤ c ∧ c ≤ 10) (gx : gridB xs 5 = true) (hy : ys.length ≤ maxLen ∧ ∀ z ∈ ys, z.size ≤ maxLen) (a b : Option Addr) (ca cb : Nat) (w : World) (hx : Reads w a (strs xs)) (hr : Reads w b (strs ys)) :
    Calls Try.prog 31 #[.slice a xs.length ca, .agg #[.slice b ys.length cb], .int .i64 r, .int .i64 c] w fun e w' => ∃ ad cp, e = .returned (.tuple #[.slice ad xs.length cp, .bool true]) ∧ Reads w' ad (strs xs) ∧ Below w.heap.size w w' := by
  have hz := grid_small gx
  refine (implLay_any a b ca cb xs ys r c w h1.1 h1.2 h2.1 h2.2 (by unfold maxLen; omega) hy.1 (fun z h => by have := hz.2 z h; unfold maxLen; omega) hy.2 hx hr).mono ?_
  rintro e w' ⟨ad, cp, rfl, ho, hb⟩
  rw [hs] at ho ⊢
  rw [hok]
  exact ⟨ad, cp, rfl, own_reads ho, hb⟩
set_option maxRecDepth 100000 in
set_option maxHeartbeats 40000000 in
theorem FnRebuildings_walk {w : World} (x : Slc × List Int) (h : BytesIn w x.1 x.2) : Calls Try.prog 7 #[x.1.val] w fun e w' => e = .returned (.bool true) ∧ Below w.heap.size w w' := by
  obtain ⟨⟨ad, len, cap⟩, cs⟩ := x
  obtain ⟨hs, hm, hr, hz⟩ := h
  simp only at hs hm hr hz
  subst hs
  have HR := Lib.hid hr
  have HM := Lib.hid hm
  have HZ := Lib.hid hz
  have hR := fun w => vBig_any ad cs.length cap w
  clear hr hz
  by_cases hbig : (65536 : Int) < (cs.length : Int)
  · rw [decide_eq_true hbig] at hR
    have HRB := Lib.hid hR
    clear hR hm hbig
    go_enter Try.func7, Try.ntmps7
    go_wp2_with fail
    refine (HRB.out _).mono ?_
    rintro e _ ⟨rfl, rfl⟩
    go_wp2_with fail
    go_ret
    exact ⟨rfl, Below.refl _ _⟩
  rw [decide_eq_false hbig] at hR
  have HRB := Lib.hid hR
  clear hR hm hbig
  go_enter Try.func7, Try.ntmps7
  go_wp2_with fail
  refine (HRB.out _).mono ?_
  rintro e _ ⟨rfl, rfl⟩
  go_wp2_with fail
  refine (drawFirst_any _ _ cs _ HM.out HR.out HZ.out).mono ?_
  rintro e w1 ⟨r, c, ba, bc, bs, rfl, hbs, hb⟩
  have HB1 := Lib.hid hb
  have BS1 := Lib.hid hbs
  clear hbs hb
  obtain ⟨⟨⟨ps, s⟩, ok⟩, hres⟩ : ∃ res, res = firstR r c (zssB bs) := ⟨_, rfl⟩
  have HI := Lib.hid (fun w h => implFirst2 (a := ba) (cap := bc) hres.symm w h)
  have HS := Lib.hid (fun w h => specFirst2 (a := ba) (cap := bc) hres.symm w h)
  have HC1 := Lib.hid (fun w (h : BsR w ba bc bs) => implCount_any r c ba bc bs 1 w h.m h.cap h.fits h.at_)
  have HC2 := Lib.hid (fun w (h : BsR w ba bc bs) => specCount_any r c ba bc bs 1 w h.m h.fits h.at_)
  have hcn := count_one r c bs
  have hlen := firstR_len r c bs
  rw [← hres] at hcn hlen
  simp only at hcn hlen
  obtain ⟨nn, hnn⟩ : ∃ n, n = cntR r c (zssB bs) 1 := ⟨_, rfl⟩
  obtain ⟨tt, htt⟩ : ∃ t, t = okC r c (zssB bs) 1 := ⟨_, rfl⟩
  rw [← hnn] at HC1 HC2 hcn
  rw [← htt] at HC1 HC2 hcn
  have HCN := Lib.hid hcn
  have HLP := Lib.hid (show ps.length ≤ maxLen by unfold maxLen; omega)
  have HLS := Lib.hid (show s.length ≤ maxLen by unfold maxLen; omega)
  have HAG : Hid (ok = true → _) := Lib.hid (fun (e : ok = true) => first_again (r := r) (c := c) (bs := bs) (ps := ps) (s := s) (by rw [← hres, e]))
  clear hres hcn hlen hnn htt
  go_wp2_with fail
  refine (HI.out _ BS1.out).mono ?_
  rintro e w2 ⟨pa, pc, sa, sc, rfl, hp, hs, hsc, hb⟩
  have HB2 := Lib.hid (HB1.out.trans (hb.mono HB1.out.size))
  have BS2 := Lib.hid (BS1.out.below hb)
  have HP2 := Lib.hid hp
  have HS2 := Lib.hid hs
  clear hp hs hsc hb HI BS1 HB1
  go_wp2_with fail
  refine (HS.out _ BS2.out).mono ?_
  rintro e w3 ⟨qa, qc, ta, tc, rfl, hp, hs, _, hb⟩
  have HB3 := Lib.hid (HB2.out.trans (hb.mono HB2.out.size))
  have BS3 := Lib.hid (BS2.out.below hb)
  have HP3 := Lib.hid (HP2.out.below hb)
  have HS3 := Lib.hid (HS2.out.below hb)
  have HQ3 := Lib.hid hp
  have HT3 := Lib.hid hs
  clear hp hs hb HS BS2 HB2 HP2 HS2
  go_wp2_with fail
  refine (vPairs_same pa qa pc qc ps _ HLP.out HP3.out HQ3.out).mono ?_
  rintro e w4 ⟨rfl, hd⟩
  have hb := hd.below w3.heap.size
  have HB4 := Lib.hid (HB3.out.trans (hb.mono HB3.out.size))
  have BS4 := Lib.hid (BS3.out.below hb)
  have HP4 := Lib.hid (HP3.out.below hb)
  have HS4 := Lib.hid (HS3.out.below hb)
  have HT4 := Lib.hid (HT3.out.below hb)
  clear hb hd HB3 BS3 HP3 HS3 HQ3 HT3
  go_wp2_with fail
  refine (vTexts_same sa ta sc tc s _ HLS.out HS4.out HT4.out).mono ?_
  rintro e w5 ⟨rfl, hd⟩
  have hb := hd.below w4.heap.size
  have HB5 := Lib.hid (HB4.out.trans (hb.mono HB4.out.size))
  have BS5 := Lib.hid (BS4.out.below hb)
  have HP5 := Lib.hid (HP4.out.below hb)
  have HS5 := Lib.hid (HS4.out.below hb)
  clear hb hd HB4 BS4 HP4 HS4 HT4
  cases ok
  · have HBz := HB5
    have BSz := BS5
    clear HB5 BS5 HP5 HS5 HAG
    go_wp2_with fail
    refine (HC1.out _ BSz.out).mono ?_
    rintro e w6 ⟨rfl, hb⟩
    have HB6 := Lib.hid (HBz.out.trans (hb.mono HBz.out.size))
    have BS6 := Lib.hid (BSz.out.below hb)
    clear hb HBz BSz HC1
    go_wp2_with fail
    refine (HC2.out _ BS6.out).mono ?_
    rintro e w7 ⟨rfl, hb⟩
    have HB7 := Lib.hid (HB6.out.trans (hb.mono HB6.out.size))
    clear hb HB6 BS6 HC2
    have hcn := HCN.out
    clear HCN
    cases tt
    case' true => have hc2 : (nn == 1) = false := (hcn rfl).symm
    all_goals
      clear hcn
      go_wp2_with fail
      refine (drawCount_any _ _ cs _ HM.out (HR.out.below HB7.out) HZ.out).mono ?_
      rintro e w8 ⟨r2, c2, ba2, bc2, bs2, most, rfl, hbs, hb⟩
      have HB8 := Lib.hid (HB7.out.trans (hb.mono HB7.out.size))
      have BS8 := Lib.hid hbs
      have HD1 := Lib.hid (fun w (h : BsR w ba2 bc2 bs2) => implCount_any r2 c2 ba2 bc2 bs2 most w h.m h.cap h.fits h.at_)
      have HD2 := Lib.hid (fun w (h : BsR w ba2 bc2 bs2) => specCount_any r2 c2 ba2 bc2 bs2 most w h.m h.fits h.at_)
      obtain ⟨n2, hn2⟩ : ∃ n, n = cntR r2 c2 (zssB bs2) most := ⟨_, rfl⟩
      obtain ⟨t2, ht2⟩ : ∃ t, t = okC r2 c2 (zssB bs2) most := ⟨_, rfl⟩
      rw [← hn2, ← ht2] at HD1 HD2
      clear hbs hb HB7 hn2 ht2
      go_wp2_with fail
      refine (HD1.out _ BS8.out).mono ?_
      rintro e w9 ⟨rfl, hb⟩
      have HB9 := Lib.hid (HB8.out.trans (hb.mono HB8.out.size))
      have BS9 := Lib.hid (BS8.out.below hb)
      clear hb HB8 BS8 HD1
      go_wp2_with fail
      refine (HD2.out _ BS9.out).mono ?_
      rintro e w10 ⟨rfl, hb⟩
      have HB10 := Lib.hid (HB9.out.trans (hb.mono HB9.out.size))
      clear hb HB9 BS9 HD2
      go_wp2_with fail
      refine (drawFull_any _ _ cs _ HM.out (HR.out.below HB10.out) HZ.out).mono ?_
      rintro e w11 ⟨r3, c3, ba3, bc3, bs3, rfl, hbs, hb⟩
      have HB11 := Lib.hid (HB10.out.trans (hb.mono HB10.out.size))
      have BS11 := Lib.hid hbs
      clear hbs hb HB10
      obtain ⟨⟨⟨us, un⟩, uk⟩, hres⟩ : ∃ res, res = fullR r3 c3 (zssB bs3) := ⟨_, rfl⟩
      have HU1 := Lib.hid (fun w h => implFull2 (a := ba3) (cap := bc3) hres.symm w h)
      have HU2 := Lib.hid (fun w h => specFull2 (a := ba3) (cap := bc3) hres.symm w h)
      have HUL := Lib.hid (show us.length ≤ maxLen by have := (fullR_len r3 c3 bs3).1; rw [← hres] at this; simp only at this; unfold maxLen; omega)
      have HUF : Hid (uk = true → _) := Lib.hid (fun (e : uk = true) => full_first (r := r3) (c := c3) (bs := bs3) (s := us) (n := un) (by rw [← hres, e]))
      clear hres
      go_wp2_with fail
      refine (HU1.out _ BS11.out).mono ?_
      rintro e w12 ⟨ua, uc, rfl, hs, hsc, hb⟩
      have HB12 := Lib.hid (HB11.out.trans (hb.mono HB11.out.size))
      have BS12 := Lib.hid (BS11.out.below hb)
      have HS12 := Lib.hid hs
      have HSC := Lib.hid hsc
      clear hs hsc hb HU1 BS11 HB11
      go_wp2_with fail
      refine (HU2.out _ BS12.out).mono ?_
      rintro e w13 ⟨va, vc, rfl, hs, _, hb⟩
      have HB13 := Lib.hid (HB12.out.trans (hb.mono HB12.out.size))
      have BS13 := Lib.hid (BS12.out.below hb)
      have HS13 := Lib.hid (HS12.out.below hb)
      have HT13 := Lib.hid hs
      clear hs hb HU2 BS12 HB12 HS12
      go_wp2_with fail
      refine (vTexts_same ua va uc vc us _ HUL.out HS13.out HT13.out).mono ?_
      rintro e w14 ⟨rfl, hd⟩
      have hb := hd.below w13.heap.size
      have HB14 := Lib.hid (HB13.out.trans (hb.mono HB13.out.size))
      have BS14 := Lib.hid (BS13.out.below hb)
      have HS14 := Lib.hid (HS13.out.below hb)
      clear hb hd HB13 BS13 HS13 HT13
      cases uk
      · go_wp2_with fail
        go_ret
        exact ⟨rfl, HB14.out⟩
      · obtain ⟨hg, hn, ⟨fps, fs⟩, hfr, hfg, hfn⟩ := HUF.out rfl
        have HG1 := Lib.hid (fun a cp w hc h => pts2 hg hn a cp w hc h)
        have HG2 := Lib.hid (fun w h => implFirst2 (a := ba3) (cap := bc3) hfr w h)
        have HG3 := Lib.hid (fun a cp w hc h => pts2 hfg rfl a cp w hc h)
        simp only at hfn
        obtain ⟨fn, hfn2⟩ : ∃ n, n = ptsF fs := ⟨_, rfl⟩
        rw [← hfn2] at HG3 hfn
        have hd : decide (fn < un) = false := by simp; omega
        clear hg hn hfr hfg hfn hfn2 HUF
        go_wp2_with fail
        refine (HG1.out _ _ _ HSC.out HS14.out).mono ?_
        rintro e w15 ⟨rfl, hb⟩
        have HB15 := Lib.hid (HB14.out.trans (hb.mono HB14.out.size))
        have BS15 := Lib.hid (BS14.out.below hb)
        clear hb HB14 BS14 HS14 HG1
        go_wp2_with fail
        refine (HG2.out _ BS15.out).mono ?_
        rintro e w16 ⟨xa, xc, ya, yc, rfl, _, hs, hsc, hb⟩
        have HB16 := Lib.hid (HB15.out.trans (hb.mono HB15.out.size))
        have HS16 := Lib.hid hs
        have HSC2 := Lib.hid hsc
        clear hb hs hsc HB15 BS15 HG2
        go_wp2_with fail
        refine (HG3.out _ _ _ HSC2.out HS16.out).mono ?_
        rintro e w17 ⟨rfl, hb⟩
        have HB17 := Lib.hid (HB16.out.trans (hb.mono HB16.out.size))
        clear hb HB16 HS16 HG3
        go_wp2_with fail
        go_ret
        exact ⟨rfl, HB17.out⟩
  · obtain ⟨hgs, hlp, hag⟩ := HAG.out rfl
    have HGS := Lib.hid hgs
    have HLQ := Lib.hid hlp
    have HAG2 := Lib.hid hag
    clear hgs hlp hag HAG
    go_wp2_with fail
    go_loopw [12] (fun i wr => ∃ k : Nat, k ≤ bs.length ∧ i = .int .i64 k ∧ Below w5.heap.size w5 wr) (fun i _ => bs.length - (intOf i).toNat)
    case atStart => exact ⟨0, Nat.zero_le _, rfl, Below.refl _ _⟩
    case round =>
      obtain ⟨k, hk, rfl, hbel⟩ := hrel
      by_cases hlt : k < bs.length
      · have hlt2 : k < ps.length := by have := HLQ.out; omega
        obtain ⟨a1, a2, a3, a4⟩ := HAG2.out k hlt hlt2
        have hby := BS5.out.below hbel
        have hfy := hby.fits _ (List.getElem_mem hlt)
        have hiy := hby.at_.inner _ (List.getElem_mem hlt)
        rcases hby.at_.outer with h0 | ⟨b, off, rfl, hbk, hc⟩
        · have := blks_length bs; rw [h0] at this; simp at this; omega
        have hc0 := hc _ _ (blks_get hlt)
        rcases HP5.out.below hbel with h0 | ⟨pb, po, rfl, hpb, hpc⟩
        · have := pairs_length ps; rw [h0] at this; simp at this; omega
        obtain ⟨g0, g1⟩ := pairs_get hlt2
        have d0 := hpc _ _ g0
        have d1 := hpc _ _ g1
        simp only [← Nat.add_assoc] at d1
        obtain ⟨⟨ya, yc, ys⟩, hy⟩ : ∃ y, y = bs[k] := ⟨_, rfl⟩
        rw [← hy] at hc0 hfy hiy a1 a2
        simp only at hc0 hfy hiy a1 a2
        obtain ⟨⟨p1, p2⟩, hp⟩ : ∃ p, p = ps[k] := ⟨_, rfl⟩
        rw [← hp] at d0 d1 a1 a2 a3 a4
        simp only at d0 d1 a1 a2 a3 a4
        have HLY := Lib.hid (fun a b ca cb w h1 h2 => lay2 a1 a2 a3 a4 HGS.out hfy a b ca cb w h1 h2)
        have HYr := Lib.hid hiy
        have HSr := Lib.hid (HS5.out.below hbel)
        have hl5 := BS5.out.len
        have HBR := Lib.hid hbel
        have i0 : (0 : Int) ≤ (k : Int) := by omega
        have i1 : (k : Int) < (bs.length : Int) := by omega
        have i2 : (k : Int) < (ps.length : Int) := by omega
        have hd1 : decide (k < bs.length) = true := by simpa using hlt
        have hd2 : decide (k < ps.length) = true := by simpa using hlt2
        clear a1 a2 a3 a4 hby hfy hiy hbk hc hpb hpc g0 g1 hy hp hbel
        go_wp2_with fail
        go_region_held3 (fun w' => w'.cell? ⟨b, off + k, none⟩ = some (.slice ya ys.length yc) ∧ w'.cell? ⟨pb, po + k * 2, none⟩ = some (.int .i64 p1) ∧ w'.cell? ⟨pb, po + k * 2 + 1, none⟩ = some (.int .i64 p2))
          (first | exact ⟨hc0, d0, d1⟩ | exact ⟨cell_later hb9 hc0, cell_later hb9 d0, cell_later hb9 d1⟩)
          ((go_at_call 31; refine (HLY.out _ _ _ _ _ (Reads.drew HSr.out) (Reads.drew HYr.out)).mono ?_; rintro e w9 ⟨ad9, cp9, rfl, ho9, hb9⟩))
        have hb9' := (Below.refl wr.heap.size wr).drew.trans (hb9.mono (Nat.le_refl _))
        have HB9 := Lib.hid (HBR.out.trans (hb9'.mono HBR.out.size))
        have HS9 := Lib.hid (HSr.out.below hb9')
        have HZ9 := Lib.hid ho9
        clear hb9 hb9' ho9 hc0 d0 d1 HSr HYr
        go_wp2_with fail
        refine (vTexts_same _ _ _ _ s _ HLS.out HZ9.out HS9.out).mono ?_
        rintro e w10 ⟨rfl, hd⟩
        have HB10 := Lib.hid (HB9.out.trans ((hd.below _).mono HB9.out.size))
        clear hd
        go_wp2_with fail
        go_roundw
        case rel => exact ⟨k + 1, by omega, by go_num, HB10.out⟩
        case measure => simp [intOf]; omega
      · have hd1 : decide (k < bs.length) = false := by simpa using hlt
        have HBz := Lib.hid (HB5.out.trans (hbel.mono HB5.out.size))
        have BSz := Lib.hid (BS5.out.below hbel)
        clear hbel hk HB5 BS5 HP5 HS5 HAG2 HLQ
        go_wp2_with fail
        refine (HC1.out _ BSz.out).mono ?_
        rintro e w6 ⟨rfl, hb⟩
        have HB6 := Lib.hid (HBz.out.trans (hb.mono HBz.out.size))
        have BS6 := Lib.hid (BSz.out.below hb)
        clear hb HBz BSz HC1
        go_wp2_with fail
        refine (HC2.out _ BS6.out).mono ?_
        rintro e w7 ⟨rfl, hb⟩
        have HB7 := Lib.hid (HB6.out.trans (hb.mono HB6.out.size))
        clear hb HB6 BS6 HC2
        have hcn := HCN.out
        clear HCN
        cases tt
        case' true => have hc2 : (nn == 1) = true := (hcn rfl).symm
        all_goals
          clear hcn
          go_wp2_with fail
          refine (drawCount_any _ _ cs _ HM.out (HR.out.below HB7.out) HZ.out).mono ?_
          rintro e w8 ⟨r2, c2, ba2, bc2, bs2, most, rfl, hbs, hb⟩
          have HB8 := Lib.hid (HB7.out.trans (hb.mono HB7.out.size))
          have BS8 := Lib.hid hbs
          have HD1 := Lib.hid (fun w (h : BsR w ba2 bc2 bs2) => implCount_any r2 c2 ba2 bc2 bs2 most w h.m h.cap h.fits h.at_)
          have HD2 := Lib.hid (fun w (h : BsR w ba2 bc2 bs2) => specCount_any r2 c2 ba2 bc2 bs2 most w h.m h.fits h.at_)
          obtain ⟨n2, hn2⟩ : ∃ n, n = cntR r2 c2 (zssB bs2) most := ⟨_, rfl⟩
          obtain ⟨t2, ht2⟩ : ∃ t, t = okC r2 c2 (zssB bs2) most := ⟨_, rfl⟩
          rw [← hn2, ← ht2] at HD1 HD2
          clear hbs hb HB7 hn2 ht2
          go_wp2_with fail
          refine (HD1.out _ BS8.out).mono ?_
          rintro e w9 ⟨rfl, hb⟩
          have HB9 := Lib.hid (HB8.out.trans (hb.mono HB8.out.size))
          have BS9 := Lib.hid (BS8.out.below hb)
          clear hb HB8 BS8 HD1
          go_wp2_with fail
          refine (HD2.out _ BS9.out).mono ?_
          rintro e w10 ⟨rfl, hb⟩
          have HB10 := Lib.hid (HB9.out.trans (hb.mono HB9.out.size))
          clear hb HB9 BS9 HD2
          go_wp2_with fail
          refine (drawFull_any _ _ cs _ HM.out (HR.out.below HB10.out) HZ.out).mono ?_
          rintro e w11 ⟨r3, c3, ba3, bc3, bs3, rfl, hbs, hb⟩
          have HB11 := Lib.hid (HB10.out.trans (hb.mono HB10.out.size))
          have BS11 := Lib.hid hbs
          clear hbs hb HB10
          obtain ⟨⟨⟨us, un⟩, uk⟩, hres⟩ : ∃ res, res = fullR r3 c3 (zssB bs3) := ⟨_, rfl⟩
          have HU1 := Lib.hid (fun w h => implFull2 (a := ba3) (cap := bc3) hres.symm w h)
          have HU2 := Lib.hid (fun w h => specFull2 (a := ba3) (cap := bc3) hres.symm w h)
          have HUL := Lib.hid (show us.length ≤ maxLen by have := (fullR_len r3 c3 bs3).1; rw [← hres] at this; simp only at this; unfold maxLen; omega)
          have HUF : Hid (uk = true → _) := Lib.hid (fun (e : uk = true) => full_first (r := r3) (c := c3) (bs := bs3) (s := us) (n := un) (by rw [← hres, e]))
          clear hres
          go_wp2_with fail
          refine (HU1.out _ BS11.out).mono ?_
          rintro e w12 ⟨ua, uc, rfl, hs, hsc, hb⟩
          have HB12 := Lib.hid (HB11.out.trans (hb.mono HB11.out.size))
          have BS12 := Lib.hid (BS11.out.below hb)
          have HS12 := Lib.hid hs
          have HSC := Lib.hid hsc
          clear hs hsc hb HU1 BS11 HB11
          go_wp2_with fail
          refine (HU2.out _ BS12.out).mono ?_
          rintro e w13 ⟨va, vc, rfl, hs, _, hb⟩
          have HB13 := Lib.hid (HB12.out.trans (hb.mono HB12.out.size))
          have BS13 := Lib.hid (BS12.out.below hb)
          have HS13 := Lib.hid (HS12.out.below hb)
          have HT13 := Lib.hid hs
          clear hs hb HU2 BS12 HB12 HS12
          go_wp2_with fail
          refine (vTexts_same ua va uc vc us _ HUL.out HS13.out HT13.out).mono ?_
          rintro e w14 ⟨rfl, hd⟩
          have hb := hd.below w13.heap.size
          have HB14 := Lib.hid (HB13.out.trans (hb.mono HB13.out.size))
          have BS14 := Lib.hid (BS13.out.below hb)
          have HS14 := Lib.hid (HS13.out.below hb)
          clear hb hd HB13 BS13 HS13 HT13
          cases uk
          · go_wp2_with fail
            go_ret
            exact ⟨rfl, HB14.out⟩
          · obtain ⟨hg, hn, ⟨fps, fs⟩, hfr, hfg, hfn⟩ := HUF.out rfl
            have HG1 := Lib.hid (fun a cp w hc h => pts2 hg hn a cp w hc h)
            have HG2 := Lib.hid (fun w h => implFirst2 (a := ba3) (cap := bc3) hfr w h)
            have HG3 := Lib.hid (fun a cp w hc h => pts2 hfg rfl a cp w hc h)
            simp only at hfn
            obtain ⟨fn, hfn2⟩ : ∃ n, n = ptsF fs := ⟨_, rfl⟩
            rw [← hfn2] at HG3 hfn
            have hd : decide (fn < un) = false := by simp; omega
            clear hg hn hfr hfg hfn hfn2 HUF
            go_wp2_with fail
            refine (HG1.out _ _ _ HSC.out HS14.out).mono ?_
            rintro e w15 ⟨rfl, hb⟩
            have HB15 := Lib.hid (HB14.out.trans (hb.mono HB14.out.size))
            have BS15 := Lib.hid (BS14.out.below hb)
            clear hb HB14 BS14 HS14 HG1
            go_wp2_with fail
            refine (HG2.out _ BS15.out).mono ?_
            rintro e w16 ⟨xa, xc, ya, yc, rfl, _, hs, hsc, hb⟩
            have HB16 := Lib.hid (HB15.out.trans (hb.mono HB15.out.size))
            have HS16 := Lib.hid hs
            have HSC2 := Lib.hid hsc
            clear hb hs hsc HB15 BS15 HG2
            go_wp2_with fail
            refine (HG3.out _ _ _ HSC2.out HS16.out).mono ?_
            rintro e w17 ⟨rfl, hb⟩
            have HB17 := Lib.hid (HB16.out.trans (hb.mono HB16.out.size))
            clear hb HB16 HS16 HG3
            go_wp2_with fail
            go_ret
            exact ⟨rfl, HB17.out⟩
end
end Go.Proofs.Ytenedmkjbmbapaa
