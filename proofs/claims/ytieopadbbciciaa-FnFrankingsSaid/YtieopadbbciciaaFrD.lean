/- Draws of the law on frankings. -/
import Derived.Test.YtieopadbbciciaaCurL
import Derived.Test.YtieopadbbciciaaIntS
namespace Go.Proofs.Ytieopadbbciciaa
open Go.RowKit

theorem grown_newI {w w1 w2 : World} {g : Nat} {row : Option Nat} (h : w.grownBy w1 (some g)) (h2 : w1.grownBy w2 row) (hr : ∀ q, row = some q → w.heap.size ≤ q) : w.grownBy w2 (some g) :=
  ⟨h2.os.trans h.os, h2.tape.trans h.tape, h2.output.trans h.output, Nat.le_trans h.size h2.size, fun k hk hne => (h2.block k (Nat.lt_of_lt_of_le hk h.size) (fun e => by have := hr k e.symm; omega)).trans (h.block k hk hne)⟩
/-- a list of numbers of the draw's own, and the cursor -/
structure LsI (w wr : World) (g n : Nat) (v : Value) (zs : List Int) : Prop where
  form : ∃ ad cp, v = .slice ad zs.length cp
  own : wr.ownsRow w.heap.size 3 1 v zs.length (ints zs)
  cur : Cur wr g n
  low : g < w.heap.size
  grown : w.grownBy wr (some g)
theorem LsI.step {w wr w2 : World} {g n m : Nat} {v : Value} {zs : List Int} (h : LsI w wr g n v zs) (hc : Cur w2 g m) (hg : wr.grownBy w2 (some g)) : LsI w w2 g m v zs :=
  ⟨h.form, own_kept h.own hg (fun q hq e => by have := (h.own.lt q hq).1; have := h.low; injection e with e; omega), hc, h.low, grownBy_trans h.grown hg⟩
theorem LsI.app {w w2 w3 : World} {g n : Nat} {v v' : Value} {zs : List Int} {c : Int} {o : Obj} (h : LsI w w2 g n v zs) (ho : w3.ownsRow w.heap.size 3 1 v' (zs.length + 1) (ints zs ++ [.int .i64 c]))
    (hg : (w2.alloc o).grownBy w3 v.ownBlock) : LsI w w3 g n v' (zs ++ [c]) := by
  have hq : ∀ q, v.ownBlock = some q → w.heap.size ≤ q := fun q hq => (h.own.lt q hq).1
  obtain ⟨g3, c3, hv⟩ := Go.Joins.ownsRow_form ho (by omega)
  refine ⟨⟨some ⟨g3, 0, none⟩, c3, by rw [hv]; simp⟩, by simpa [ints] using ho, (h.cur.alloc o).kept hg (fun q e => by have := hq q e; have := h.low; omega), h.low, grown_newI (grown_alloc h.grown o) hg hq⟩
theorem LsI.mono {w wr : World} {g n m : Nat} {v : Value} {zs : List Int} (h : LsI w wr g n v zs) (hm : n ≤ m) : LsI w wr g m v zs := ⟨h.form, h.own, h.cur.mono hm, h.low, h.grown⟩
theorem LsI.fresh {w wr : World} {g n : Nat} (h : Cur wr g n) (hl : g < w.heap.size) (hg : w.grownBy wr (some g)) : LsI w (wr.alloc (.cells #[] 3)) g n (.slice (some ⟨wr.heap.size, 0, none⟩) 0 0) [] :=
  ⟨⟨_, _, rfl⟩, RowIs.owns (RowIs.new wr 3 ([] : List Value)) (n := 0) (sz := 1) rfl (by unfold maxLen; omega) hg.size, h.alloc _, hl, grown_alloc hg _⟩
theorem len_snocI (zs : List Int) (c : Int) : (zs ++ [c]).length = zs.length + 1 := by simp
/-- a drawn list of stamps -/
structure StR (w : World) (a : Option Addr) (cp : Nat) (zs : List StampT) : Prop where
  len : zs.length ≤ 13
  cap : zs.length ≤ cp
  reads : Reads w a (stamps zs)
theorem StR.below {w w' : World} {a : Option Addr} {cp : Nat} {zs : List StampT} (h : StR w a cp zs) (hb : Below w.heap.size w w') : StR w' a cp zs := ⟨h.len, h.cap, h.reads.below hb⟩
theorem own_capS {w : World} {base n sz cap : Nat} {e : TypeId} {a : Option Addr} {xs : List Value} (h : w.ownsRow base e sz (.slice a n cap) n xs) : n ≤ cap := by
  rcases h.2 with ⟨h1, _⟩ | ⟨g, c, cur, e1, _, _, h3, _⟩
  · injection h1 with _ h2 h3; omega
  · injection e1 with _ _ e3; rw [e3]; exact h3
theorem DrawnL.ls {w : World} {g m : Nat} {e : Ending} {w' : World} (h : DrawnL w g m e w') (hl : g < w.heap.size) : ∃ ad cp zs, e = .returned (.slice ad zs.length cp) ∧ zs.length ≤ 13 ∧ Ls w w' g m (.slice ad zs.length cp) zs := by
  obtain ⟨ad, cp, zs, he, h1, h2, h3, h4⟩ := h
  exact ⟨ad, cp, zs, he, h1, ⟨⟨_, _, rfl⟩, h2, h3, hl, h4⟩⟩
set_option maxRecDepth 100000 in
set_option maxHeartbeats 400000 in
theorem drawFew_any (a : Option Addr) (cap : Nat) (cs : List Int) (w : World) (hm : cs.length ≤ maxLen) (hr : Reads w a (bytesV cs)) (hz : ∀ z ∈ cs, 0 ≤ z ∧ z ≤ 255) :
    Calls Try.prog 15 #[.slice a cs.length cap] w fun e w' => ∃ (ad : Option Addr) (cp : Nat) (zs : List StampT) (q y : Int), e = .returned (.tuple #[.slice ad zs.length cp, .int .i64 q, .int .i64 y]) ∧ StR w' ad cp zs ∧ Below w.heap.size w w' := by
  have HC := Lib.hid (cur_newT cap hm hr hz)
  have HS := Lib.hid (fun w g n h hn => stamps_any g n w h hn)
  have HA1 := Lib.hid (fun w g n h hn => among_lit g n [1, 7, 11, 16, 24, 40, 99, 120, 0, 2001] w h hn (by simp) (by simp) #[.int .i64 1, .int .i64 7, .int .i64 11, .int .i64 16, .int .i64 24, .int .i64 40, .int .i64 99, .int .i64 120, .int .i64 0, .int .i64 2001] rfl 10 rfl)
  have HA2 := Lib.hid (fun w g n h hn => among_lit g n [1840, 1858, 1900, 2100, 2101] w h hn (by simp) (by simp) #[.int .i64 1840, .int .i64 1858, .int .i64 1900, .int .i64 2100, .int .i64 2101] rfl 5 rfl)
  have HB0 : Hid (∀ w', (w.alloc (.cells #[.slice a cs.length cap, .int .i64 0, .int .u64 0] 65)).grownBy w' (some w.heap.size) → Below w.heap.size w w') := Lib.hid (fun w' h => below_curT h)
  have hs0 : (w.alloc (.cells #[.slice a cs.length cap, .int .i64 0, .int .u64 0] 65)).heap.size = w.heap.size + 1 := by simp
  clear hr hz
  go_enter Try.func15, Try.ntmps15
  go_wp2_with fail
  generalize w.alloc (.cells #[.slice a cs.length cap, .int .i64 0, .int .u64 0] 65) = w0 at *
  have hlt := HC.out.lt
  clear hs0
  refine (HS.out _ _ 0 HC.out (by omega)).mono ?_
  intro e w1 hd
  obtain ⟨ad, cp, zs, rfl, hl13, hls⟩ := hd.ls hlt
  have HL1 := Lib.hid hls
  clear hd hls
  go_wp2_with fail
  refine (HA1.out _ _ _ HL1.out.cur (by omega)).mono ?_
  rintro e w2 ⟨q, rfl, _, hc, hg⟩
  have HL2 := Lib.hid (HL1.out.step hc hg)
  clear hc hg
  go_wp2_with fail
  refine (HA2.out _ _ _ HL2.out.cur (by omega)).mono ?_
  rintro e w3 ⟨y, rfl, _, hc, hg⟩
  have HL3 := Lib.hid (HL2.out.step hc hg)
  clear hc hg
  have HR := Lib.hid (own_reads HL3.out.own)
  have HCP := Lib.hid (own_capS HL3.out.own)
  have HB := Lib.hid (HB0.out _ HL3.out.grown)
  go_wp2_with fail
  go_ret3
  exact ⟨_, _, _, _, _, rfl, ⟨hl13, HCP.out, HR.out⟩, HB.out⟩
set_option maxRecDepth 100000 in
set_option maxHeartbeats 400000 in
theorem drawLeast_any (a : Option Addr) (cap : Nat) (cs : List Int) (w : World) (hm : cs.length ≤ maxLen) (hr : Reads w a (bytesV cs)) (hz : ∀ z ∈ cs, 0 ≤ z ∧ z ≤ 255) :
    Calls Try.prog 24 #[.slice a cs.length cap] w fun e w' => ∃ (ad : Option Addr) (cp : Nat) (zs : List StampT) (q y : Int), e = .returned (.tuple #[.slice ad zs.length cp, .int .i64 q, .int .i64 y]) ∧ StR w' ad cp zs ∧ Below w.heap.size w w' := by
  have HC := Lib.hid (cur_newT cap hm hr hz)
  have HS := Lib.hid (fun w g n h hn => stamps_any g n w h hn)
  have HA1 := Lib.hid (fun w g n h hn => among_lit g n [1, 7, 11, 16, 24, 40, 61, 130, 0, 2001] w h hn (by simp) (by simp) #[.int .i64 1, .int .i64 7, .int .i64 11, .int .i64 16, .int .i64 24, .int .i64 40, .int .i64 61, .int .i64 130, .int .i64 0, .int .i64 2001] rfl 10 rfl)
  have HA2 := Lib.hid (fun w g n h hn => among_lit g n [1, 2, 3, 4, 5, 6, 0, 7] w h hn (by simp) (by simp) #[.int .i64 1, .int .i64 2, .int .i64 3, .int .i64 4, .int .i64 5, .int .i64 6, .int .i64 0, .int .i64 7] rfl 8 rfl)
  have HB0 : Hid (∀ w', (w.alloc (.cells #[.slice a cs.length cap, .int .i64 0, .int .u64 0] 65)).grownBy w' (some w.heap.size) → Below w.heap.size w w') := Lib.hid (fun w' h => below_curT h)
  have hs0 : (w.alloc (.cells #[.slice a cs.length cap, .int .i64 0, .int .u64 0] 65)).heap.size = w.heap.size + 1 := by simp
  clear hr hz
  go_enter Try.func24, Try.ntmps24
  go_wp2_with fail
  generalize w.alloc (.cells #[.slice a cs.length cap, .int .i64 0, .int .u64 0] 65) = w0 at *
  have hlt := HC.out.lt
  clear hs0
  refine (HS.out _ _ 0 HC.out (by omega)).mono ?_
  intro e w1 hd
  obtain ⟨ad, cp, zs, rfl, hl13, hls⟩ := hd.ls hlt
  have HL1 := Lib.hid hls
  clear hd hls
  go_wp2_with fail
  refine (HA1.out _ _ _ HL1.out.cur (by omega)).mono ?_
  rintro e w2 ⟨q, rfl, _, hc, hg⟩
  have HL2 := Lib.hid (HL1.out.step hc hg)
  clear hc hg
  go_wp2_with fail
  refine (HA2.out _ _ _ HL2.out.cur (by omega)).mono ?_
  rintro e w3 ⟨y, rfl, _, hc, hg⟩
  have HL3 := Lib.hid (HL2.out.step hc hg)
  clear hc hg
  have HR := Lib.hid (own_reads HL3.out.own)
  have HCP := Lib.hid (own_capS HL3.out.own)
  have HB := Lib.hid (HB0.out _ HL3.out.grown)
  go_wp2_with fail
  go_ret3
  exact ⟨_, _, _, _, _, rfl, ⟨hl13, HCP.out, HR.out⟩, HB.out⟩
set_option maxRecDepth 100000 in
set_option maxHeartbeats 400000 in
theorem drawCan_any (a : Option Addr) (cap : Nat) (cs : List Int) (w : World) (hm : cs.length ≤ maxLen) (hr : Reads w a (bytesV cs)) (hz : ∀ z ∈ cs, 0 ≤ z ∧ z ≤ 255) :
    Calls Try.prog 25 #[.slice a cs.length cap] w fun e w' => ∃ (ad : Option Addr) (cp : Nat) (zs : List StampT) (q : Int), e = .returned (.tuple #[.slice ad zs.length cp, .int .i64 q]) ∧ StR w' ad cp zs ∧ Below w.heap.size w w' := by
  have HC := Lib.hid (cur_newT cap hm hr hz)
  have HS := Lib.hid (fun w g n h hn => stamps_any g n w h hn)
  have HA1 := Lib.hid (fun w g n h hn => among_lit g n [1, 10, 30, 60, 0, 501] w h hn (by simp) (by simp) #[.int .i64 1, .int .i64 10, .int .i64 30, .int .i64 60, .int .i64 0, .int .i64 501] rfl 6 rfl)
  have HB0 : Hid (∀ w', (w.alloc (.cells #[.slice a cs.length cap, .int .i64 0, .int .u64 0] 65)).grownBy w' (some w.heap.size) → Below w.heap.size w w') := Lib.hid (fun w' h => below_curT h)
  have hs0 : (w.alloc (.cells #[.slice a cs.length cap, .int .i64 0, .int .u64 0] 65)).heap.size = w.heap.size + 1 := by simp
  clear hr hz
  go_enter Try.func25, Try.ntmps25
  go_wp2_with fail
  generalize w.alloc (.cells #[.slice a cs.length cap, .int .i64 0, .int .u64 0] 65) = w0 at *
  have hlt := HC.out.lt
  clear hs0
  refine (HS.out _ _ 0 HC.out (by omega)).mono ?_
  intro e w1 hd
  obtain ⟨ad, cp, zs, rfl, hl13, hls⟩ := hd.ls hlt
  have HL1 := Lib.hid hls
  clear hd hls
  go_wp2_with fail
  refine (HA1.out _ _ _ HL1.out.cur (by omega)).mono ?_
  rintro e w2 ⟨q, rfl, _, hc, hg⟩
  have HL2 := Lib.hid (HL1.out.step hc hg)
  clear hc hg
  have HR := Lib.hid (own_reads HL2.out.own)
  have HCP := Lib.hid (own_capS HL2.out.own)
  have HB := Lib.hid (HB0.out _ HL2.out.grown)
  go_wp2_with fail
  go_ret2
  exact ⟨_, _, _, _, rfl, ⟨hl13, HCP.out, HR.out⟩, HB.out⟩
end Go.Proofs.Ytieopadbbciciaa
