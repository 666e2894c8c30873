/- Sheets and blocks drawn for the law on blocks. -/
import Derived.Test.YtenedmkjbmbapaaDrawP
import Derived.Test.YtenedmkjbmbapaaCurD
namespace Go.Proofs.Ytenedmkjbmbapaa
open Go.RowKit

/-- a row of texts that may be read -/
structure TxR (w : World) (a : Option Addr) (cp : Nat) (zs : List ByteArray) : Prop where
  len : zs.length ≤ 6
  tx : TxIn 6 zs
  cap : zs.length ≤ cp
  reads : Reads w a (strs zs)
theorem TxR.below {w w' : World} {a : Option Addr} {cp : Nat} {zs : List ByteArray} (h : TxR w a cp zs) (hb : Below w.heap.size w w') : TxR w' a cp zs := ⟨h.len, h.tx, h.cap, h.reads.below hb⟩
theorem TxR.grown {w w' : World} {a : Option Addr} {cp g B : Nat} {zs : List ByteArray} (h : TxR w a cp zs) (hg : w.grownBy w' (some g)) (hf : ∀ q, a = some q → B ≤ q.block) (hB : g < B) : TxR w' a cp zs := ⟨h.len, h.tx, h.cap, reads_farT h.reads hg hf hB⟩
theorem DrawnK.look {w : World} {g m : Nat} {e : Ending} {w' : World} (h : DrawnK w g m e w') : ∃ ad cp zs, e = .returned (.agg #[.slice ad zs.length cp]) ∧ TxR w' ad cp zs ∧ (∀ q, ad = some q → w.heap.size ≤ q.block) ∧ Cur w' g m ∧ w.grownBy w' (some g) := by
  obtain ⟨ad, cp, zs, he, h1, h2, h3, h4, h5, h6, h7⟩ := h
  exact ⟨ad, cp, zs, he, ⟨by omega, fun z hz => by have := h2 z hz; omega, h3, h4⟩, h5, h6, h7⟩
theorem DrawnP.look {w : World} {g m : Nat} {e : Ending} {w' : World} (h : DrawnP w g m e w') : ∃ ad cp zs, e = .returned (.slice ad zs.length cp) ∧ TxR w' ad cp zs ∧ (∀ q, ad = some q → w.heap.size ≤ q.block) ∧ Cur w' g m ∧ w.grownBy w' (some g) := by
  obtain ⟨ad, cp, zs, he, h1, h2, h3, h4, h5, h6, h7⟩ := h
  exact ⟨ad, cp, zs, he, ⟨h1, h2, h3, h4⟩, h5, h6, h7⟩
/-- a box of the draw's own, and a cursor above it -/
theorem box_cur {w : World} (a : Option Addr) (cap : Nat) (cs : List Int) (hm : cs.length ≤ maxLen) (hr : Reads w a (bytesV cs)) (hz : ∀ z ∈ cs, 0 ≤ z ∧ z ≤ 255) (o : Obj) :
    Cur ((w.alloc o).alloc (.cells #[.slice a cs.length cap, .int .i64 0, .int .u64 0] 92)) (w.heap.size + 1) 0 := by
  have := cur_newT (w := w.alloc o) cap hm (hr.below (Go.Joins.below_alloc1 w o)) hz
  rwa [show (w.alloc o).heap.size = w.heap.size + 1 by simp] at this
theorem below_set {w w1 : World} {p : Addr} (h : Below w.heap.size w w1) (hp : w.heap.size ≤ p.block) (v : Value) : Below w.heap.size w (w1.setCell p v) :=
  h.grown (grownBy_setCell w1 p v) h.size (fun q hq => by injection hq with hq; omega)
theorem below_by {w w1 w2 : World} {g : Nat} (h : Below w.heap.size w w1) (hg : w1.grownBy w2 (some g)) (hk : w.heap.size ≤ g) : Below w.heap.size w w2 := h.grown hg h.size (fun q hq => by injection hq with hq; omega)
theorem TxR.set {w : World} {a : Option Addr} {cp g B : Nat} {zs : List ByteArray} (h : TxR w a cp zs) (hf : ∀ q, a = some q → B ≤ q.block) (hB : g < B) (o : Nat) (v : Value) : TxR (w.setCell ⟨g, o, none⟩ v) a cp zs := h.grown (grownBy_setCell w ⟨g, o, none⟩ v) hf hB
set_option maxRecDepth 100000 in
theorem drawIsSheet_any (a : Option Addr) (cap : Nat) (cs : List Int) (w : World) (hm : cs.length ≤ maxLen) (hr : Reads w a (bytesV cs)) (hz : ∀ z ∈ cs, 0 ≤ z ∧ z ≤ 255) :
    Calls Try.prog 82 #[.slice a cs.length cap] w fun e w' => ∃ ad cp zs, e = .returned (.slice ad zs.length cp) ∧ TxR w' ad cp zs ∧ Below w.heap.size w w' := by
  have HC := Lib.hid (cur_newT cap hm hr hz)
  have HS := Lib.hid (fun w g n h hn => plateSheet_any g n w h hn)
  have HB0 : Hid (∀ w', (w.alloc (.cells #[.slice a cs.length cap, .int .i64 0, .int .u64 0] 92)).grownBy w' (some w.heap.size) → Below w.heap.size w w') := Lib.hid (fun w' h => below_curT h)
  clear hr hz
  go_enter Try.func82, Try.ntmps82
  go_wp2_with fail
  generalize w.alloc (.cells #[.slice a cs.length cap, .int .i64 0, .int .u64 0] 92) = w0 at *
  refine (HS.out _ _ 0 HC.out (by omega)).mono ?_
  intro e w1 hd
  obtain ⟨ad, cp, zs, rfl, ht, _, _, hg⟩ := hd.look
  have HT := Lib.hid ht
  have HB := Lib.hid (HB0.out _ hg)
  clear hd ht hg
  go_wp2_with fail
  go_ret
  exact ⟨_, _, _, rfl, HT.out, HB.out⟩
theorem drawPointsOn_any (a : Option Addr) (cap : Nat) (cs : List Int) (w : World) (hm : cs.length ≤ maxLen) (hr : Reads w a (bytesV cs)) (hz : ∀ z ∈ cs, 0 ≤ z ∧ z ≤ 255) :
    Calls Try.prog 39 #[.slice a cs.length cap] w fun e w' => ∃ ad cp zs, e = .returned (.slice ad zs.length cp) ∧ TxR w' ad cp zs ∧ Below w.heap.size w w' := by
  have H := Lib.hid (drawIsSheet_any a cap cs w hm hr hz)
  clear hr hz
  go_enter Try.func39, Try.ntmps39
  go_wp2_with fail
  refine H.out.mono ?_
  rintro e w1 ⟨ad, cp, zs, rfl, ht, hb⟩
  have HT := Lib.hid ht
  have HB := Lib.hid hb
  clear ht hb
  go_wp2_with fail
  go_ret
  exact ⟨_, _, _, rfl, HT.out, HB.out⟩
set_option maxRecDepth 100000 in
theorem drawIsBlock_any (a : Option Addr) (cap : Nat) (cs : List Int) (w : World) (hm : cs.length ≤ maxLen) (hr : Reads w a (bytesV cs)) (hz : ∀ z ∈ cs, 0 ≤ z ∧ z ≤ 255) :
    Calls Try.prog 84 #[.slice a cs.length cap] w fun e w' => ∃ ad cp zs, e = .returned (.agg #[.slice ad zs.length cp]) ∧ TxR w' ad cp zs ∧ (∀ q, ad = some q → w.heap.size < q.block) ∧ Below w.heap.size w w' := by
  have HC := Lib.hid (box_cur a cap cs hm hr hz (.cells #[.slice none 0 0] 45))
  have HK := Lib.hid (fun w g n h hn => block_any g n w h hn)
  have BX : Hid (RowIs ((w.alloc (.cells #[.slice none 0 0] 45)).alloc (.cells #[.slice a cs.length cap, .int .i64 0, .int .u64 0] 92)) w.heap.size 45 [.slice none 0 0]) := Lib.hid ((RowIs.new w 45 [.slice none 0 0]).alloc _)
  have HB0 := Lib.hid (Go.Joins.below_alloc2 w (.cells #[.slice none 0 0] 45) (.cells #[.slice a cs.length cap, .int .i64 0, .int .u64 0] 92))
  clear hr hz
  go_enter Try.func84, Try.ntmps84
  go_wp2_with fail
  generalize (w.alloc (.cells #[.slice none 0 0] 45)).alloc (.cells #[.slice a cs.length cap, .int .i64 0, .int .u64 0] 92) = w0 at *
  refine (HK.out _ _ 0 HC.out (by omega)).mono ?_
  intro e w1 hd
  obtain ⟨ad, cp, zs, rfl, ht, hf, _, hg⟩ := hd.look
  have hsz := HC.out.lt
  have HT := Lib.hid (ht.set (g := w.heap.size) hf (by omega) 0 (.slice ad zs.length cp))
  have HB := Lib.hid (below_set (p := ⟨w.heap.size, 0, none⟩) (below_by HB0.out hg (by omega)) (Nat.le_refl _) (.slice ad zs.length cp))
  have BX1 := Lib.hid (BX.out.grown hg (by intro e; injection e with e; omega))
  have HF := Lib.hid (fun (q : Addr) (hq : ad = some q) => (show w.heap.size < q.block by have := hf q hq; omega))
  have f0 := BX1.out.free 0
  have c0 := BX1.out.cell (j := 0) rfl
  clear hd ht hf hg
  go_wp2_with fail
  have F2 := (BX1.out.set 0 (.slice ad zs.length cp)).cell (j := 0) rfl
  exact bodyPost_ret (v := .agg #[.slice ad zs.length cp]) (by simp [results, Try.results84, go_sem, F2]) rfl ⟨_, _, _, rfl, HT.out, HF.out, HB.out⟩
set_option maxRecDepth 100000 in
theorem drawBlockText_any (a : Option Addr) (cap : Nat) (cs : List Int) (w : World) (hm : cs.length ≤ maxLen) (hr : Reads w a (bytesV cs)) (hz : ∀ z ∈ cs, 0 ≤ z ∧ z ≤ 255) :
    Calls Try.prog 41 #[.slice a cs.length cap] w fun e w' => ∃ ad cp zs, e = .returned (.agg #[.slice ad zs.length cp]) ∧ TxR w' ad cp zs ∧ Below w.heap.size w w' := by
  have HB0 := Lib.hid (Go.Joins.below_alloc1 w (.cells #[.slice none 0 0] 45))
  have H := Lib.hid (drawIsBlock_any a cap cs (w.alloc (.cells #[.slice none 0 0] 45)) hm (hr.below HB0.out) hz)
  have BX : Hid (RowIs (w.alloc (.cells #[.slice none 0 0] 45)) w.heap.size 45 [.slice none 0 0]) := Lib.hid (RowIs.new w 45 [.slice none 0 0])
  have hsz := BX.out.lt
  clear hr hz
  go_enter Try.func41, Try.ntmps41
  go_wp2_with fail
  generalize w.alloc (.cells #[.slice none 0 0] 45) = w0 at *
  refine H.out.mono ?_
  rintro e w1 ⟨ad, cp, zs, rfl, ht, hf, hb⟩
  have HT := Lib.hid (ht.set (g := w.heap.size) (B := w0.heap.size) (fun q hq => Nat.le_of_lt (hf q hq)) hsz 0 (.slice ad zs.length cp))
  have HB := Lib.hid (below_set (p := ⟨w.heap.size, 0, none⟩) (HB0.out.trans (hb.mono HB0.out.size)) (Nat.le_refl _) (.slice ad zs.length cp))
  have BX1 := Lib.hid (BX.out.below hb)
  have f0 := BX1.out.free 0
  have c0 := BX1.out.cell (j := 0) rfl
  clear ht hf hb
  go_wp2_with fail
  have F2 := (BX1.out.set 0 (.slice ad zs.length cp)).cell (j := 0) rfl
  exact bodyPost_ret (v := .agg #[.slice ad zs.length cp]) (by simp [results, Try.results41, go_sem, F2]) rfl ⟨_, _, _, rfl, HT.out, HB.out⟩
set_option maxRecDepth 100000 in
set_option maxHeartbeats 1000000 in
theorem drawPlacesFor_any (a : Option Addr) (cap : Nat) (cs : List Int) (w : World) (hm : cs.length ≤ maxLen) (hr : Reads w a (bytesV cs)) (hz : ∀ z ∈ cs, 0 ≤ z ∧ z ≤ 255) :
    Calls Try.prog 25 #[.slice a cs.length cap] w fun e w' => ∃ ad cp xs bd bp ys, e = .returned (.tuple #[.slice ad xs.length cp, .agg #[.slice bd ys.length bp]]) ∧ TxR w' ad cp xs ∧ TxR w' bd bp ys ∧ Below w.heap.size w w' := by
  have HC := Lib.hid (box_cur a cap cs hm hr hz (.cells #[.slice none 0 0] 45))
  have HS := Lib.hid (fun w g n h hn => plateSheet_any g n w h hn)
  have HK := Lib.hid (fun w g n h hn => block_any g n w h hn)
  have BX : Hid (RowIs ((w.alloc (.cells #[.slice none 0 0] 45)).alloc (.cells #[.slice a cs.length cap, .int .i64 0, .int .u64 0] 92)) w.heap.size 45 [.slice none 0 0]) := Lib.hid ((RowIs.new w 45 [.slice none 0 0]).alloc _)
  have HB0 := Lib.hid (Go.Joins.below_alloc2 w (.cells #[.slice none 0 0] 45) (.cells #[.slice a cs.length cap, .int .i64 0, .int .u64 0] 92))
  clear hr hz
  go_enter Try.func25, Try.ntmps25
  go_wp2_with fail
  generalize (w.alloc (.cells #[.slice none 0 0] 45)).alloc (.cells #[.slice a cs.length cap, .int .i64 0, .int .u64 0] 92) = w0 at *
  have hsz := HC.out.lt
  refine (HS.out _ _ 0 HC.out (by omega)).mono ?_
  intro e w1 hd
  obtain ⟨ad, cp, xs, rfl, ht, hf, hc, hg⟩ := hd.look
  have HC1 := Lib.hid hc
  have HG1 := Lib.hid hg
  have HT1 := Lib.hid ht
  have HF1 := Lib.hid hf
  clear hd ht hf hc hg
  go_wp2_with fail
  refine (HK.out _ _ _ HC1.out (by omega)).mono ?_
  intro e w2 hd
  obtain ⟨bd, bp, ys, rfl, ht, hf, _, hg⟩ := hd.look
  have HG2 := Lib.hid (grownBy_trans HG1.out hg)
  have hs1 := HG1.out.size
  have HTA := Lib.hid ((HT1.out.grown hg HF1.out (by omega)).set (g := w.heap.size) HF1.out (by omega) 0 (.slice bd ys.length bp))
  have HTB := Lib.hid (ht.set (g := w.heap.size) hf (by omega) 0 (.slice bd ys.length bp))
  have HB := Lib.hid (below_set (p := ⟨w.heap.size, 0, none⟩) (below_by HB0.out HG2.out (by omega)) (Nat.le_refl _) (.slice bd ys.length bp))
  have BX1 := Lib.hid (BX.out.grown HG2.out (by intro e; injection e with e; omega))
  have f0 := BX1.out.free 0
  have c0 := BX1.out.cell (j := 0) rfl
  clear hd ht hf hg
  go_wp2_with fail
  have F2 := (BX1.out.set 0 (.slice bd ys.length bp)).cell (j := 0) rfl
  exact bodyPost_ret (v := .tuple #[.slice ad xs.length cp, .agg #[.slice bd ys.length bp]]) (by simp [results, Try.results25, go_sem, F2]) rfl ⟨_, _, _, _, _, _, rfl, HTA.out, HTB.out, HB.out⟩
set_option maxRecDepth 100000 in
set_option maxHeartbeats 1000000 in
theorem drawLayBlock_any (a : Option Addr) (cap : Nat) (cs : List Int) (w : World) (hm : cs.length ≤ maxLen) (hr : Reads w a (bytesV cs)) (hz : ∀ z ∈ cs, 0 ≤ z ∧ z ≤ 255) :
    Calls Try.prog 33 #[.slice a cs.length cap] w fun e w' => ∃ ad cp xs bd bp ys r c, e = .returned (.tuple #[.slice ad xs.length cp, .agg #[.slice bd ys.length bp], .int .i64 r, .int .i64 c]) ∧ (-10 ≤ r ∧ r ≤ 10) ∧ (-10 ≤ c ∧ c ≤ 10) ∧ TxR w' ad cp xs ∧ TxR w' bd bp ys ∧ Below w.heap.size w w' := by
  have HC := Lib.hid (box_cur a cap cs hm hr hz (.cells #[.slice none 0 0] 45))
  have HP := Lib.hid (fun w g n m h hn h1 h2 => pick_any g n m w h hn h1 h2)
  have HS := Lib.hid (fun w g n h hn => plateSheet_any g n w h hn)
  have HK := Lib.hid (fun w g n h hn => block_any g n w h hn)
  have BX : Hid (RowIs ((w.alloc (.cells #[.slice none 0 0] 45)).alloc (.cells #[.slice a cs.length cap, .int .i64 0, .int .u64 0] 92)) w.heap.size 45 [.slice none 0 0]) := Lib.hid ((RowIs.new w 45 [.slice none 0 0]).alloc _)
  have HB0 := Lib.hid (Go.Joins.below_alloc2 w (.cells #[.slice none 0 0] 45) (.cells #[.slice a cs.length cap, .int .i64 0, .int .u64 0] 92))
  clear hr hz
  go_enter Try.func33, Try.ntmps33
  go_wp2_with fail
  generalize (w.alloc (.cells #[.slice none 0 0] 45)).alloc (.cells #[.slice a cs.length cap, .int .i64 0, .int .u64 0] 92) = w0 at *
  have hsz := HC.out.lt
  refine (HS.out _ _ 0 HC.out (by omega)).mono ?_
  intro e w1 hd
  obtain ⟨ad, cp, xs, rfl, ht, hf, hc, hg⟩ := hd.look
  have HC1 := Lib.hid hc
  have HG1 := Lib.hid hg
  have HT1 := Lib.hid ht
  have HF1 := Lib.hid hf
  clear hd ht hf hc hg
  go_wp2_with fail
  refine (HK.out _ _ _ HC1.out (by omega)).mono ?_
  intro e w2 hd
  obtain ⟨bd, bp, ys, rfl, ht, hf, hc, hg⟩ := hd.look
  have HC2 := Lib.hid hc
  have HG2 := Lib.hid (grownBy_trans HG1.out hg)
  have hs1 := HG1.out.size
  have HTA2 := Lib.hid (HT1.out.grown hg HF1.out (by omega))
  have HTB2 := Lib.hid ht
  have HF2 := Lib.hid hf
  clear hd ht hf hg hc
  go_wp2_with fail
  refine (HP.out _ _ _ 4 HC2.out (by omega) (by omega) (by omega)).mono ?_
  rintro e w3 ⟨x, rfl, ⟨x1, x2⟩, hc, hg⟩
  have HC3 := Lib.hid hc
  have HG3 := Lib.hid (grownBy_trans HG2.out hg)
  have HTA3 := Lib.hid (HTA2.out.grown hg HF1.out (by omega))
  have HTB3 := Lib.hid (HTB2.out.grown hg HF2.out (by omega))
  clear hc hg
  go_wp2_with fail
  refine (HP.out _ _ _ 17 HC3.out (by omega) (by omega) (by omega)).mono ?_
  rintro e w4 ⟨y, rfl, ⟨y1, y2⟩, hc, hg⟩
  have HC4 := Lib.hid hc
  have HG4 := Lib.hid (grownBy_trans HG3.out hg)
  have HTA4 := Lib.hid (HTA3.out.grown hg HF1.out (by omega))
  have HTB4 := Lib.hid (HTB3.out.grown hg HF2.out (by omega))
  have hq : 0 ≤ y.tdiv 16 ∧ y.tdiv 16 ≤ 1 := by rw [Int.tdiv_eq_ediv_of_nonneg y1]; omega
  have hq2 : 0 ≤ y / 16 ∧ y / 16 ≤ 1 := by omega
  clear hc hg
  go_wp2_with fail
  refine (HP.out _ _ _ 4 HC4.out (by omega) (by omega) (by omega)).mono ?_
  rintro e w5 ⟨z, rfl, ⟨z1, z2⟩, hc, hg⟩
  have HG5 := Lib.hid (grownBy_trans HG4.out hg)
  have HTA := Lib.hid ((HTA4.out.grown hg HF1.out (by omega)).set (g := w.heap.size) HF1.out (by omega) 0 (.slice bd ys.length bp))
  have HTB := Lib.hid ((HTB4.out.grown hg HF2.out (by omega)).set (g := w.heap.size) HF2.out (by omega) 0 (.slice bd ys.length bp))
  have HB := Lib.hid (below_set (p := ⟨w.heap.size, 0, none⟩) (below_by HB0.out HG5.out (by omega)) (Nat.le_refl _) (.slice bd ys.length bp))
  have BX1 := Lib.hid (BX.out.grown HG5.out (by intro e; injection e with e; omega))
  have f0 := BX1.out.free 0
  have c0 := BX1.out.cell (j := 0) rfl
  clear hc hg
  go_wp2_with fail
  have F2 := (BX1.out.set 0 (.slice bd ys.length bp)).cell (j := 0) rfl
  refine bodyPost_ret (v := .tuple #[.slice ad xs.length cp, .agg #[.slice bd ys.length bp], .int .i64 (x - y.tdiv 16), .int .i64 z]) (by simp [results, Try.results33, go_sem, F2]) rfl ⟨_, _, _, _, _, _, _, _, rfl, by omega, by omega, HTA.out, HTB.out, HB.out⟩
set_option maxRecDepth 100000 in
set_option maxHeartbeats 1000000 in
theorem drawDoAgree_any (a : Option Addr) (cap : Nat) (cs : List Int) (w : World) (hm : cs.length ≤ maxLen) (hr : Reads w a (bytesV cs)) (hz : ∀ z ∈ cs, 0 ≤ z ∧ z ≤ 255) :
    Calls Try.prog 36 #[.slice a cs.length cap] w fun e w' => ∃ ad cp xs bd bp ys r c, e = .returned (.tuple #[.agg #[.slice ad xs.length cp], .agg #[.slice bd ys.length bp], .int .i64 r, .int .i64 c]) ∧ (-10 ≤ r ∧ r ≤ 10) ∧ (-10 ≤ c ∧ c ≤ 10) ∧ TxR w' ad cp xs ∧ TxR w' bd bp ys ∧ Below w.heap.size w w' := by
  have HB00 := Lib.hid (Go.Joins.below_alloc1 w (.cells #[.slice none 0 0] 45))
  have HC := Lib.hid (box_cur (w := w.alloc (.cells #[.slice none 0 0] 45)) a cap cs hm (hr.below HB00.out) hz (.cells #[.slice none 0 0] 45))
  rw [show (w.alloc (.cells #[.slice none 0 0] 45)).heap.size = w.heap.size + 1 by simp] at HC
  have HK := Lib.hid (fun w g n h hn => block_any g n w h hn)
  have HA1 := Lib.hid (fun w g n h hn => among_lit g n [0, 1, 2, -1, -2, 3] w h hn (by simp) (by simp) #[.int .i64 0, .int .i64 1, .int .i64 2, .int .i64 (-1), .int .i64 (-2), .int .i64 3] rfl 6 rfl)
  have HA2 := Lib.hid (fun w g n h hn => among_lit g n [0, 1, 2, -1, -2, -3] w h hn (by simp) (by simp) #[.int .i64 0, .int .i64 1, .int .i64 2, .int .i64 (-1), .int .i64 (-2), .int .i64 (-3)] rfl 6 rfl)
  have BX : Hid (RowIs (((w.alloc (.cells #[.slice none 0 0] 45)).alloc (.cells #[.slice none 0 0] 45)).alloc (.cells #[.slice a cs.length cap, .int .i64 0, .int .u64 0] 92)) w.heap.size 45 [.slice none 0 0]) := Lib.hid ((two_new w (.slice none 0 0) (.slice none 0 0) 45 45).1.alloc _)
  have BY : Hid (RowIs (((w.alloc (.cells #[.slice none 0 0] 45)).alloc (.cells #[.slice none 0 0] 45)).alloc (.cells #[.slice a cs.length cap, .int .i64 0, .int .u64 0] 92)) (w.heap.size + 1) 45 [.slice none 0 0]) := Lib.hid ((two_new w (.slice none 0 0) (.slice none 0 0) 45 45).2.alloc _)
  have HB0 := Lib.hid ((Go.Joins.below_alloc2 w (.cells #[.slice none 0 0] 45) (.cells #[.slice none 0 0] 45)).alloc (by simp; omega) (.cells #[.slice a cs.length cap, .int .i64 0, .int .u64 0] 92))
  clear hr hz HB00
  go_enter Try.func36, Try.ntmps36
  go_wp2_with fail
  generalize ((w.alloc (.cells #[.slice none 0 0] 45)).alloc (.cells #[.slice none 0 0] 45)).alloc (.cells #[.slice a cs.length cap, .int .i64 0, .int .u64 0] 92) = w0 at *
  have hsz := HC.out.lt
  refine (HK.out _ _ 0 HC.out (by omega)).mono ?_
  intro e w1 hd
  obtain ⟨ad, cp, xs, rfl, ht, hf, hc, hg⟩ := hd.look
  have HC1 := Lib.hid hc
  have HG1 := Lib.hid hg
  have HT1 := Lib.hid ht
  have HF1 := Lib.hid hf
  clear hd ht hf hc hg
  go_wp2_with fail
  refine (HK.out _ _ _ HC1.out (by omega)).mono ?_
  intro e w2 hd
  obtain ⟨bd, bp, ys, rfl, ht, hf, hc, hg⟩ := hd.look
  have HC2 := Lib.hid hc
  have HG2 := Lib.hid (grownBy_trans HG1.out hg)
  have hs1 := HG1.out.size
  have HTA2 := Lib.hid (HT1.out.grown hg HF1.out (by omega))
  have HTB2 := Lib.hid ht
  have HF2 := Lib.hid hf
  clear hd ht hf hg hc
  go_wp2_with fail
  refine (HA1.out _ _ _ HC2.out (by omega)).mono ?_
  rintro e w3 ⟨x, rfl, hx, hc, hg⟩
  have x1 : -2 ≤ x ∧ x ≤ 3 := by simp at hx; omega
  have HC3 := Lib.hid hc
  have HG3 := Lib.hid (grownBy_trans HG2.out hg)
  have HTA3 := Lib.hid (HTA2.out.grown hg HF1.out (by omega))
  have HTB3 := Lib.hid (HTB2.out.grown hg HF2.out (by omega))
  clear hc hg hx
  go_wp2_with fail
  refine (HA2.out _ _ _ HC3.out (by omega)).mono ?_
  rintro e w4 ⟨y, rfl, hy, hc, hg⟩
  have y1 : -3 ≤ y ∧ y ≤ 2 := by simp at hy; omega
  have HG4 := Lib.hid (grownBy_trans HG3.out hg)
  have HTA := Lib.hid (((HTA3.out.grown hg HF1.out (by omega)).set (g := w.heap.size) HF1.out (by omega) 0 (.slice ad xs.length cp)).set (g := w.heap.size + 1) HF1.out (by omega) 0 (.slice bd ys.length bp))
  have HTB := Lib.hid (((HTB3.out.grown hg HF2.out (by omega)).set (g := w.heap.size) HF2.out (by omega) 0 (.slice ad xs.length cp)).set (g := w.heap.size + 1) HF2.out (by omega) 0 (.slice bd ys.length bp))
  have HB := Lib.hid (below_set (p := ⟨w.heap.size + 1, 0, none⟩) (below_set (p := ⟨w.heap.size, 0, none⟩) (below_by HB0.out HG4.out (by omega)) (Nat.le_refl _) (.slice ad xs.length cp)) (by show w.heap.size ≤ w.heap.size + 1; omega) (.slice bd ys.length bp))
  have BX1 := Lib.hid (BX.out.grown HG4.out (by intro e; injection e with e; omega))
  have BY1 := Lib.hid (BY.out.grown HG4.out (by intro e; injection e with e; omega))
  have f0 := BX1.out.free 0
  have c0 := BX1.out.cell (j := 0) rfl
  have f1 := BY1.out.free 0
  have c1 := BY1.out.cell (j := 0) rfl
  clear hc hg hy
  go_wp2_with fail
  have F1 := ((BX1.out.set 0 (.slice ad xs.length cp)).far (p := ⟨w.heap.size + 1, 0, none⟩) (by show w.heap.size ≠ w.heap.size + 1; omega) (.slice bd ys.length bp)).cell (j := 0) rfl
  have F2 := ((BY1.out.far (p := ⟨w.heap.size, 0, none⟩) (by show w.heap.size + 1 ≠ w.heap.size; omega) (.slice ad xs.length cp)).set 0 (.slice bd ys.length bp)).cell (j := 0) rfl
  refine bodyPost_ret (v := .tuple #[.agg #[.slice ad xs.length cp], .agg #[.slice bd ys.length bp], .int .i64 x, .int .i64 y]) (by simp [results, Try.results36, go_sem, F1, F2]) rfl ⟨_, _, _, _, _, _, _, _, rfl, by omega, by omega, HTA.out, HTB.out, HB.out⟩
end Go.Proofs.Ytenedmkjbmbapaa
