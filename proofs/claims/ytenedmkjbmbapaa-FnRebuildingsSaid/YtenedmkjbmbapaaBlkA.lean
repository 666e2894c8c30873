/- Rows of blocks: opened, sized, copied, compared. -/
import Derived.Test.YtenedmkjbmbapaaAskM
import Derived.Test.YtenedmkjbmbapaaArgT
import Derived.Test.YtenedmkjbmbapaaAppK
import Derived.Test.YtenedmkjbmbapaaExt
namespace Go.Proofs.Ytenedmkjbmbapaa
open Go.ChangeShapes Go.WideShapes Go.ChangeAt Go.RowKit Go.Deep

instance : Inhabited BlkT := ⟨⟨none, 0, []⟩⟩
structure BlocksIn (w : World) (s : Slc) (bs : List BlkT) : Prop where
  size : bs.length = s.len
  most : s.len ≤ maxLen
  at' : BlksAt w s.ad bs
  fits : Fits bs
set_option maxRecDepth 100000 in
theorem arg_blocks {H : Type} {enc : TypeId × Value → H} {W : World} {base : Nat} {v : Value} {d : DataW H} {p : List MemPlace} (hv : Value.okWide Try.prog W .any base 22 v) (h : DataW.Trod enc Try.prog W 0 (fun _ => true) true 22 v d p) :
    ∃ x : Slc × List BlkT, v = x.1.val ∧ BlocksIn W x.1 x.2 := by
  obtain ⟨a, len, cap, rfl⟩ := okWide_slice Try.underlying22 hv
  obtain ⟨fuel, hf⟩ := h
  rcases open_slice Try.underlying22 hf with ⟨hcs, _⟩ | ⟨x, l, c, m, n, D, Pl, hcs, _, hl, hm, hmm, _, hel⟩
  · simp [Value.cells] at hcs
    obtain ⟨rfl, rfl, rfl⟩ := hcs
    exact ⟨(⟨none, 0, 0⟩, []), rfl, rfl, by simp [maxLen], ⟨.inl rfl, by simp⟩, fun b hb => by simp at hb⟩
  · simp [Value.cells] at hcs
    obtain ⟨rfl, rfl, rfl⟩ := hcs
    simp at hmm
    have key : ∀ i, i < len → ∃ b : BlkT, (b.zs.length ≤ maxLen ∧ ∀ z ∈ b.zs, z.size ≤ maxLen) ∧ Reads W b.ad (strs b.zs) ∧ W.cell? (x.add i) = some (.slice b.ad b.zs.length b.cap) := by
      intro i hi
      obtain ⟨cs', h1, h2⟩ := hel i (by omega)
      obtain ⟨_, hlen, hcell⟩ := World.cells?_some h1
      obtain ⟨⟨s, zs⟩, rfl, hfit⟩ := block_of_trod h2
      rw [laws_block_cells, Nat.mul_one] at hcell
      refine ⟨⟨s.ad, s.cap, zs⟩, ⟨by rw [hfit.size]; exact hfit.most, hfit.fits⟩, hfit.reads, ?_⟩
      have := hcell 0 (by omega)
      rw [Go.Deep.add_add, Nat.add_zero] at this
      simpa [Slc.val, hfit.size] using this
    obtain ⟨f, hfs⟩ := choose_lt key
    have hlenz : ((List.range len).map f).length = len := by simp
    refine ⟨(⟨some x, len, cap⟩, (List.range len).map f), rfl, hlenz, by show len ≤ maxLen; omega, ⟨?_, ?_⟩, ?_⟩
    · refine reads_of_cells (len := len) (by rw [blks_length, hlenz]) (fun j u hu => ?_)
      have hj : j < len := by
        have := (List.getElem?_eq_some_iff.1 hu).1
        rw [blks_length, hlenz] at this; exact this
      have h2 := blks_get (bs := (List.range len).map f) (k := j) (by rw [hlenz]; exact hj)
      rw [hu] at h2
      injection h2 with h2
      rw [h2]
      simpa using (hfs j hj).2.2
    · intro b hb
      simp only [List.mem_map, List.mem_range] at hb
      obtain ⟨i, hi, rfl⟩ := hb
      exact (hfs i hi).2.1
    · intro b hb
      simp only [List.mem_map, List.mem_range] at hb
      obtain ⟨i, hi, rfl⟩ := hb
      exact (hfs i hi).1
/-- the sizes of the first k blocks -/
def bTo (bs : List BlkT) (k : Nat) : Nat := ((bs.take k).map fun b => totS b.zs).sum
theorem bTo_succ {bs : List BlkT} {k : Nat} (h : k < bs.length) : bTo bs (k + 1) = bTo bs k + totS bs[k].zs := by
  unfold bTo; rw [List.take_succ_eq_append_getElem h, List.map_append, List.sum_append]; simp
theorem bTo_mono (bs : List BlkT) : ∀ {j k : Nat}, j ≤ k → k ≤ bs.length → bTo bs j ≤ bTo bs k := by
  intro j k hjk hk
  induction k with
  | zero => rw [show j = 0 by omega]; exact Nat.le_refl _
  | succ k ih =>
    rcases Nat.lt_or_ge k j with h | h
    · rw [show j = k + 1 by omega]; exact Nat.le_refl _
    · have := ih h (by omega)
      rw [bTo_succ (by omega)]; omega
def totB (bs : List BlkT) : Nat := bs.length + bTo bs bs.length
theorem totB_at {bs : List BlkT} {k : Nat} (h : k < bs.length) : totS bs[k].zs ≤ totB bs := by
  have h1 := bTo_succ h
  have h2 := bTo_mono bs (j := k + 1) (k := bs.length) (by omega) (by omega)
  unfold totB; omega
theorem totB_mem {bs : List BlkT} {b : BlkT} (h : b ∈ bs) : b.zs.length ≤ totB bs := by
  obtain ⟨k, hk, rfl⟩ := List.getElem_of_mem h
  have := totB_at hk
  unfold totS at this; omega
set_option maxRecDepth 100000 in
set_option maxHeartbeats 4000000 in
theorem szBlockS_any (a : Option Addr) (cap : Nat) (bs : List BlkT) (left : Nat) (w : World) (hm : bs.length ≤ maxLen) (hf : Fits bs) (hb : BlksAt w a bs) (h1 : left ≤ 1048576) :
    Calls Try.prog 8 #[.slice a bs.length cap, .int .i64 (left : Int)] w fun e w' => (∃ z : Int, e = .returned (.int .i64 z) ∧ ((totB bs ≤ left ∧ 0 ≤ z) ∨ z < 0)) ∧ Below w.heap.size w w' := by
  have HB0 := Lib.hid hb
  have HF := Lib.hid hf
  clear hb hf
  unfold maxLen at hm
  by_cases hneg : left < bs.length
  · have hw : IntKind.i64.wrap ((left : Int) - (bs.length : Int)) = (left : Int) - (bs.length : Int) := IntWalk.i64_in _ (by omega)
    have hd : (left : Int) - (bs.length : Int) < 0 := by omega
    go_enter Try.func8, Try.ntmps8
    go_wp2_with fail
    go_ret
    exact ⟨⟨-1, rfl, .inr (by omega)⟩, Below.refl _ _⟩
  obtain ⟨l0, hl0⟩ : ∃ l0 : Nat, (left : Int) - (bs.length : Int) = (l0 : Int) := ⟨left - bs.length, by omega⟩
  have hw : IntKind.i64.wrap ((left : Int) - (bs.length : Int)) = (l0 : Int) := by rw [IntWalk.i64_in _ (by omega)]; exact hl0
  have hd : ¬ (l0 : Int) < 0 := by omega
  have HL0 := Lib.hid hl0
  have hl1 : l0 ≤ 1048576 := by omega
  clear hl0 hneg
  go_enter Try.func8, Try.ntmps8
  go_wp2_with fail
  go_loopw [1, 5] (fun q i wr => ∃ k l : Nat, k ≤ bs.length ∧ i = .int .i64 k ∧ q = .int .i64 (l : Int) ∧ l + bTo bs k = l0 ∧ Below w.heap.size w wr) (fun _ i _ => bs.length - (intOf i).toNat)
  case atStart => exact ⟨0, l0, Nat.zero_le _, rfl, rfl, by simp [bTo], Below.refl _ _⟩
  case round =>
    obtain ⟨k, l, hk, rfl, rfl, hl, hbel⟩ := hrel
    have HB := Lib.hid hbel
    by_cases hlt : k < bs.length
    · have hbb := HB0.out.below hbel
      rcases hbb.outer with h0 | ⟨b, off, rfl, hb2, hc⟩
      · have := blks_length bs; rw [h0] at this; simp at this; omega
      have c0 := hc _ _ (blks_get hlt)
      have hin := hbb.inner _ (List.getElem_mem hlt)
      have hfk := HF.out _ (List.getElem_mem hlt)
      have hsuc := bTo_succ hlt
      by_cases hfit : totS bs[k].zs ≤ l
      · have HC := Lib.hid (szBlock_ok bs[k].ad bs[k].cap bs[k].zs (l : Int) wr hin (by omega) (by omega))
        obtain ⟨l2, hl2⟩ : ∃ l2 : Nat, (l : Int) - (totS bs[k].zs : Int) = (l2 : Int) := ⟨l - totS bs[k].zs, by omega⟩
        rw [hl2] at HC
        have hn : ¬ (l2 : Int) < 0 := by omega
        have HNEW : Hid (l2 + bTo bs (k + 1) = l0) := Lib.hid (by omega)
        clear hbb hin hfk hc hbel hsuc hfit hl2 hl
        go_wp2_with fail
        refine HC.out.mono ?_
        rintro e w1 ⟨rfl, hb⟩
        have HB1 := Lib.hid (HB.out.trans (hb.mono HB.out.size))
        clear hb c0
        go_wp2_with fail
        go_roundw
        case rel => exact ⟨k + 1, l2, by omega, by go_num, rfl, HNEW.out, HB1.out⟩
        case measure => simp [intOf]; omega
      · have HC := Lib.hid (szBlock_big bs[k].ad bs[k].cap bs[k].zs (l : Int) wr hfk.1 hin (by omega) (by omega) (by omega) hfk.2)
        clear hbb hin hfk hc hbel hsuc hfit hl
        go_wp2_with fail
        refine HC.out.mono ?_
        rintro e w1 ⟨rfl, hb⟩
        have HB1 := Lib.hid (HB.out.trans (hb.mono HB.out.size))
        clear hb c0
        go_wp2_with fail
        go_ret
        exact ⟨⟨-1, rfl, .inr (by omega)⟩, HB1.out⟩
    · obtain rfl : k = bs.length := by omega
      have HEND : Hid (totB bs ≤ left) := Lib.hid (by have := HL0.out; unfold totB; omega)
      clear hbel hl
      go_wp2_with fail
      go_ret
      exact ⟨⟨_, rfl, .inl ⟨HEND.out, by omega⟩⟩, HB.out⟩
theorem info_blk : (Try.prog.info? 45).map (fun i => (i.zero, i.size, i.bytes)) = some (some (.agg #[.slice none 0 0]), 1, 24) := by kernel_rfl
theorem make_blks (n : Nat) (hn : n ≤ 2097152) (u : World) : (Instr.makeSlice 26 (.int .i64 (n : Int)) (.int .i64 (n : Int))).run Try.prog u =
    .ok (.slice (some ⟨u.heap.size, 0, none⟩) n n) (u.alloc (.cells (List.replicate n (Value.slice none 0 0)).toArray 45)) := by
  obtain ⟨i0, hi, hz0, hz1, hz2⟩ := info_parts info_blk
  have h := run_make (P := Try.prog) u 26 45 i0 _ Try.underlying26 hi hz0 .i64 .i64 (n : Int) (n : Int) (by omega) (Int.le_refl _) (by rw [hz2]; omega) (by omega)
  have e1 : madeCells #[Value.slice none 0 0] n = (List.replicate n (Value.slice none 0 0)).toArray := by
    apply Array.ext'
    rw [toList_madeCells_one]
  rw [← e1]
  simpa [hz1, Value.cells] using h
theorem blks_snoc (bs : List BlkT) (b : BlkT) : blks (bs ++ [b]) = blks bs ++ [.slice b.ad b.zs.length b.cap] := by simp [blks]
theorem zssB_snoc (bs : List BlkT) (b : BlkT) : zssB (bs ++ [b]) = zssB bs ++ [b.zs] := by simp [zssB]
theorem row_put {A : List Value} {v : Value} {n k : Nat} {z : Value} (ha : A.length = k) (h : k < n) : (A ++ List.replicate (n - k) z).set k v = A ++ [v] ++ List.replicate (n - (k + 1)) z := by
  subst ha
  rw [List.set_append_right _ _ (Nat.le_refl _), Nat.sub_self, show n - A.length = (n - (A.length + 1)) + 1 by omega, List.replicate_succ, List.set_cons_zero]
  simp
set_option maxRecDepth 100000 in
set_option maxHeartbeats 4000000 in
theorem toBlockS_any (a : Option Addr) (cap : Nat) (bs : List BlkT) (w : World) (hn : bs.length ≤ 2097152) (hz : ∀ b ∈ bs, b.zs.length ≤ 2097152) (hb : BlksAt w a bs) :
    Calls Try.prog 10 #[.slice a bs.length cap] w fun e w' => ∃ g cs, e = .returned (.slice (some ⟨g, 0, none⟩) bs.length bs.length) ∧ zssB cs = zssB bs ∧ BlksAt w' (some ⟨g, 0, none⟩) cs ∧ Below w.heap.size w w' := by
  have hmk := make_blks bs.length hn
  have HB0 := Lib.hid hb
  have HZ := Lib.hid hz
  clear hb hz
  go_enter Try.func10, Try.ntmps10
  go_wp2_with fail
  go_loopw [4] (fun i wr => ∃ (k : Nat) (cs : List BlkT), k ≤ bs.length ∧ i = .int .i64 k ∧ cs.length = k ∧ zssB cs = zssB (bs.take k) ∧ RowIs wr w.heap.size 45 (blks cs ++ List.replicate (bs.length - k) (.slice none 0 0)) ∧ (∀ c ∈ cs, Reads wr c.ad (strs c.zs) ∧ ∀ q, c.ad = some q → w.heap.size < q.block) ∧ Below w.heap.size w wr) (fun i _ => bs.length - (intOf i).toNat)
  case atStart => exact ⟨0, [], Nat.zero_le _, rfl, rfl, rfl, RowIs.new _ _ _, by simp, Go.Joins.below_alloc1 _ _⟩
  case round =>
    obtain ⟨k, cs, hk, rfl, hcl, hzz, hrow, hin, hbel⟩ := hrel
    have HB := Lib.hid hbel
    have HROW := Lib.hid hrow
    have HIN := Lib.hid hin
    have HZZ := Lib.hid hzz
    have HCL := Lib.hid hcl
    by_cases hlt : k < bs.length
    · have hbb := HB0.out.below hbel
      rcases hbb.outer with h0 | ⟨b, off, rfl, hb2, hc⟩
      · have := blks_length bs; rw [h0] at this; simp at this; omega
      have c0 := hc _ _ (blks_get hlt)
      have hrd := hbb.inner _ (List.getElem_mem hlt)
      have HC := Lib.hid (toBlock_any bs[k].ad bs[k].cap bs[k].zs wr (HZ.out _ (List.getElem_mem hlt)) hrd)
      have HTK := Lib.hid (show zssB (bs.take (k + 1)) = zssB (bs.take k) ++ [bs[k].zs] by rw [List.take_succ_eq_append_getElem hlt, zssB_snoc])
      have hgt := Lib.hid (show (blks cs ++ List.replicate (bs.length - k) (Value.slice none 0 0))[k]? = some (.slice none 0 0) by
        rw [List.getElem?_append_right (by rw [blks_length, hcl]; omega), blks_length, hcl, Nat.sub_self, List.getElem?_replicate, if_pos (by omega)])
      clear hbb hc hbel hrow hin hzz hrd hcl
      go_wp2_with fail
      refine HC.out.mono ?_
      rintro e w1 ⟨g, rfl, hg, hnew, hb⟩
      have HB1 := Lib.hid (HB.out.trans (hb.mono HB.out.size))
      have HR1 := Lib.hid (HROW.out.below hb)
      have s0 := HR1.out.cell hgt.out
      have f0 := HR1.out.free k
      have HI1 := Lib.hid (fun c (hc : c ∈ cs) => (⟨(HIN.out c hc).1.below hb, (HIN.out c hc).2⟩ : Reads w1 c.ad (strs c.zs) ∧ ∀ q, c.ad = some q → w.heap.size < q.block))
      have hlt2 : w.heap.size < wr.heap.size := HROW.out.lt
      have HNEW := Lib.hid hnew
      have HGG : Hid (w.heap.size < g) := Lib.hid (by omega)
      clear hb c0 hnew
      go_wp2_with fail
      go_roundw
      case rel =>
        refine ⟨k + 1, cs ++ [⟨some ⟨g, 0, none⟩, bs[k].zs.length, bs[k].zs⟩], by omega, by go_num, by simp [HCL.out], by rw [zssB_snoc, HTK.out, HZZ.out], ?_, ?_, HB1.out.setCell (Nat.le_refl _) _⟩
        · have h := HR1.out.set k (.slice (some ⟨g, 0, none⟩) bs[k].zs.length bs[k].zs.length)
          rw [row_put (by rw [blks_length, HCL.out]) hlt] at h
          rw [blks_snoc]
          exact h
        · intro c hc
          rcases List.mem_append.1 hc with hc | hc
          · obtain ⟨h1, h2⟩ := HI1.out c hc
            refine ⟨?_, h2⟩
            exact (Fr.of_grown (grownBy_setCell w1 _ _)).reads h1 (fun q hq e => by
              have := h2 q hq
              have e2 : w.heap.size = q.block := Option.some.inj e
              omega)
          · obtain rfl := List.mem_singleton.1 hc
            refine ⟨(HNEW.out.far (by have := HGG.out; dsimp only; omega) _).reads, fun q hq => by injection hq with hq; subst hq; exact HGG.out⟩
      case measure => simp [intOf]; omega
    · obtain rfl : k = bs.length := by omega
      have HFIN : Hid (BlksAt wr (some ⟨w.heap.size, 0, none⟩) cs) := Lib.hid ⟨by have := HROW.out; rw [Nat.sub_self, List.replicate_zero, List.append_nil] at this; exact this.reads, fun c hc => (HIN.out c hc).1⟩
      have HZF : Hid (zssB cs = zssB bs) := Lib.hid (by rw [HZZ.out, List.take_length])
      clear hbel hrow hin hzz hcl
      go_wp2_with fail
      go_ret
      exact ⟨_, cs, rfl, HZF.out, HFIN.out, HB.out⟩
set_option maxRecDepth 100000 in
set_option maxHeartbeats 4000000 in
theorem eqBlockS_same (a b : Option Addr) (ca cb : Nat) (xs ys : List BlkT) (w : World) (he : zssB xs = zssB ys) (hm : xs.length ≤ maxLen) (hz : ∀ x ∈ xs, x.zs.length ≤ maxLen) (hx : BlksAt w a xs) (hy : BlksAt w b ys) :
    Calls Try.prog 12 #[.slice a xs.length ca, .slice b xs.length cb] w fun e w' => e = .returned (.bool true) ∧ Below w.heap.size w w' := by
  have hl : ys.length = xs.length := by have := congrArg List.length he; rw [zssB_length, zssB_length] at this; exact this.symm
  have HX := Lib.hid hx
  have HY := Lib.hid hy
  have HZ := Lib.hid hz
  have HE := Lib.hid (fun k (hk : k < xs.length) (hk2 : k < ys.length) => (show xs[k].zs = ys[k].zs by
    have := congrArg (fun l => l[k]?) he
    simpa [zssB, hk, hk2] using this))
  have HL := Lib.hid hl
  clear hx hy hz he hl
  unfold maxLen at hm
  go_enter Try.func12, Try.ntmps12
  go_wp2_with fail
  go_loopw [5] (fun i wr => ∃ k : Nat, k ≤ xs.length ∧ i = .int .i64 k ∧ Below w.heap.size w wr) (fun i _ => xs.length - (intOf i).toNat)
  case atStart => exact ⟨0, Nat.zero_le _, rfl, Below.refl _ _⟩
  case round =>
    obtain ⟨k, hk, rfl, hbel⟩ := hrel
    have HB := Lib.hid hbel
    by_cases hlt : k < xs.length
    · have hlt2 : k < ys.length := by rw [HL.out]; exact hlt
      have hxx := HX.out.below hbel
      have hyy := HY.out.below hbel
      rcases hxx.outer with h0 | ⟨b1, o1, rfl, hb1, hc1⟩
      · have := blks_length xs; rw [h0] at this; simp at this; omega
      rcases hyy.outer with h0 | ⟨b2, o2, rfl, hb2, hc2⟩
      · have := blks_length ys; rw [h0] at this; simp at this; omega
      have c0 := hc1 _ _ (blks_get hlt)
      have d0 := hc2 _ _ (blks_get hlt2)
      have x0 : ∀ x : Ext wr, x.1.cell? ⟨b1, o1 + k, none⟩ = some (.slice xs[k].ad xs[k].zs.length xs[k].cap) := fun x => (x.cell hb1).trans c0
      have y0 : ∀ x : Ext wr, x.1.cell? ⟨b2, o2 + k, none⟩ = some (.slice ys[k].ad ys[k].zs.length ys[k].cap) := fun x => (x.cell hb2).trans d0
      have hi1 := hxx.inner _ (List.getElem_mem hlt)
      have hi2 := hyy.inner _ (List.getElem_mem hlt2)
      have hzk := HZ.out _ (List.getElem_mem hlt)
      have hek := HE.out k hlt hlt2
      obtain ⟨⟨ya, yc, yz⟩, hyk⟩ : ∃ y, y = ys[k] := ⟨_, rfl⟩
      rw [← hyk] at hek hi2 y0
      simp only at hek hi2 y0
      subst hek
      have HC := Lib.hid (fun (x : Ext wr) => (show Calls Try.prog 58 #[.agg #[.slice xs[k].ad xs[k].zs.length xs[k].cap], .agg #[.slice ya xs[k].zs.length yc]] x.1 fun e w' => e = .returned (.bool true) ∧ Below x.1.heap.size x.1 w' by
        have := eqBlock_any xs[k].ad ya xs[k].cap yc xs[k].zs xs[k].zs x.1 hzk hzk (hi1.below x.2) (hi2.below x.2)
        simpa using this))
      clear hc1 hc2 c0 d0 hbel hxx hyy hi1 hi2 hyk
      go_wp2_with fail
      refine wp_region_ext (by kernel_rfl) (by kernel_rfl) ?_
      repeat (go_big_quiet_step ((go_at_call 58; exact ext_call (HC.out _))))
      refine wpQuiet_nil ?_
      rintro _ ⟨x, rfl⟩
      go_wp2_with fail
      go_roundw
      case rel => exact ⟨k + 1, by omega, by go_num, HB.out.trans (x.2.mono HB.out.size)⟩
      case measure => simp [intOf]; omega
    · obtain rfl : k = xs.length := by omega
      clear hbel
      go_wp2_with fail
      go_ret
      exact ⟨rfl, HB.out⟩
end Go.Proofs.Ytenedmkjbmbapaa
