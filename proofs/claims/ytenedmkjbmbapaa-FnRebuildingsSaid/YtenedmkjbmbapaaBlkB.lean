/- Rows of blocks of the call's own: marked. -/
import Derived.Test.YtenedmkjbmbapaaBlkA
import Derived.Test.YtenedmkjbmbapaaMarkT
namespace Go.Proofs.Ytenedmkjbmbapaa
open Go.RowKit

theorem bTo_zss {bs cs : List BlkT} (h : zssB bs = zssB cs) (k : Nat) : bTo bs k = bTo cs k := by
  have e : ∀ ds : List BlkT, bTo ds k = (((zssB ds).take k).map totS).sum := fun ds => by simp [bTo, zssB, List.map_take, Function.comp_def]
  rw [e, e, h]
/-- rows that the call itself made, each in a block of its own, all at or above base and below top -/
structure OwnB (w : World) (base top : Nat) (a : Option Addr) (cs : List BlkT) : Prop where
  outer : Reads w a (blks cs)
  far : ∀ q, a = some q → ∀ k (hk : k < cs.length), (Value.slice cs[k].ad cs[k].zs.length cs[k].cap).ownBlock ≠ some q.block
  inner : ∀ k (hk : k < cs.length), ∃ xs, w.ownsRow base 9 1 (.slice cs[k].ad cs[k].zs.length cs[k].cap) cs[k].zs.length xs
  below : ∀ k (hk : k < cs.length) q, (Value.slice cs[k].ad cs[k].zs.length cs[k].cap).ownBlock = some q → q < top
  apart : ∀ i j (hi : i < cs.length) (hj : j < cs.length), i ≠ j → ∀ q, (Value.slice cs[i].ad cs[i].zs.length cs[i].cap).ownBlock = some q → (Value.slice cs[j].ad cs[j].zs.length cs[j].cap).ownBlock ≠ some q
/-- one row marked: the rows are still there -/
theorem OwnB.step {w w' : World} {base top : Nat} {a : Option Addr} {cs : List BlkT} (h : OwnB w base top a cs) {k : Nat} (hk : k < cs.length) (hg : w.grownBy w' (Value.slice cs[k].ad cs[k].zs.length cs[k].cap).ownBlock)
    {xs : List Value} (ho : w'.ownsRow base 9 1 (.slice cs[k].ad cs[k].zs.length cs[k].cap) cs[k].zs.length xs) : OwnB w' base top a cs := by
  refine ⟨?_, h.far, fun i hi => ?_, h.below, h.apart⟩
  · exact (Fr.of_grown hg).reads h.outer (fun q hq e => h.far q hq k hk e)
  · by_cases e : i = k
    · subst e; exact ⟨xs, ho⟩
    · obtain ⟨ys, hy⟩ := h.inner i hi
      exact ⟨ys, own_kept hy hg (fun q hq e2 => h.apart i k hi hk e q hq e2)⟩
set_option maxRecDepth 100000 in
set_option maxHeartbeats 4000000 in
theorem markBlockS_any (a : Option Addr) (cap base top : Nat) (cs : List BlkT) (w : World) (h : OwnB w base top a cs) (ht : totB cs ≤ 1048576) :
    Calls Try.prog 17 #[.slice a cs.length cap, .int .i64 1] w fun e w' => ∃ m : Nat, e = .returned (.int .i64 (m : Int)) ∧ Fr (fun k => base ≤ k ∧ k < top) w w' := by
  have hbt : ∀ k, k ≤ cs.length → bTo cs k ≤ 1048576 := fun k hk => by
    have := bTo_mono cs hk (Nat.le_refl _)
    unfold totB at ht; omega
  have hcl : cs.length ≤ 1048576 := by unfold totB at ht; omega
  have H0 := Lib.hid h
  have HBT := Lib.hid hbt
  clear h ht hbt
  go_enter Try.func17, Try.ntmps17
  go_wp2_with fail
  go_loopw [1, 5] (fun q i wr => ∃ k m : Nat, k ≤ cs.length ∧ i = .int .i64 k ∧ q = .int .i64 (m : Int) ∧ 1 ≤ m ∧ m ≤ 1 + bTo cs k ∧ Hid (OwnB wr base top a cs) ∧ Hid (Fr (fun k => base ≤ k ∧ k < top) w wr)) (fun _ i _ => cs.length - (intOf i).toNat)
  case atStart => exact ⟨0, 1, Nat.zero_le _, rfl, by go_num, by omega, by omega, H0, Lib.hid (Fr.refl _ _)⟩
  case round =>
    obtain ⟨k, m, hk, rfl, rfl, hm1, hm2, HO, HF⟩ := hrel
    by_cases hlt : k < cs.length
    · have HOo := HO.out
      rcases HOo.outer with h0 | ⟨b, off, rfl, hb2, hc⟩
      · have := blks_length cs; rw [h0] at this; simp at this; omega
      have c0 := hc _ _ (blks_get hlt)
      obtain ⟨xs, hxs⟩ := HOo.inner k hlt
      have hsuc := bTo_succ hlt
      have hb9 := HBT.out (k + 1) (by omega)
      have hzl : cs[k].zs.length ≤ totS cs[k].zs := by unfold totS; omega
      have HC := Lib.hid (markStringS_any cs[k].ad cs[k].zs.length cs[k].cap base xs (m : Int) m wr rfl (by omega) (by omega) (by omega) hxs)
      have hlo := hxs
      have HLO := Lib.hid (fun q (hq : (Value.slice cs[k].ad cs[k].zs.length cs[k].cap).ownBlock = some q) => (⟨(hlo.lt q hq).1, HOo.below k hlt q hq⟩ : base ≤ q ∧ q < top))
      obtain ⟨n2, hn2⟩ : ∃ n2 : Nat, (m : Int) + (cs[k].zs.length : Int) = (n2 : Int) := ⟨m + cs[k].zs.length, by omega⟩
      rw [hn2] at HC
      have hm3 : n2 ≤ 1 + bTo cs (k + 1) := by omega
      have hm4 : 1 ≤ n2 := by omega
      clear hc hxs hsuc hb9 hzl hlo hn2 HOo hm1 hm2
      go_wp2_with fail
      refine HC.out.mono ?_
      rintro e w1 ⟨rfl, ho, hg⟩
      have HO1 := Lib.hid (HO.out.step hlt hg ho)
      have HF1 := Lib.hid (HF.out.trans ((Fr.of_grown hg).mono (fun q _ hq => HLO.out q hq)))
      clear ho hg c0
      go_wp2_with fail
      go_roundw
      case rel => exact ⟨k + 1, n2, by omega, by go_num, rfl, hm4, hm3, HO1, HF1⟩
      case measure => simp [intOf]; omega
    · obtain rfl : k = cs.length := by omega
      go_wp2_with fail
      go_ret
      exact ⟨m, rfl, HF.out⟩
/-- the number of a block's row -/
def bn (c : BlkT) : Nat := match c.ad with | some q => q.block | none => 0
theorem ownB_of {w : World} {base : Nat} {cs : List BlkT} (ho : Reads w (some ⟨base, 0, none⟩) (blks cs)) (hin : ∀ c ∈ cs, c.ad = some ⟨bn c, 0, none⟩ ∧ base < bn c ∧ RowIs w (bn c) 9 (strs c.zs) ∧ c.zs.length ≤ maxLen ∧ c.cap = c.zs.length) (hp : cs.Pairwise (fun c d => bn c < bn d)) :
    OwnB w base w.heap.size (some ⟨base, 0, none⟩) cs := by
  have ob : ∀ k (hk : k < cs.length), (Value.slice cs[k].ad cs[k].zs.length cs[k].cap).ownBlock = some (bn cs[k]) := fun k hk => by
    obtain ⟨h1, _⟩ := hin _ (List.getElem_mem hk)
    generalize hb : bn cs[k] = b at h1 ⊢
    rw [h1]; rfl
  refine ⟨ho, fun q hq k hk e => ?_, fun k hk => ?_, fun k hk q hq => ?_, fun i j hi hj hne q hq hq2 => ?_⟩
  · rw [ob k hk] at e
    injection hq with hq; subst hq
    have := Option.some.inj e
    have := (hin _ (List.getElem_mem hk)).2.1
    dsimp only at *; omega
  · obtain ⟨h1, h2, h3, h4, h5⟩ := hin _ (List.getElem_mem hk)
    refine ⟨strs cs[k].zs, ?_⟩
    have := h3.owns (n := cs[k].zs.length) (sz := 1) (base := base) (by simp [strs]) h4 (Nat.le_of_lt h2)
    rw [h5]
    generalize hb : bn cs[k] = b at h1 this
    rw [h1]; exact this
  · rw [ob k hk] at hq
    have := Option.some.inj hq
    have := (hin _ (List.getElem_mem hk)).2.2.1.lt
    omega
  · rw [ob i hi] at hq
    rw [ob j hj] at hq2
    have h1 := Option.some.inj hq
    have h2 := Option.some.inj hq2
    rw [List.pairwise_iff_getElem] at hp
    rcases Nat.lt_or_gt_of_ne hne with h | h
    · have := hp i j hi hj h; omega
    · have := hp j i hj hi h; omega
set_option maxRecDepth 100000 in
set_option maxHeartbeats 4000000 in
theorem toBlockS_own (a : Option Addr) (cap : Nat) (bs : List BlkT) (w : World) (hn : bs.length ≤ 2097152) (hz : ∀ b ∈ bs, b.zs.length ≤ 2097152) (hb : BlksAt w a bs) :
    Calls Try.prog 10 #[.slice a bs.length cap] w fun e w' => ∃ g cs, e = .returned (.slice (some ⟨g, 0, none⟩) bs.length bs.length) ∧ zssB cs = zssB bs ∧ BlksAt w' (some ⟨g, 0, none⟩) cs ∧ OwnB w' w.heap.size w'.heap.size (some ⟨g, 0, none⟩) cs ∧ Below w.heap.size w w' := by
  have hmk := make_blks bs.length hn
  have HB0 := Lib.hid hb
  have HZ := Lib.hid hz
  clear hb hz
  go_enter Try.func10, Try.ntmps10
  go_wp2_with fail
  go_loopw [4] (fun i wr => ∃ (k : Nat) (cs : List BlkT), k ≤ bs.length ∧ i = .int .i64 k ∧ cs.length = k ∧ zssB cs = zssB (bs.take k) ∧ RowIs wr w.heap.size 45 (blks cs ++ List.replicate (bs.length - k) (.slice none 0 0)) ∧ (∀ c ∈ cs, c.ad = some ⟨bn c, 0, none⟩ ∧ w.heap.size < bn c ∧ RowIs wr (bn c) 9 (strs c.zs) ∧ c.zs.length ≤ maxLen ∧ c.cap = c.zs.length) ∧ cs.Pairwise (fun c d => bn c < bn d) ∧ Below w.heap.size w wr) (fun i _ => bs.length - (intOf i).toNat)
  case atStart => exact ⟨0, [], Nat.zero_le _, rfl, rfl, rfl, RowIs.new _ _ _, by simp, List.Pairwise.nil, Go.Joins.below_alloc1 _ _⟩
  case round =>
    obtain ⟨k, cs, hk, rfl, hcl, hzz, hrow, hin, hpw, hbel⟩ := hrel
    have HPW := Lib.hid hpw
    have HB := Lib.hid hbel
    have HROW := Lib.hid hrow
    have HIN := Lib.hid hin
    have HZZ := Lib.hid hzz
    have HCL := Lib.hid hcl
    by_cases hlt : k < bs.length
    · have hbb := HB0.out.below hbel
      rcases hbb.outer with h0 | ⟨b, off, rfl, hb2, hc⟩
      · have := blks_length bs; rw [h0] at this; simp at this; omega
      have c0 := hc _ _ (blks_get hlt)
      have hrd := hbb.inner _ (List.getElem_mem hlt)
      have HC := Lib.hid (toBlock_any bs[k].ad bs[k].cap bs[k].zs wr (HZ.out _ (List.getElem_mem hlt)) hrd)
      have HTK := Lib.hid (show zssB (bs.take (k + 1)) = zssB (bs.take k) ++ [bs[k].zs] by rw [List.take_succ_eq_append_getElem hlt, zssB_snoc])
      have hgt := Lib.hid (show (blks cs ++ List.replicate (bs.length - k) (Value.slice none 0 0))[k]? = some (.slice none 0 0) by
        rw [List.getElem?_append_right (by rw [blks_length, hcl]; omega), blks_length, hcl, Nat.sub_self, List.getElem?_replicate, if_pos (by omega)])
      clear hbb hc hbel hrow hin hzz hrd hcl hpw
      go_wp2_with fail
      refine HC.out.mono ?_
      rintro e w1 ⟨g, rfl, hg, hnew, hb⟩
      have HB1 := Lib.hid (HB.out.trans (hb.mono HB.out.size))
      have HR1 := Lib.hid (HROW.out.below hb)
      have s0 := HR1.out.cell hgt.out
      have f0 := HR1.out.free k
      have HI1 := Lib.hid (fun c (hc : c ∈ cs) => (⟨(HIN.out c hc).1, (HIN.out c hc).2.1, (HIN.out c hc).2.2.1.below hb, (HIN.out c hc).2.2.2⟩ : c.ad = some ⟨bn c, 0, none⟩ ∧ w.heap.size < bn c ∧ RowIs w1 (bn c) 9 (strs c.zs) ∧ c.zs.length ≤ maxLen ∧ c.cap = c.zs.length))
      have HGT := Lib.hid (fun c (hc : c ∈ cs) => (show bn c < g by have := (HIN.out c hc).2.2.1.lt; omega))
      have hlt2 : w.heap.size < wr.heap.size := HROW.out.lt
      have HNEW := Lib.hid hnew
      have HGG : Hid (w.heap.size < g) := Lib.hid (by omega)
      clear hb c0 hnew
      go_wp2_with fail
      go_roundw
      case rel =>
        refine ⟨k + 1, cs ++ [⟨some ⟨g, 0, none⟩, bs[k].zs.length, bs[k].zs⟩], by omega, by go_num, by simp [HCL.out], by rw [zssB_snoc, HTK.out, HZZ.out], ?_, ?_, ?_, HB1.out.setCell (Nat.le_refl _) _⟩
        · have h := HR1.out.set k (.slice (some ⟨g, 0, none⟩) bs[k].zs.length bs[k].zs.length)
          rw [row_put (by rw [blks_length, HCL.out]) hlt] at h
          rw [blks_snoc]
          exact h
        · intro c hc
          rcases List.mem_append.1 hc with hc | hc
          · obtain ⟨h1, h2, h3, h4⟩ := HI1.out c hc
            exact ⟨h1, h2, h3.far (by dsimp only; omega) _, h4⟩
          · obtain rfl := List.mem_singleton.1 hc
            exact ⟨rfl, HGG.out, HNEW.out.far (by have := HGG.out; dsimp only [bn]; omega) _, by have := HZ.out _ (List.getElem_mem hlt); unfold maxLen; dsimp only; omega, rfl⟩
        · rw [List.pairwise_append]
          exact ⟨HPW.out, List.pairwise_singleton _ _, fun c hc d hd => by
            obtain rfl := List.mem_singleton.1 hd
            exact HGT.out c hc⟩
      case measure => simp [intOf]; omega
    · obtain rfl : k = bs.length := by omega
      have HFIN : Hid (BlksAt wr (some ⟨w.heap.size, 0, none⟩) cs) := Lib.hid ⟨by have := HROW.out; rw [Nat.sub_self, List.replicate_zero, List.append_nil] at this; exact this.reads, fun c hc => by rw [(HIN.out c hc).1]; exact (HIN.out c hc).2.2.1.reads⟩
      have HOB : Hid (OwnB wr w.heap.size wr.heap.size (some ⟨w.heap.size, 0, none⟩) cs) := Lib.hid (ownB_of HFIN.out.outer (fun c hc => HIN.out c hc) HPW.out)
      have HZF : Hid (zssB cs = zssB bs) := Lib.hid (by rw [HZZ.out, List.take_length])
      clear hbel hrow hin hzz hcl hpw
      go_wp2_with fail
      go_ret
      exact ⟨_, cs, rfl, HZF.out, HFIN.out, HOB.out, HB.out⟩
end Go.Proofs.Ytenedmkjbmbapaa
