/- Paper: the struct, its rows of cells, its conversion, comparison and marks. -/
import Derived.Test.YtolajlkijeaacaaMarkS
import Derived.Test.YtolajlkijeaacaaMarkT
import Derived.StillTailTactics
import Derived.ChangeArms
namespace Go.Proofs.Ytolajlkijeaacaa
open Go.RowKit

structure PaperT where
  id : Int
  thick : Int
  tint : Int
  mark : ByteArray
  laid : Bool
deriving DecidableEq
def PaperT.cells (c : PaperT) : List Value := [.int .i64 c.id, .int .i64 c.thick, .int .i64 c.tint, .string c.mark, .bool c.laid]
abbrev PaperT.val (c : PaperT) : Value := .agg #[.int .i64 c.id, .int .i64 c.thick, .int .i64 c.tint, .string c.mark, .bool c.laid]
def papers (zs : List PaperT) : List Value := zs.flatMap PaperT.cells
theorem papers_length (zs : List PaperT) : (papers zs).length = zs.length * 5 := by
  induction zs with
  | nil => rfl
  | cons z zs ih => rw [show papers (z :: zs) = z.cells ++ papers zs from rfl, List.length_append, ih, List.length_cons]; simp [PaperT.cells]; omega
theorem papers_get {zs : List PaperT} {k : Nat} (h : k < zs.length) : (papers zs)[k * 5]? = some (.int .i64 zs[k].id) ∧ (papers zs)[k * 5 + 1]? = some (.int .i64 zs[k].thick) ∧ (papers zs)[k * 5 + 2]? = some (.int .i64 zs[k].tint) ∧ (papers zs)[k * 5 + 3]? = some (.string zs[k].mark) ∧ (papers zs)[k * 5 + 4]? = some (.bool zs[k].laid) := by
  induction zs generalizing k with
  | nil => simp at h
  | cons z zs ih =>
    cases k with
    | zero => simp [papers, PaperT.cells]
    | succ k =>
      have := ih (k := k) (by simpa using h)
      rw [show (k + 1) * 5 = k * 5 + 1 + 1 + 1 + 1 + 1 from by omega]
      simpa [papers, PaperT.cells] using this
theorem papers_set (zs : List PaperT) (k : Nat) (c : PaperT) (h : k < zs.length) : ((((((papers zs).set (k * 5) (.int .i64 c.id)).set (k * 5 + 1) (.int .i64 c.thick)).set (k * 5 + 2) (.int .i64 c.tint)).set (k * 5 + 3) (.string c.mark)).set (k * 5 + 4) (.bool c.laid)) = papers (zs.set k c) := by
  induction zs generalizing k with
  | nil => simp at h
  | cons z zs ih =>
    cases k with
    | zero => simp [papers, PaperT.cells]
    | succ k =>
      have := ih k (by simpa using h)
      rw [show (k + 1) * 5 = k * 5 + 1 + 1 + 1 + 1 + 1 from by omega]
      simpa [papers, PaperT.cells] using this
theorem info_paper : (Try.prog.info? 57).map (fun i => (i.zero, i.size, i.bytes)) = some (some (.agg #[.int .i64 0, .int .i64 0, .int .i64 0, .string .empty, .bool false]), 5, 48) := by kernel_rfl
def paper0 : PaperT := ⟨0, 0, 0, .empty, false⟩
theorem made_papers (n : Nat) : madeCells #[.int .i64 0, .int .i64 0, .int .i64 0, .string .empty, .bool false] (n * 5) = (papers (List.replicate n paper0)).toArray := by
  apply Array.ext'
  apply List.ext_getElem?
  intro j
  by_cases hj : j < n * 5
  · obtain ⟨q, r, hq, hr, rfl⟩ : ∃ q r, q < n ∧ r < 5 ∧ j = q * 5 + r := ⟨j / 5, j % 5, by omega, by omega, by omega⟩
    have hg := papers_get (zs := List.replicate n paper0) (k := q) (by simpa using hq)
    simp only [List.getElem_replicate] at hg
    have hm : (madeCells #[.int .i64 0, .int .i64 0, .int .i64 0, .string .empty, .bool false] (n * 5)).toList[q * 5 + r]? = (#[.int .i64 0, .int .i64 0, .int .i64 0, .string .empty, .bool false] : Array Value)[r]? := by
      simp [madeCells, hj, show (q * 5 + r) % 5 = r from by omega]
      match r, hr with
      | 0, _ => rfl
      | 1, _ => rfl
      | 2, _ => rfl
      | 3, _ => rfl
      | 4, _ => rfl
    rw [hm]
    match r, hr with
    | 0, _ => exact (hg.1).symm
    | 1, _ => exact (hg.2.1).symm
    | 2, _ => exact (hg.2.2.1).symm
    | 3, _ => exact (hg.2.2.2.1).symm
    | 4, _ => exact (hg.2.2.2.2).symm
  · have h1 := papers_length (List.replicate n paper0)
    simp at h1
    rw [List.getElem?_eq_none (by simp [madeCells]; omega), List.getElem?_eq_none (by simp [h1, paper0] at *; omega)]
/-- 'make([]impl.Paper, n)' -/
theorem make_papers (n : Nat) (hn : n ≤ 2097152) (u : World) : (Instr.makeSlice 37 (.int .i64 (n : Int)) (.int .i64 (n : Int))).run Try.prog u =
    .ok (.slice (some ⟨u.heap.size, 0, none⟩) n n) (u.alloc (.cells (papers (List.replicate n paper0)).toArray 57)) := by
  obtain ⟨i0, hi, hz0, hz1, hz2⟩ := info_parts info_paper
  have h := run_make (P := Try.prog) u 37 57 i0 _ Try.underlying37 hi hz0 .i64 .i64 (n : Int) (n : Int) (by omega) (Int.le_refl _) (by rw [hz2]; omega) (by omega)
  have e : ((n : Nat) : Int).toNat = n := by omega
  rw [e, hz1] at h
  rw [← made_papers]
  exact h
theorem RowIs.made' (w : World) (e : TypeId) (xs : List Value) : RowIs (w.alloc (.cells xs.toArray e)) w.heap.size e xs := by
  unfold RowIs
  rw [heap_alloc_new w (.cells xs.toArray e)]
theorem toPaper_any (c : PaperT) (w : World) : Calls Try.prog 32 #[c.val] w fun e w' => e = .returned c.val ∧ Below w.heap.size w w' := by
  go_enter Try.func32, Try.ntmps32
  go_wp2
  exact bodyPost_ret (v := c.val) (by simp [results, Try.results32, go_sem]) rfl ⟨rfl, Go.Joins.below_alloc3 _ _ _ _⟩

set_option maxHeartbeats 1000000 in
theorem toPaperS_any (a : Option Addr) (cap : Nat) (zs : List PaperT) (w : World) (hb : zs.length ≤ 2097152) (hr : Reads w a (papers zs)) :
    Calls Try.prog 18 #[.slice a zs.length cap] w fun e w' => ∃ g, e = .returned (.slice (some ⟨g, 0, none⟩) zs.length zs.length) ∧ w.heap.size ≤ g ∧ RowIs w' g 57 (papers zs) ∧ Below w.heap.size w w' := by
  have hmk := make_papers zs.length hb
  have HR := Lib.hid hr
  clear hr
  go_enter Try.func18, Try.ntmps18
  go_wp2
  go_loopw [4] (fun i wr => ∃ k : Nat, k ≤ zs.length ∧ i = .int .i64 k ∧ RowIs wr w.heap.size 57 (papers (fillTo zs paper0 k)) ∧ Below w.heap.size w wr) (fun i _ => zs.length - (intOf i).toNat)
  case atStart => exact ⟨0, Nat.zero_le _, rfl, by rw [fillTo_zero]; exact RowIs.made' _ _ _, Go.Joins.below_alloc1 _ _⟩
  case round =>
    obtain ⟨k, hk, rfl, hrow, hbel⟩ := hrel
    by_cases hlt : k < zs.length
    · rcases HR.out.below hbel with h0 | ⟨b, off, rfl, hb2, hc⟩
      · have := papers_length zs; rw [h0] at this; simp at this; omega
      obtain ⟨g0, g1, g2, g3, g4⟩ := papers_get hlt
      have hc0 := hc _ _ g0
      have hc1 := hc _ _ g1
      have hc2 := hc _ _ g2
      have hc3 := hc _ _ g3
      have hc4 := hc _ _ g4
      simp only [← Nat.add_assoc] at hc1 hc2 hc3 hc4
      clear hc g0 g1 g2 g3 g4
      have hkf : k < (fillTo zs paper0 k).length := by rw [fillTo_length _ _ _ (by omega)]; exact hlt
      obtain ⟨z0, z1, z2, z3, z4⟩ := papers_get hkf
      have HB := Lib.hid hbel
      have HROW := Lib.hid hrow
      clear hrow hbel
      go_wp2_with (go_at_call 32; refine (toPaper_any zs[k] _).mono ?_; rintro e w1 ⟨rfl, hb1⟩; have hrow1 := HROW.out.below hb1; have hbel1 := HB.out.trans (hb1.mono HB.out.size); have s0 := hrow1.cell z0; have s1 := hrow1.cell z1; have s2 := hrow1.cell z2; have s3 := hrow1.cell z3; have s4 := hrow1.cell z4; have f0 := hrow1.free (k * 5); have f1 := hrow1.free (k * 5 + 1); have f2 := hrow1.free (k * 5 + 2); have f3 := hrow1.free (k * 5 + 3); have f4 := hrow1.free (k * 5 + 4); have HR1 := Lib.hid hrow1; have HB1 := Lib.hid hbel1; have HS1 := Lib.hid hb1.size; clear hrow1 hbel1 hb1 z0 z1 z2 z3 z4)
      go_roundw
      case rel =>
        have hset := papers_set (fillTo zs paper0 k) k zs[k] hkf
        rw [fillTo_set _ _ _ _ (List.getElem?_eq_getElem hlt)] at hset
        exact ⟨k + 1, by omega, by go_num, by rw [← hset]; exact (((((HR1.out.set _ _).set _ _).set _ _).set _ _).set _ _), (((((HB1.out.setCell (by exact Nat.le_refl _) _).setCell (by exact Nat.le_refl _) _).setCell (by exact Nat.le_refl _) _).setCell (by exact Nat.le_refl _) _).setCell (by exact Nat.le_refl _) _)⟩
      case measure => simp [intOf]; omega
    · obtain rfl : k = zs.length := by omega
      rw [fillTo_all] at hrow
      go_wp2
      go_ret
      exact ⟨_, rfl, Nat.le_refl _, hrow, hbel⟩

theorem eqPaper_any (c d : PaperT) (w : World) : Calls Try.prog 36 #[c.val, d.val] w fun e w' => e = .returned (.bool (decide (c = d))) ∧ Below w.heap.size w w' := by
  have hcd : decide (c = d) = (decide (c.id = d.id) && decide (c.thick = d.thick) && decide (c.tint = d.tint) && decide (c.mark = d.mark) && decide (c.laid = d.laid)) := by
    cases c; cases d
    rw [Bool.eq_iff_iff]
    simp [and_assoc]
  rw [hcd]
  clear hcd
  have hs3 := str_beq_dec c.mark d.mark
  go_enter Try.func36, Try.ntmps36
  go_wp2
  all_goals go_ret
  all_goals refine ⟨ret_bool ?_, Go.Joins.below_alloc2 _ _ _⟩
  all_goals simp_all

set_option maxRecDepth 100000 in
set_option maxHeartbeats 1000000 in
theorem eqPaperS_any (a b : Option Addr) (ca cb : Nat) (xs ys : List PaperT) (w : World) (hm : xs.length ≤ maxLen) (hm2 : ys.length ≤ maxLen) (hx : Reads w a (papers xs)) (hy : Reads w b (papers ys)) :
    Calls Try.prog 21 #[.slice a xs.length ca, .slice b ys.length cb] w fun e w' => e = .returned (.bool (decide (xs = ys))) ∧ Below w.heap.size w w' := by
  unfold maxLen at hm hm2
  have HX := Lib.hid hx
  have HY := Lib.hid hy
  clear hx hy
  by_cases hlen : xs.length = ys.length
  · have hl2 : (((xs.length : Nat) : Int) != ((ys.length : Nat) : Int)) = false := by simp [hlen]
    have HL := Lib.hid hlen
    have hle : ys.length ≤ xs.length := by omega
    have hle2 : xs.length ≤ ys.length := by omega
    clear hlen
    go_enter Try.func21, Try.ntmps21
    go_wp2
    go_loopw [5] (fun i wr => ∃ k : Nat, k ≤ xs.length ∧ i = .int .i64 k ∧ Hid (xs.take k = ys.take k) ∧ Below w.heap.size w wr) (fun i _ => xs.length - (intOf i).toNat)
    case atStart => exact ⟨0, Nat.zero_le _, rfl, by simp [Hid], Below.refl _ _⟩
    case round =>
      obtain ⟨k, hk, rfl, ht, hbel⟩ := hrel
      by_cases hlt : k < xs.length
      · have hlt2 : k < ys.length := by omega
        rcases HX.out.below hbel with h0 | ⟨b1, o1, rfl, hb1, hcx⟩
        · have := papers_length xs; rw [h0] at this; simp at this; omega
        rcases HY.out.below hbel with h0 | ⟨b2, o2, rfl, hb2, hcy⟩
        · have := papers_length ys; rw [h0] at this; simp at this; omega
        obtain ⟨g0, g1, g2, g3, g4⟩ := papers_get hlt
        obtain ⟨y0, y1, y2, y3, y4⟩ := papers_get hlt2
        have hc0 := hcx _ _ g0
        have hd0 := hcy _ _ y0
        have hc1 := hcx _ _ g1
        have hd1 := hcy _ _ y1
        have hc2 := hcx _ _ g2
        have hd2 := hcy _ _ y2
        have hc3 := hcx _ _ g3
        have hd3 := hcy _ _ y3
        have hc4 := hcx _ _ g4
        have hd4 := hcy _ _ y4
        simp only [← Nat.add_assoc] at hc1 hd1 hc2 hd2 hc3 hd3 hc4 hd4
        clear hcx hcy g0 y0 g1 y1 g2 y2 g3 y3 g4 y4
        have HB := Lib.hid hbel
        clear hbel
        by_cases he : xs[k] = ys[k]
        · have ht2 := Lib.hid (take_eq_succ ht.out hlt hlt2 he)
          have hb : decide (xs[k] = ys[k]) = true := by simp [he]
          have hC := fun w => eqPaper_any xs[k] ys[k] w
          rw [hb] at hC
          have HC := Lib.hid hC
          clear he hb hC
          go_wp2
          go_still_tail 8, (by kernel_rfl)
          change wpList _ _ _ _ _ wr.drew
          have HBD := Lib.hid (HB.out.drew)
          generalize wr.drew = w2 at *
          go_wp2_with (go_at_call 36; refine (HC.out _).mono ?_; rintro e w1 ⟨rfl, hb1⟩; have HB1 := Lib.hid (HBD.out.trans (hb1.mono HBD.out.size)); clear hb1)
          go_roundw
          case rel => exact ⟨k + 1, by omega, by go_num, ht2, HB1.out⟩
          case measure => simp [intOf]; omega
        · have hne := Lib.hid (show ¬ xs = ys from fun e => he (by subst e; rfl))
          have hb : decide (xs[k] = ys[k]) = false := by simp [he]
          have hC := fun w => eqPaper_any xs[k] ys[k] w
          rw [hb] at hC
          have HC := Lib.hid hC
          clear he hb hC
          go_wp2
          go_still_tail 8, (by kernel_rfl)
          change wpList _ _ _ _ _ wr.drew
          have HBD := Lib.hid (HB.out.drew)
          generalize wr.drew = w2 at *
          go_wp2_with (go_at_call 36; refine (HC.out _).mono ?_; rintro e w1 ⟨rfl, hb1⟩; have HB1 := Lib.hid (HBD.out.trans (hb1.mono HBD.out.size)); clear hb1)
          go_ret
          exact ⟨ret_bool (by simp [hne.out]), HB1.out⟩
      · have hk2 : k = xs.length := by omega
        have heq := Lib.hid (show xs = ys by
          have h1 := ht.out
          rw [hk2, List.take_length, HL.out, List.take_length] at h1; exact h1)
        clear hk2
        go_wp2
        go_ret
        exact ⟨ret_bool (by simp [heq.out]), hbel⟩
  · have hl2 : (((xs.length : Nat) : Int) != ((ys.length : Nat) : Int)) = true := by simp; omega
    have hne := Lib.hid (show ¬ xs = ys from fun e => hlen (by rw [e]))
    clear hlen
    go_enter Try.func21, Try.ntmps21
    go_wp2
    go_ret
    exact ⟨ret_bool (by simp [hne.out]), Below.refl _ _⟩

set_option maxRecDepth 100000 in
set_option maxHeartbeats 2000000 in
theorem markPaperS_any (a : Option Addr) (n cap base : Nat) (xs : List Value) (kk : Int) (k : Nat) (w : World) (hkk : kk = (k : Int)) (hk : 0 < k) (hk2 : k ≤ 274877906944) (hn : n ≤ 34359738368)
    (h : w.ownsRow base 57 5 (.slice a n cap) n xs) :
    Calls Try.prog 22 #[.slice a n cap, .int .i64 kk] w fun e w' => e = .returned (.int .i64 (kk + 5 * (n : Int))) ∧ w.grownBy w' (Value.slice a n cap).ownBlock := by
  subst hkk
  have H := Lib.hid h
  clear h
  go_enter Try.func22, Try.ntmps22
  go_wp2
  go_loopw [1, 5] (fun q i wr => ∃ j : Nat, j ≤ n ∧ i = .int .i64 j ∧ q = .int .i64 ((k : Int) + 5 * (j : Int)) ∧ (∃ ys, wr.ownsRow base 57 5 (.slice a n cap) n ys) ∧ w.grownBy wr (Value.slice a n cap).ownBlock) (fun _ i _ => n - (intOf i).toNat)
  case atStart => exact ⟨0, Nat.zero_le _, rfl, by go_num, ⟨_, H.out⟩, World.grownBy.refl _ _⟩
  case round =>
    obtain ⟨j, hj, rfl, rfl, ⟨ys, hown⟩, hgr⟩ := hrel
    by_cases hlt : j < n
    · obtain ⟨g, rfl, hb, hg⟩ := own_form hown (by omega)
      have hly : ys.length = n * 5 := hown.1
      obtain ⟨u0, hc0⟩ : ∃ u, wr.cell? ⟨g, j * 5, none⟩ = some u := ⟨_, (hown.cellAt _ (by omega)).trans (List.getElem?_eq_getElem (by omega))⟩
      obtain ⟨u1, hc1⟩ : ∃ u, wr.cell? ⟨g, j * 5 + 1, none⟩ = some u := ⟨_, (hown.cellAt _ (by omega)).trans (List.getElem?_eq_getElem (by omega))⟩
      obtain ⟨u2, hc2⟩ : ∃ u, wr.cell? ⟨g, j * 5 + 2, none⟩ = some u := ⟨_, (hown.cellAt _ (by omega)).trans (List.getElem?_eq_getElem (by omega))⟩
      have hf0 := hown.frozenAt (j * 5)
      have hf1 := hown.frozenAt (j * 5 + 1)
      have hf2 := hown.frozenAt (j * 5 + 2)
      have st0 := hown.stored (j * 5) (.int .i64 ((k : Int) + 5 * (j : Int)))
      have st1 := st0.1.stored (j * 5 + 1) (.int .i64 ((k : Int) + 5 * (j : Int) + 1))
      have st2 := st1.1.stored (j * 5 + 2) (.int .i64 ((k : Int) + 5 * (j : Int) + 1 + 1))
      have HO := Lib.hid st2.1
      have HG := Lib.hid (grownBy_trans hgr (grownBy_trans (grownBy_trans (st0.2) st1.2) st2.2))
      have HT := Lib.hid (fun w => markText_any (k + 5 * j + 3) w (by omega) (by omega))
      clear hown hgr st0 st1 st2
      go_wp2_with fail
      have eq1 : (k : Int) + 5 * (j : Int) + 1 + 1 + 1 = ((k + 5 * j + 3 : Nat) : Int) := by omega
      have EQ1 := Lib.hid eq1
      clear eq1
      rw [EQ1.out]
      refine (HT.out _).mono ?_
      rintro e w1 ⟨rfl, hb1⟩
      rw [← EQ1.out]
      have hown1 := own_below HO.out hb1
      have hgr1 := grownBy_trans HG.out (below_grown hb1 (Value.slice (some ⟨g, 0, none⟩) n cap).ownBlock)
      clear hb1
      obtain ⟨u3, hc3⟩ : ∃ u, w1.cell? ⟨g, j * 5 + 3, none⟩ = some u := ⟨_, (hown1.cellAt _ (by omega)).trans (List.getElem?_eq_getElem (by simp; omega))⟩
      obtain ⟨u4, hc4⟩ : ∃ u, w1.cell? ⟨g, j * 5 + 4, none⟩ = some u := ⟨_, (hown1.cellAt _ (by omega)).trans (List.getElem?_eq_getElem (by simp; omega))⟩
      have hf3 := hown1.frozenAt (j * 5 + 3)
      have hf4 := hown1.frozenAt (j * 5 + 4)
      have st3 := hown1.stored (j * 5 + 3) (.string (mkText (k + 5 * j + 3)))
      have st4 := st3.1.stored (j * 5 + 4) (.bool (((k : Int) + 5 * (j : Int) + 1 + 1 + 1 + 1) % 3 == 0))
      have hgr2 := Lib.hid (grownBy_trans hgr1 (grownBy_trans (st3.2) st4.2))
      have hown2 := Lib.hid st4.1
      clear hown1 hgr1 st3 st4 hly
      go_wp2_with fail
      go_roundw
      case rel => exact ⟨j + 1, by omega, by go_num, by go_num, ⟨_, hown2.out⟩, hgr2.out⟩
      case measure => simp [intOf]; omega
    · obtain rfl : j = n := by omega
      clear H
      go_wp2
      go_ret
      exact ⟨rfl, hgr⟩

end Go.Proofs.Ytolajlkijeaacaa
