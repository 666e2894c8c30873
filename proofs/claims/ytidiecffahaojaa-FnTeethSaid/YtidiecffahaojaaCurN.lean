/- DrawIsPair: a region that draws its order, with a draw and an append in it. -/
import Derived.Test.YtidiecffahaojaaCurM
import Derived.Deep.RegionHeld3
import Derived.Deep.AppendLies
namespace Go.Proofs.Ytidiecffahaojaa
open Go.RowKit

def PairIn (zs : List Int) : Prop := zs.length ≤ 42 ∧ ∀ z ∈ zs, -1000 ≤ z ∧ z ≤ 30000
theorem HolesIn.pair {zs : List Int} (h : HolesIn zs) : PairIn zs := ⟨h.1, fun z hz => by have := h.2 z hz; omega⟩
theorem PairIn.snoc {zs : List Int} {c : Int} (h : PairIn zs) (hl : zs.length ≤ 41) (h1 : -1000 ≤ c) (h2 : c ≤ 30000) : PairIn (zs ++ [c]) :=
  ⟨by rw [len_snocI]; omega, fun z hz => by
    rcases List.mem_append.1 hz with h3 | h3
    · exact h.2 z h3
    · rw [List.mem_singleton] at h3; rw [h3]; exact ⟨h1, h2⟩⟩
def PairD (w : World) (ad bd : Option Addr) (za zb : List Int) (w' : World) : Prop := PairIn za ∧ PairIn zb ∧ Reads w' ad (ints za) ∧ Reads w' bd (ints zb) ∧ Below w.heap.size w w'
theorem reads_far {w w' : World} {a : Option Addr} {xs : List Value} {g B : Nat} (h : Reads w a xs) (hg : w.grownBy w' (some g)) (hf : ∀ q, a = some q → B ≤ q.block) (hB : g < B) : Reads w' a xs :=
  h.grown hg (fun q hq e => by have := hf q hq; injection e with e; omega)
theorem LsI.far {w wr : World} {g n cp : Nat} {ad : Option Addr} {zs : List Int} (h : LsI w wr g n (.slice ad zs.length cp) zs) : ∀ q, ad = some q → w.heap.size ≤ q.block := fun q hq => by
  by_cases h0 : 0 < zs.length
  · obtain ⟨g1, rfl, hb, _⟩ := own_form h.own h0
    injection hq with hq; rw [← hq]; exact hb
  · rcases h.own.2 with ⟨h1, _⟩ | ⟨g1, c1, cur, e1, hb, _⟩
    · injection h1 with h1; rw [h1] at hq; injection hq
    · injection e1 with e1; rw [e1] at hq; injection hq with hq; rw [← hq]; exact hb
theorem cell_grown {w w' : World} {g b o : Nat} (hg : w.grownBy w' (some g)) (hb : b < w.heap.size) (hne : b ≠ g) : w'.cell? ⟨b, o, none⟩ = w.cell? ⟨b, o, none⟩ :=
  hg.cell_far ⟨b, o, none⟩ hb (fun e => hne (by injection e))
theorem int_in {z : Int} (h1 : -1000000 ≤ z) (h2 : z ≤ 1000000) : IntKind.i64.wrap z = z := IntWalk.i64_in _ (by omega)
set_option maxRecDepth 100000 in
set_option maxHeartbeats 4000000 in
theorem drawIsPair_any (a : Option Addr) (cap : Nat) (cs : List Int) (w : World) (hm : cs.length ≤ maxLen) (hr : Reads w a (bytesV cs)) (hz : ∀ z ∈ cs, 0 ≤ z ∧ z ≤ 255) :
    Calls Try.prog 21 #[.slice a cs.length cap] w fun e w' => ∃ (ad bd : Option Addr) (c1 c2 : Nat) (za zb : List Int) (o : Int), e = .returned (.tuple #[.slice ad za.length c1, .slice bd zb.length c2, .int .i64 o]) ∧ (-1 ≤ o ∧ o ≤ 51) ∧ PairD w ad bd za zb w' := by
  obtain ⟨i0, hi, hz0, hz1, hz2⟩ := info_parts info_int
  have HC := Lib.hid (cur_newT cap hm hr hz)
  have HP := Lib.hid (fun w g n m h hn h1 h2 => pick_any g n m w h hn h1 h2)
  have HB1 := Lib.hid (fun w g n m h hn h1 h2 => one_any g n m w h hn h1 h2)
  have HQ := Lib.hid (fun g n c a zs w h hn h1 h2 hr hne => among_any g n c a zs w h hn h1 h2 hr hne)
  have HS := Lib.hid (fun w g n h hn => holes5_any g n w h hn)
  have HA1 := Lib.hid (fun w g n h hn => among_lit g n [0, 7, 300] w h hn (by simp) (by simp) #[.int .i64 0, .int .i64 7, .int .i64 300] rfl 3 rfl)
  have HA2 := Lib.hid (fun w g n h hn => among_lit g n [0, 0, 0, 1, 9] w h hn (by simp) (by simp) #[.int .i64 0, .int .i64 0, .int .i64 0, .int .i64 1, .int .i64 9] rfl 5 rfl)
  have HB0 := Lib.hid (Go.Joins.below_alloc1 w (.cells #[.slice a cs.length cap, .int .i64 0, .int .u64 0] 64))
  have hs0 : (w.alloc (.cells #[.slice a cs.length cap, .int .i64 0, .int .u64 0] 64)).heap.size = w.heap.size + 1 := by simp
  clear hr hz
  go_enter Try.func21, Try.ntmps21
  go_wp2_with fail
  generalize w.alloc (.cells #[.slice a cs.length cap, .int .i64 0, .int .u64 0] 64) = w0 at *
  refine (HS.out _ _ 0 HC.out (by omega)).mono ?_
  rintro e w1 ⟨ad, c1, za, rfl, hia, hra, hfa, hc1, hg1⟩
  have HC1 := Lib.hid hc1
  have HG1 := Lib.hid hg1
  have HIA := Lib.hid hia
  have HRA := Lib.hid hra
  have HFA : Hid (∀ q, ad = some q → w.heap.size + 1 ≤ q.block) := Lib.hid (fun q hq => by have := hfa q hq; omega)
  clear hia hra hfa hc1 hg1
  go_wp2_with fail
  refine (HS.out _ _ _ HC1.out (by omega)).mono ?_
  rintro e w2 ⟨bd, c2, zb, rfl, hib, hrb, hfb, hc2, hg2⟩
  have HC2 := Lib.hid hc2
  have HG2 := Lib.hid (grownBy_trans HG1.out hg2)
  have HRA2 := Lib.hid (reads_far HRA.out hg2 HFA.out (by omega))
  have HIB := Lib.hid hib
  have HRB := Lib.hid hrb
  have HFB : Hid (∀ q, bd = some q → w.heap.size + 1 ≤ q.block) := Lib.hid (fun q hq => by have := hfb q hq; have := HG1.out.size; omega)
  clear hib hrb hfb hc2 hg2
  go_wp2_with fail
  refine (HB1.out _ _ _ 3 HC2.out (by omega) (by omega) (by omega)).mono ?_
  rintro e w3 ⟨b, rfl, hc3, hg3⟩
  have HC3 := Lib.hid hc3
  have HG3 := Lib.hid (grownBy_trans HG2.out hg3)
  have HRA3 := Lib.hid (reads_far HRA2.out hg3 HFA.out (by omega))
  have HRB3 := Lib.hid (reads_far HRB.out hg3 HFB.out (by omega))
  clear hc3 hg3 HC1 HC2 HG1 HG2 HRA HRA2 HRB
  cases b
  · go_wp2_with fail
    have HL0 := Lib.hid (LsI.fresh HC3.out (by have := HC3.out.lt; omega) (⟨rfl, rfl, rfl, Nat.le_refl _, fun _ _ _ => rfl⟩ : w3.grownBy w3 (some w.heap.size)))
    have hs3 : (w3.alloc (.cells #[] 3)).heap.size = w3.heap.size + 1 := by simp
    generalize hw4 : w3.alloc (.cells #[] 3) = w4 at *
    rw [← hs3]
    refine (HA1.out _ _ _ HL0.out.cur (by omega)).mono ?_
    rintro e w5 ⟨sh, rfl, hsh, hc5, hg5⟩
    have sh1 : 0 ≤ sh ∧ sh ≤ 300 := by simp at hsh; omega
    have HL1 := Lib.hid (HL0.out.step hc5 hg5)
    clear hsh hc5 hg5
    go_wp2_with fail
    go_loopw [7, 9] (fun v i wr => ∃ ys : List Int, ys.length ≤ za.length ∧ i = .int .i64 ys.length ∧ PairIn ys ∧ LsI w3 wr w.heap.size (404 + 2 * ys.length) v ys) (fun _ i _ => 42 - (intOf i).toNat)
    case atStart => exact ⟨[], by simp, rfl, ⟨by simp, by simp⟩, HL1.out.mono (by simp)⟩
    case round =>
      obtain ⟨ys, hyl, rfl, hyz, hls⟩ := hrel
      obtain ⟨yd, yc, rfl⟩ := hls.form
      have HM := Lib.hid hls
      have HY := Lib.hid hyz
      have ha42 := HIA.out.1
      clear hls hyz HL0 HL1
      by_cases hlt : ys.length < za.length
      · have hd2 : decide ((ys.length : Int) < (za.length : Int)) = true := by simpa using hlt
        have HRr := Lib.hid (reads_far HRA3.out HM.out.grown HFA.out (by omega))
        rcases HRr.out with h0 | ⟨ab, aoff, rfl, hab, hac⟩
        · simp [ints] at h0; subst h0; simp at hlt
        have hcell := hac _ _ (ints_get hlt)
        obtain ⟨z, hz⟩ : ∃ z, z = za[ys.length] := ⟨_, rfl⟩
        have hzb : -1000 ≤ z ∧ z ≤ 20000 := by rw [hz]; exact HIA.out.2 _ (List.getElem_mem hlt)
        rw [← hz] at hcell
        have i1 : (0 : Int) ≤ (ys.length : Int) := by omega
        have i2 : (ys.length : Int) < (za.length : Int) := by omega
        have hmx : (za.length : Int) ≤ 9223372036854775807 := by omega
        have hs1 : IntKind.i64.wrap (z + sh) = z + sh := int_in (by omega) (by omega)
        have HA3 : Hid (Calls Try.prog 49 #[.pointer (some ⟨w.heap.size, 0, none⟩), .slice (some ⟨wr.heap.size, 0, none⟩) 5 5] ((wr.alloc (.cells #[.int .i64 0, .int .i64 0, .int .i64 0, .int .i64 1, .int .i64 9] 3)).drew) (Drawn wr.drew w.heap.size (404 + 2 * ys.length + 2) (fun t => t ∈ [0, 0, 0, 1, 9]))) := Lib.hid (HA2.out wr.drew w.heap.size (404 + 2 * ys.length) (HM.out.cur.dr 1) (by omega))
        have HM2 : Hid (LsI w3 wr.drew w.heap.size (404 + 2 * ys.length) (.slice yd ys.length yc) ys) := Lib.hid (HM.out.step (HM.out.cur.dr 1) (below_grown' (Dr.below (Dr.of wr 1) _) _))
        have hlow2 : ab < w3.heap.size := by
          rcases HRA3.out with h0 | ⟨b2, o2, e2, hb2, _⟩
          · simp [ints] at h0; subst h0; simp at hlt
          · injection e2 with e2; injection e2 with e3; rw [e3]; exact hb2
        have hne2 : ab ≠ w.heap.size := by have := HFA.out _ rfl; simp at this; omega
        have HK : Hid (∀ w5, wr.drew.grownBy w5 (some w.heap.size) → w5.cell? ⟨ab, aoff + ys.length, none⟩ = some (.int .i64 z)) := Lib.hid (fun w5 hg => (cell_grown hg hab (by omega)).trans hcell)
        have HK9 : Hid (∀ (w5 w9 : World) (o : Obj), wr.drew.grownBy w5 (some w.heap.size) → (w5.alloc o).grownBy w9 (Value.slice yd ys.length yc).ownBlock → w9.cell? ⟨ab, aoff + ys.length, none⟩ = some (.int .i64 z)) := Lib.hid (fun w5 w9 o hg h9 => by
          have hz5 := hg.size
          have hz0 : wr.drew.heap.size = wr.heap.size := rfl
          have h1 : (w5.alloc o).cell? ⟨ab, aoff + ys.length, none⟩ = w5.cell? ⟨ab, aoff + ys.length, none⟩ := (Go.Joins.below_alloc1 w5 o).cell (p := ⟨ab, aoff + ys.length, none⟩) (by show ab < w5.heap.size; omega)
          exact (h9.cell_far ⟨ab, aoff + ys.length, none⟩ (show ab < (w5.alloc o).heap.size by simp; omega) (fun e => by have h7 : w3.heap.size ≤ ab := (HM.out.own.lt _ e.symm).1; omega)).trans (h1.trans (HK.out _ hg)))
        clear hac hz
        go_wp2_with fail
        go_region_held3 (fun w' => w'.cell? ⟨ab, aoff + ys.length, none⟩ = some (.int .i64 z)) (first | exact HK.out _ hg5 | exact HK9.out _ _ _ hg5 hgrow9 | go_keep | (have q := HK9.out _ _ _ hg5 hgrow9; trace_state; exact q))
          (first
            | (refine HA3.out.mono ?_; rintro e w5 ⟨y, rfl, hy, hc5, hg5⟩; have y1 : 0 ≤ y ∧ y ≤ 9 := (by simp at hy; omega); clear hy; have hs2 : IntKind.i64.wrap (z + sh + y) = z + sh + y := int_in (by omega) (by omega))
            | (refine step_append_lies _ (by rfl) _ _ _ (by rfl) w3.heap.size 3 i0 (.int .i64 0) 1 8 Try.underlying36 hi hz0 hz1 hz2 rfl (by decide) _ _ _ (by rfl) ((HM2.out.step hc5 hg5).own.alloc _) ⟨w5.heap.size, 0, none⟩ 1 1 [.int .i64 (z + sh + y)] (by rfl) (by rfl) (World.news_of_block (cs := #[.int .i64 (z + sh + y)]) (t := 3) (fr := (0, 0)) (heap_alloc_new _ _)) (by simp [Value.oneCell']) (by omega) (by show ys.length + 1 ≤ maxLen; unfold maxLen; omega) (show (ys.length + 1) * 8 ≤ 140737488355328 by omega) (Nat.le_trans (HM2.out.step hc5 hg5).grown.size (by simp)) (w5.heap.size + 1) (by simp) ?_; intro gg cap5 w9 hown9 hgrow9 hat9 hlt9))
        have HLa := (HM2.out.step hc5 hg5).app hown9 hgrow9
        have HZa := HY.out.snoc (c := z + sh + y) (by omega) (by omega) (by omega)
        have HL9 := Lib.hid HLa
        have HZ9 := Lib.hid HZa
        clear HLa HZa hown9 hgrow9 hat9 hc5 hg5 hs1 hs2
        go_wp2_with fail
        go_roundw
        case rel => exact ⟨ys ++ [z + sh + y], by rw [len_snocI]; omega, by rw [len_snocI]; go_num, HZ9.out, HL9.out.mono (by rw [len_snocI]; omega)⟩
        case measure => simp [intOf]; omega
      · have hd2 : decide ((ys.length : Int) < (za.length : Int)) = false := by simpa using hlt
        have HRr := Lib.hid (reads_far HRA3.out HM.out.grown HFA.out (by omega))
        have HRs := Lib.hid (own_reads HM.out.own)
        have HGs := Lib.hid (grownBy_trans HG3.out HM.out.grown)
        have HFY : Hid (∀ q, yd = some q → w.heap.size + 1 ≤ q.block) := Lib.hid (fun q hq => by
          have := HM.out.far q hq; have := HC3.out.lt; omega)
        go_wp2_with fail
        have HC6 := Lib.hid (HM.out.cur.alloc (.cells #[.int .i64 0, .int .i64 1, .int .i64 5, .int .i64 10, .int .i64 50, .int .i64 (-1), .int .i64 51] 3))
        have HG6 := Lib.hid (grown_alloc HGs.out (.cells #[.int .i64 0, .int .i64 1, .int .i64 5, .int .i64 10, .int .i64 50, .int .i64 (-1), .int .i64 51] 3))
        have HA6 := Lib.hid (HRr.out.below (Go.Joins.below_alloc1 wr (.cells #[.int .i64 0, .int .i64 1, .int .i64 5, .int .i64 10, .int .i64 50, .int .i64 (-1), .int .i64 51] 3)))
        have HB6 := Lib.hid (HRs.out.below (Go.Joins.below_alloc1 wr (.cells #[.int .i64 0, .int .i64 1, .int .i64 5, .int .i64 10, .int .i64 50, .int .i64 (-1), .int .i64 51] 3)))
        have HX6 : Hid (RowIs (wr.alloc (.cells #[.int .i64 0, .int .i64 1, .int .i64 5, .int .i64 10, .int .i64 50, .int .i64 (-1), .int .i64 51] 3)) wr.heap.size 3 (ints [0, 1, 5, 10, 50, -1, 51])) := Lib.hid (RowIs.new wr 3 (ints [0, 1, 5, 10, 50, -1, 51]))
        have hlow : w.heap.size < wr.heap.size := HM.out.cur.lt
        generalize wr.alloc (.cells #[.int .i64 0, .int .i64 1, .int .i64 5, .int .i64 10, .int .i64 50, .int .i64 (-1), .int .i64 51] 3) = w6 at *
        refine (HP.out _ _ _ 24 HC6.out (by omega) (by omega) (by omega)).mono ?_
        rintro e w7 ⟨p, rfl, ⟨p1, p2⟩, hc7, hg7⟩
        obtain ⟨q, hq, hq1⟩ : ∃ q : Nat, p.tdiv 11 = (q : Int) ∧ q ≤ 2 := ⟨(p / 11).toNat, by rw [Int.tdiv_eq_ediv_of_nonneg p1]; omega, by omega⟩
        have HC7 := Lib.hid hc7
        have HG7 := Lib.hid (grownBy_trans HG6.out hg7)
        have HA7 := Lib.hid (reads_far HA6.out hg7 HFA.out (by omega))
        have HB7 := Lib.hid (reads_far HB6.out hg7 HFY.out (by omega))
        have HX7 := Lib.hid (HX6.out.grown hg7 (by intro e; injection e with e; omega))
        clear hc7 hg7
        go_wp2_with fail
        have hlen : (([0, 1, 5, 10, 50, -1, 51] : List Int).take (5 + q)).length = 5 + q := by simp; omega
        have H := HQ.out w.heap.size _ 7 (some ⟨wr.heap.size, 0, none⟩) (([0, 1, 5, 10, 50, -1, 51] : List Int).take (5 + q)) w7 HC7.out (by omega) (by rw [hlen]; omega) (by rw [hlen]; omega) (reads_take HX7.out.reads _) (fun r hr => by injection hr with hr; rw [← hr]; show wr.heap.size ≠ w.heap.size; omega)
        rw [hlen] at H
        refine H.mono ?_
        rintro e w8 ⟨x, rfl, hx, hc8, hg8⟩
        have hx2 := List.mem_of_mem_take hx
        have x1 : -1 ≤ x ∧ x ≤ 51 := by simp at hx2; omega
        have HD := Lib.hid (show PairD w ad yd za ys w8 from ⟨HIA.out.pair, HY.out, reads_far HA7.out hg8 HFA.out (by omega), reads_far HB7.out hg8 HFY.out (by omega), cur_belowH HB0.out (grownBy_trans HG7.out hg8) (Nat.le_refl _)⟩)
        clear hx hx2 hc8 hg8 H hlen
        go_wp2_with fail
        go_ret3
        exact ⟨ad, yd, _, _, za, ys, x, rfl, x1, HD.out⟩
  · go_wp2_with fail
    have HC6 := Lib.hid (HC3.out.alloc (.cells #[.int .i64 0, .int .i64 1, .int .i64 5, .int .i64 10, .int .i64 50, .int .i64 (-1), .int .i64 51] 3))
    have HG6 := Lib.hid (grown_alloc HG3.out (.cells #[.int .i64 0, .int .i64 1, .int .i64 5, .int .i64 10, .int .i64 50, .int .i64 (-1), .int .i64 51] 3))
    have HA6 := Lib.hid (HRA3.out.below (Go.Joins.below_alloc1 w3 (.cells #[.int .i64 0, .int .i64 1, .int .i64 5, .int .i64 10, .int .i64 50, .int .i64 (-1), .int .i64 51] 3)))
    have HB6 := Lib.hid (HRB3.out.below (Go.Joins.below_alloc1 w3 (.cells #[.int .i64 0, .int .i64 1, .int .i64 5, .int .i64 10, .int .i64 50, .int .i64 (-1), .int .i64 51] 3)))
    have HX6 : Hid (RowIs (w3.alloc (.cells #[.int .i64 0, .int .i64 1, .int .i64 5, .int .i64 10, .int .i64 50, .int .i64 (-1), .int .i64 51] 3)) w3.heap.size 3 (ints [0, 1, 5, 10, 50, -1, 51])) := Lib.hid (RowIs.new w3 3 (ints [0, 1, 5, 10, 50, -1, 51]))
    have hlow : w.heap.size < w3.heap.size := HC3.out.lt
    generalize w3.alloc (.cells #[.int .i64 0, .int .i64 1, .int .i64 5, .int .i64 10, .int .i64 50, .int .i64 (-1), .int .i64 51] 3) = w6 at *
    refine (HP.out _ _ _ 24 HC6.out (by omega) (by omega) (by omega)).mono ?_
    rintro e w7 ⟨p, rfl, ⟨p1, p2⟩, hc7, hg7⟩
    obtain ⟨q, hq, hq1⟩ : ∃ q : Nat, p.tdiv 11 = (q : Int) ∧ q ≤ 2 := ⟨(p / 11).toNat, by rw [Int.tdiv_eq_ediv_of_nonneg p1]; omega, by omega⟩
    have HC7 := Lib.hid hc7
    have HG7 := Lib.hid (grownBy_trans HG6.out hg7)
    have HA7 := Lib.hid (reads_far HA6.out hg7 HFA.out (by omega))
    have HB7 := Lib.hid (reads_far HB6.out hg7 HFB.out (by omega))
    have HX7 := Lib.hid (HX6.out.grown hg7 (by intro e; injection e with e; omega))
    clear hc7 hg7
    go_wp2_with fail
    have hlen : (([0, 1, 5, 10, 50, -1, 51] : List Int).take (5 + q)).length = 5 + q := by simp; omega
    have H := HQ.out w.heap.size _ 7 (some ⟨w3.heap.size, 0, none⟩) (([0, 1, 5, 10, 50, -1, 51] : List Int).take (5 + q)) w7 HC7.out (by omega) (by rw [hlen]; omega) (by rw [hlen]; omega) (reads_take HX7.out.reads _) (fun r hr => by injection hr with hr; rw [← hr]; show w3.heap.size ≠ w.heap.size; omega)
    rw [hlen] at H
    refine H.mono ?_
    rintro e w8 ⟨x, rfl, hx, hc8, hg8⟩
    have hx2 := List.mem_of_mem_take hx
    have x1 : -1 ≤ x ∧ x ≤ 51 := by simp at hx2; omega
    have HD := Lib.hid (show PairD w ad bd za zb w8 from ⟨HIA.out.pair, HIB.out.pair, reads_far HA7.out hg8 HFA.out (by omega), reads_far HB7.out hg8 HFB.out (by omega), cur_belowH HB0.out (grownBy_trans HG7.out hg8) (Nat.le_refl _)⟩)
    clear hx hx2 hc8 hg8 H hlen
    go_wp2_with fail
    go_ret3
    exact ⟨ad, bd, _, _, za, zb, x, rfl, x1, HD.out⟩
end Go.Proofs.Ytidiecffahaojaa
