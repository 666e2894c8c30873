/- All places at which a block fits: the program's side. -/
import Derived.Test.YtenedmkjbmbapaaPlaceS
import Derived.Test.YtenedmkjbmbapaaLayI
import Derived.Deep.LoopGhost
import Derived.Lib.OthersKept
namespace Go.Proofs.Ytenedmkjbmbapaa
open Go.RowKit

theorem own_iterAt' {w : World} {B e size n : Nat} {v : Value} {xs : List Value} {k : Nat} {s : ByteArray} {pos : Nat} (h : w.ownsRow B e size v n xs) (hk : w.heap[k]? = some (.stringIter s pos)) (pos' : Nat) : (w.iterAt k s pos').ownsRow B e size v n xs := by
  refine ⟨h.1, ?_⟩
  rcases h.2 with h0 | ⟨g, cap, cur, hv, hb, hg, rest⟩
  · exact .inl h0
  · refine .inr ⟨g, cap, cur, hv, hb, ?_, rest⟩
    rw [Lib.iterAt_other _ _ _ _ _ (fun e => by subst e; rw [hk] at hg; cases hg)]
    exact hg
theorem own_ne_iter' {w : World} {B e size n : Nat} {v : Value} {xs : List Value} {k : Nat} {s : ByteArray} {pos : Nat} (h : w.ownsRow B e size v n xs) (hk : w.heap[k]? = some (.stringIter s pos)) : some k ≠ v.ownBlock := by
  rcases h.2 with ⟨rfl, _⟩ | ⟨g, cap, cur, rfl, hb, hg, rest⟩
  · simp [Value.ownBlock]
  · intro e
    simp only [Value.ownBlock, Option.some.injEq] at e
    subst e
    rw [hk] at hg
    cases hg
theorem RowIs.iterAt {w : World} {g k : Nat} {e : TypeId} {xs : List Value} {s : ByteArray} {pos : Nat} (h : RowIs w g e xs) (hk : w.heap[k]? = some (.stringIter s pos)) (pos' : Nat) : RowIs (w.iterAt k s pos') g e xs := by
  unfold RowIs at *
  rw [Lib.iterAt_other _ _ _ _ _ (fun e => by subst e; rw [hk] at h; cases h)]
  exact h
theorem grid_ascii {zs : List ByteArray} {most i : Nat} (h : gridB zs most = true) (hi : i < zs.length) (s : ByteArray) (hs : rowAt zs i = s) : ∀ k (hk : k < s.size), (s[k]).toNat < 128 := by
  subst hs
  intro k hk
  simp only [gridB, Bool.and_eq_true, allB_true, rowOk] at h
  have := (h.2 i hi).2 k hk
  rw [chAt_of hk] at this
  simp only [chOk, Bool.or_eq_true, Bool.and_eq_true, decide_eq_true_eq] at this
  omega
set_option maxRecDepth 100000 in
set_option maxHeartbeats 8000000 in
theorem placesFor_any (a b : Option Addr) (ca cb : Nat) (xs ys : List ByteArray) (w : World) (gx : gridB xs 5 = true) (gy : gridB ys 3 = true) (hx : Reads w a (strs xs)) (hy : Reads w b (strs ys)) :
    Calls Try.prog 72 #[.slice a xs.length ca, .agg #[.slice b ys.length cb]] w fun e w' => ∃ ad cp, e = .returned (.slice ad (plF xs ys).length cp) ∧
      w'.ownsRow w.heap.size 54 2 (.slice ad (plF xs ys).length cp) (plF xs ys).length (pairs (plF xs ys)) ∧ Below w.heap.size w w' := by
  obtain ⟨i0, hi, hz0, hz1, hz2⟩ := info_parts info_pair
  have B0 := Lib.hid (Go.Joins.below_alloc1 w (.cells #[.slice b ys.length cb] 45))
  have BX := Lib.hid (RowIs.new w 45 [.slice b ys.length cb])
  have HF := Lib.hid (fun w r c h1 h2 h3 h4 hx hy => layBlock_any a b ca cb xs ys r c w h1 h2 h3 h4 gx gy hx hy)
  have HX := Lib.hid hx
  have HY := Lib.hid hy
  obtain ⟨x1, x2, x3⟩ := gridB_bd gx
  have sx := x3 0 (by omega)
  obtain ⟨S0, q0⟩ : ∃ s, rowAt xs 0 = s := ⟨_, rfl⟩
  have hasc := grid_ascii gx (i := 0) (by omega) S0 q0
  rw [q0] at sx
  obtain ⟨_, sx1, sx2⟩ := sx
  have Q0 := Lib.hid q0
  have HAS := Lib.hid hasc
  have HLN := Lib.hid (fun r k (hk : k ≤ 5) (hr : r ≤ 5) => plTo_len (xs := xs) (ys := ys) (r := r) (k := k) (by rw [q0]; exact sx2) hk hr)
  have hxo := hx
  clear x3 gx gy hx hy hasc
  rcases hxo with h0 | ⟨bx, ox, rfl, hbx, hcx⟩
  · simp [strs] at h0; subst h0; simp at x1
  have hcell0 : w.cell? ⟨bx, ox, none⟩ = some (.string S0) := by
    have := hcx 0 _ (strs_get (show 0 < xs.length by omega))
    rw [← q0, rowAt_of (show 0 < xs.length by omega)]; simpa using this
  have HCE := Lib.hid hcell0
  clear hcx q0 hcell0
  go_enter Try.func72, Try.ntmps72
  go_wp2_with fail
  generalize hw0 : w.alloc (.cells #[.slice b ys.length cb] 45) = w0 at *
  go_loopw [5, 12] (fun v i wr => ∃ r : Nat, r ≤ xs.length ∧ i = .int .i64 r ∧ (∃ ad cp, v = .slice ad (plTo xs ys r 0).length cp) ∧ wr.ownsRow w.heap.size 54 2 v (plTo xs ys r 0).length (pairs (plTo xs ys r 0)) ∧
    RowIs wr w.heap.size 45 [.slice b ys.length cb] ∧ Below w.heap.size w wr) (fun _ i _ => xs.length - (intOf i).toNat)
  case atStart => exact ⟨0, Nat.zero_le _, rfl, ⟨_, _, by rw [plTo_zero]; rfl⟩, by rw [plTo_zero]; exact World.ownsRow_nil _ _ _ _, BX.out, B0.out⟩
  case round =>
    obtain ⟨r, hr, rfl, ⟨ad, cp, rfl⟩, hown, hbox, hbel⟩ := hrel
    have HO := Lib.hid hown
    have HBX := Lib.hid hbox
    have HBL := Lib.hid hbel
    clear hown hbox
    by_cases hrl : r < xs.length
    · have k0 := (hbel.cell (p := ⟨bx, ox, none⟩) hbx).trans HCE.out
      clear hbel
      go_wp2_with fail
      obtain ⟨wo, rfl⟩ : ∃ wo : World, wo = wr := ⟨_, rfl⟩
      clear k0
      have HWO := Lib.hid HBL.out.size
      go_loopg [5] S0.size (fun gf v wr => ∃ k : Nat, k + gf = S0.size ∧ (∃ ad cp, v = .slice ad (plTo xs ys r k).length cp) ∧ wr.ownsRow w.heap.size 54 2 v (plTo xs ys r k).length (pairs (plTo xs ys r k)) ∧
        RowIs wr w.heap.size 45 [.slice b ys.length cb] ∧ Below w.heap.size w wr ∧ wr.heap[wo.heap.size]? = some (.stringIter S0 k))
      case atStart => exact ⟨0, by omega, ⟨_, _, rfl⟩, HO.out.alloc _, HBX.out.alloc _, HBL.out.alloc HBL.out.size _, World.iter_heap wo S0 0⟩
      case round =>
        obtain ⟨k, hk, ⟨ad, cp, rfl⟩, hown, hbox, hbel, hit⟩ := hrel
        by_cases hkl : k < S0.size
        · obtain ⟨g', rfl⟩ : ∃ g', gk = g' + 1 := ⟨gk - 1, by omega⟩
          have hnx : ∀ ty, (Instr.next (.pointer (some ⟨wo.heap.size, 0, none⟩)) true ty).run Try.prog wr = _ := fun ty => Lib.run_next_ascii_at wr wo.heap.size S0 k ty hit hkl (HAS.out k hkl)
          have hit2 := Lib.iterAt_heap wr wo.heap.size S0 k (k + 1) hit
          have hbel2 := Lib.below_iterAt hbel (k := wo.heap.size) HWO.out S0 (k + 1)
          have hown2 := own_iterAt' hown hit (k + 1)
          have hbox2 := hbox.iterAt hit (k + 1)
          obtain ⟨W, hWd⟩ : ∃ W, wr.iterAt wo.heap.size S0 (k + 1) = W := ⟨_, rfl⟩
          rw [hWd] at hnx hit2 hbel2 hown2 hbox2
          have HIT := Lib.hid hit2
          have HO1 := Lib.hid hown2
          have HBX1 := Lib.hid hbox2
          have HBL1 := Lib.hid hbel2
          have cX := hbox2.cell (j := 0) rfl
          have hln := HLN.out r k (by omega) (by omega)
          have hY := fun h => plTo_yes (xs := xs) (ys := ys) (r := r) (k := k) h
          have hN := fun h => plTo_no (xs := xs) (ys := ys) (r := r) (k := k) h
          have hF := HF.out W (r : Int) (k : Int) (by omega) (by omega) (by omega) (by omega) (HX.out.below HBL1.out) (HY.out.below HBL1.out)
          clear hit hbel hown hbox hWd hit2 hbel2 hown2 hbox2
          cases hfit : fitsB xs ys (r : Int) (k : Int)
          · rw [hfit] at hF
            have HFF := Lib.hid hF
            have HS := Lib.hid (hN hfit)
            clear hF hfit hY hN
            go_wp2_with fail
            refine HFF.out.mono ?_
            rintro e w2 ⟨ad2, cp2, rfl, _, hb⟩
            have HO2 := Lib.hid (own_below HO1.out hb)
            have HX2 := Lib.hid (HBX1.out.below hb)
            have HB2 := Lib.hid (HBL1.out.trans (hb.mono HBL1.out.size))
            have HI2 := Lib.hid ((hb.block wo.heap.size ((Array.getElem?_eq_some_iff.1 HIT.out).1)).trans HIT.out)
            clear hb cX hnx
            go_wp2_with fail
            go_roundg g'
            case measure => omega
            case rel => exact ⟨k + 1, by omega, ⟨_, _, by rw [HS.out]⟩, by rw [HS.out]; exact HO2.out, HX2.out, HB2.out, HI2.out⟩
          · rw [hfit] at hF
            have HFF := Lib.hid hF
            have HS := Lib.hid (hY hfit)
            clear hF hfit hY hN
            go_wp2_with fail
            refine HFF.out.mono ?_
            rintro e w2 ⟨ad2, cp2, rfl, _, hb⟩
            have HO2 := Lib.hid (own_below HO1.out hb)
            have HX2 := Lib.hid (HBX1.out.below hb)
            have HB2 := Lib.hid (HBL1.out.trans (hb.mono HBL1.out.size))
            have HI2 := Lib.hid ((hb.block wo.heap.size ((Array.getElem?_eq_some_iff.1 HIT.out).1)).trans HIT.out)
            clear hb cX hnx
            go_wp2_with (at_builtin; go_must (refine wpList_append_own _ rfl _ _ 30 rfl w.heap.size 54 i0 _ 2 16 Try.underlying30 hi hz0 hz1 hz2 rfl (by decide) _ _ _ rfl (HO2.out.alloc _) ⟨w2.heap.size, 0, none⟩ 1 1 (pcells ((r : Int), (k : Int))) rfl rfl (World.news_of_block (cs := (pcells ((r : Int), (k : Int))).toArray) (t := 54) (fr := (0, 0)) (heap_alloc_new _ _)) (by simp [pcells, Value.oneCell']) (by unfold maxLen; omega) (by omega) (Nat.le_trans HB2.out.size (by simp)) ?_))
            intro v' w3 hown3 hgrow3 _
            obtain ⟨g3, c3, hv⟩ := Go.Joins.ownsRow_form hown3 (by omega)
            have hl1 : (plTo xs ys r (k + 1)).length = (plTo xs ys r k).length + 1 := by rw [HS.out]; simp
            have HO4 : Hid (w3.ownsRow w.heap.size 54 2 (.slice (some ⟨g3, 0, none⟩) ((plTo xs ys r k).length + 1) c3) (plTo xs ys r (k + 1)).length (pairs (plTo xs ys r (k + 1)))) := Lib.hid (by
              rw [hl1, HS.out, pairs_snoc]; rw [hv] at hown3; exact hown3)
            have HX4 := Lib.hid ((HX2.out.alloc _).grown hgrow3 (fun e => own_row_ne HO2.out HX2.out (by decide) e.symm))
            have HB4 := Lib.hid ((HB2.out.alloc HB2.out.size _).grown hgrow3 (Nat.le_trans HB2.out.size (by simp)) (fun q hq => (HO2.out.lt q hq).1))
            have HIL := (Array.getElem?_eq_some_iff.1 HI2.out).1
            have HI4 := Lib.hid ((hgrow3.block wo.heap.size (by simp; omega) (own_ne_iter' HO2.out HI2.out)).trans ((Below.heap_alloc _ _ _ HIL).trans HI2.out))
            have HL4 := Lib.hid hl1
            rw [hv]
            clear hown3 hgrow3 hv hl1 HIL
            go_wp2_with fail
            go_roundg g'
            case measure => omega
            case rel => exact ⟨k + 1, by omega, ⟨_, _, by rw [HL4.out]⟩, HO4.out, HX4.out, HB4.out, HI4.out⟩
        · have hk2 : k = S0.size := by omega
          have HS := Lib.hid (plTo_row xs ys r)
          rw [Q0.out, ← hk2] at HS
          have hnx : ∀ ty, (Instr.next (.pointer (some ⟨wo.heap.size, 0, none⟩)) true ty).run Try.prog wr = _ := fun ty => Lib.run_next_end_at wr wo.heap.size S0 k ty hit hkl
          have HO1 := Lib.hid hown
          have HBX1 := Lib.hid hbox
          have HBL1 := Lib.hid hbel
          clear hit hown hbox hbel
          go_wp2_with fail
          go_roundw
          case rel => exact ⟨r + 1, by omega, by go_num, ⟨_, _, by rw [← HS.out]⟩, by rw [← HS.out]; exact HO1.out, HBX1.out, HBL1.out⟩
          case measure => simp [intOf]; omega
    · obtain rfl : r = xs.length := by omega
      have HS := Lib.hid (plTo_all xs ys)
      go_wp2_with fail
      go_ret
      exact ⟨_, _, by rw [HS.out]; rfl, by have := HO.out; rw [HS.out] at this; exact this, HBL.out⟩
end Go.Proofs.Ytenedmkjbmbapaa
