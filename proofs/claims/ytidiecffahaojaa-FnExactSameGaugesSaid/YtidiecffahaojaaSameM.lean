/- Rows of rows of the call's own: one more row, one more number in a row; the closure of SameGauges, and slices.IndexFunc over it. -/
import Derived.Test.YtidiecffahaojaaSameP
import Derived.Test.YtidiecffahaojaaIntSS
import Derived.Deep.AppendLies
namespace Go.Proofs.Ytidiecffahaojaa
open Go.RowKit

theorem info_slice : (Try.prog.info? 36).map (fun i => (i.zero, i.size, i.bytes)) = some (some (.slice none 0 0), 1, 24) := by kernel_rfl
theorem split_of {w : World} {b1 b2 n1 n2 : Nat} {e1 e2 : TypeId} {v u : Value} {xs ys : List Value} (h : w.ownsRow b1 e1 1 v n1 xs) (k : w.ownsRow b2 e2 1 u n2 ys) (hne : e1 ≠ e2) : ∀ q, u.ownBlock = some q → v.ownBlock ≠ some q := by
  intro q hq hv
  rcases h.2 with ⟨rfl, _⟩ | ⟨g, c, cur, rfl, _, hh, _⟩
  · simp [Value.ownBlock] at hv
  · rcases k.2 with ⟨rfl, _⟩ | ⟨g', c', cur', rfl, _, hh', _⟩
    · simp [Value.ownBlock] at hq
    · simp [Value.ownBlock] at hv hq
      subst hv; subst hq
      rw [hh] at hh'
      injection hh' with hh'
      injection hh' with _ ht
      exact hne ht
theorem own_base {w : World} {b b' n : Nat} {e : TypeId} {v : Value} {xs : List Value} (h : w.ownsRow b e 1 v n xs) (hb : b' ≤ b) : w.ownsRow b' e 1 v n xs := by
  rcases h with ⟨hl, h0 | ⟨g, c, cur, e1, e2, e3⟩⟩
  · exact ⟨hl, .inl h0⟩
  · exact ⟨hl, .inr ⟨g, c, cur, e1, Nat.le_trans hb e2, e3⟩⟩
/-- one more row at the end -/
theorem Own2.snoc {w w' : World} {base B n cp : Nat} {ad : Option Addr} {v v' : Value} {rs : List Row2} {zs : List Int} (h : Own2 w base v rs) (hB : ∀ q, v.ownBlock = some q → q < B) (hR : ∀ k (hk : k < rs.length) q, rs[k].val.ownBlock = some q → q < B) (hn : n = rs.length + 1)
    (hrow : w.ownsRow B 3 1 (.slice ad zs.length cp) zs.length (ints zs)) (hbB : base ≤ B) (hg : w.grownBy w' v.ownBlock) (hout : w'.ownsRow base 36 1 v' n (rows2 rs ++ [.slice ad zs.length cp])) :
    Own2 w' base v' (rs ++ [⟨ad, cp, zs⟩]) := by
  subst hn
  have hout2 : w'.ownsRow base 36 1 v' (rs ++ [(⟨ad, cp, zs⟩ : Row2)]).length (rows2 (rs ++ [(⟨ad, cp, zs⟩ : Row2)])) := by
    simpa [rows2] using hout
  have hrow2 : w'.ownsRow B 3 1 (.slice ad zs.length cp) zs.length (ints zs) := own_kept hrow hg (fun q hq e => by
    have h1 := (hrow.lt q hq).1
    have h2 := hB q e
    omega)
  have hin : ∀ k (hk : k < (rs ++ [(⟨ad, cp, zs⟩ : Row2)]).length), w'.ownsRow base 3 1 (rs ++ [(⟨ad, cp, zs⟩ : Row2)])[k].val (rs ++ [(⟨ad, cp, zs⟩ : Row2)])[k].zs.length (ints (rs ++ [(⟨ad, cp, zs⟩ : Row2)])[k].zs) := by
    intro k hk
    by_cases hlt : k < rs.length
    · rw [List.getElem_append_left hlt]
      exact own_kept (h.inner k hlt) hg (fun q hq e => h.split k hlt q hq e)
    · have hk2 : k = rs.length := by simp at hk; omega
      subst hk2
      simp only [List.getElem_append_right (Nat.le_refl _), Nat.sub_self, List.getElem_cons_zero]
      exact own_base hrow2 hbB
  refine ⟨hout2, hin, ?_, fun k hk q hq => split_of hout2 (hin k hk) (by decide) q hq⟩
  intro i j hi hj hne q hq hq2
  have last : ∀ k (hk : k < (rs ++ [(⟨ad, cp, zs⟩ : Row2)]).length), ¬ k < rs.length → ∀ q, (rs ++ [(⟨ad, cp, zs⟩ : Row2)])[k].val.ownBlock = some q → B ≤ q := by
    intro k hk hnl q hq
    have hk2 : k = rs.length := by simp at hk; omega
    subst hk2
    simp only [List.getElem_append_right (Nat.le_refl _), Nat.sub_self, List.getElem_cons_zero] at hq
    exact (hrow.lt q hq).1
  by_cases h1 : i < rs.length
  · by_cases h2 : j < rs.length
    · rw [List.getElem_append_left h1] at hq
      rw [List.getElem_append_left h2] at hq2
      exact h.apart i j h1 h2 hne q hq hq2
    · rw [List.getElem_append_left h1] at hq
      have := hR i h1 q hq
      have := last j hj h2 q hq2
      omega
  · by_cases h2 : j < rs.length
    · rw [List.getElem_append_left h2] at hq2
      have := hR j h2 q hq2
      have := last i hi h1 q hq
      omega
    · simp at hi hj; omega
theorem Own2.nil {w : World} {base : Nat} {v : Value} (h : w.ownsRow base 36 1 v 0 []) : Own2 w base v [] := ⟨h, fun _ hk => absurd hk (Nat.not_lt_zero _), fun _ _ hi => absurd hi (Nat.not_lt_zero _), fun _ hk => absurd hk (Nat.not_lt_zero _)⟩


/-- one more number at the end of row k, the row stored back -/
theorem Own2.upd {w w1 : World} {base k g c og oc n : Nat} {rs : List Row2} {x : Int} {row : Option Nat} (h : Own2 w base (.slice (some ⟨og, 0, none⟩) rs.length oc) rs) (hk : k < rs.length) (hn : n = rs[k].zs.length + 1)
    (hown : w1.ownsRow base 3 1 (.slice (some ⟨g, 0, none⟩) n c) n (ints rs[k].zs ++ [.int .i64 x])) (hg : w.grownBy w1 row) (hrow : row = rs[k].val.ownBlock) (hat : rs[k].val.ownBlock = some g ∨ w.heap.size ≤ g) :
    Own2 (w1.setCell ⟨og, k, none⟩ (.slice (some ⟨g, 0, none⟩) n c)) base (.slice (some ⟨og, 0, none⟩) (rs.set k ⟨some ⟨g, 0, none⟩, c, rs[k].zs ++ [x]⟩).length oc) (rs.set k ⟨some ⟨g, 0, none⟩, c, rs[k].zs ++ [x]⟩) := by
  subst hn; subst hrow
  have hL : (rs.set k ⟨some ⟨g, 0, none⟩, c, rs[k].zs ++ [x]⟩).length = rs.length := List.length_set
  have o1 : w1.ownsRow base 36 1 (.slice (some ⟨og, 0, none⟩) rs.length oc) rs.length (rows2 rs) := own_kept h.outer hg (fun q hq e => h.split k hk q e hq)
  have o2 := (o1.stored k (.slice (some ⟨g, 0, none⟩) (rs[k].zs.length + 1) c)).1
  have hrows : rows2 (rs.set k ⟨some ⟨g, 0, none⟩, c, rs[k].zs ++ [x]⟩) = (rows2 rs).set k (.slice (some ⟨g, 0, none⟩) (rs[k].zs.length + 1) c) := by
    simp [rows2, Row2.val, List.map_set]
  have hgk := grownBy_setCell w1 ⟨og, k, none⟩ (.slice (some ⟨g, 0, none⟩) (rs[k].zs.length + 1) c)
  have hat2 : ∀ i (hi : i < (rs.set k ⟨some ⟨g, 0, none⟩, c, rs[k].zs ++ [x]⟩).length), i ≠ k → (rs.set k ⟨some ⟨g, 0, none⟩, c, rs[k].zs ++ [x]⟩)[i] = rs[i]'(by rw [hL] at hi; exact hi) := fun i hi hne => List.getElem_set_ne (fun e => hne e.symm) _
  have hatk : (rs.set k ⟨some ⟨g, 0, none⟩, c, rs[k].zs ++ [x]⟩)[k]'(by rw [hL]; exact hk) = ⟨some ⟨g, 0, none⟩, c, rs[k].zs ++ [x]⟩ := List.getElem_set_self _
  have ne1 : ∀ {n' : Nat} {u : Value} {xs : List Value}, w1.ownsRow base 3 1 u n' xs → ∀ q, u.ownBlock = some q → (some og : Option Nat) ≠ some q := fun hu q hq e => by
    injection e with e; subst e
    exact split_of o1 hu (by decide) _ hq rfl
  have hin : ∀ i (hi : i < (rs.set k ⟨some ⟨g, 0, none⟩, c, rs[k].zs ++ [x]⟩).length), (w1.setCell ⟨og, k, none⟩ (.slice (some ⟨g, 0, none⟩) (rs[k].zs.length + 1) c)).ownsRow base 3 1 (rs.set k ⟨some ⟨g, 0, none⟩, c, rs[k].zs ++ [x]⟩)[i].val (rs.set k ⟨some ⟨g, 0, none⟩, c, rs[k].zs ++ [x]⟩)[i].zs.length (ints (rs.set k ⟨some ⟨g, 0, none⟩, c, rs[k].zs ++ [x]⟩)[i].zs) := by
    intro i hi
    by_cases e : i = k
    · subst e
      rw [hatk]
      have : w1.ownsRow base 3 1 (.slice (some ⟨g, 0, none⟩) (rs[i].zs ++ [x]).length c) (rs[i].zs ++ [x]).length (ints (rs[i].zs ++ [x])) := by simpa [ints] using hown
      exact own_kept this hgk (ne1 this)
    · rw [hat2 i hi e]
      have hi0 : i < rs.length := by rw [hL] at hi; exact hi
      have := own_kept (h.inner i hi0) hg (fun q hq e2 => h.apart i k hi0 hk e q hq e2)
      exact own_kept this hgk (ne1 this)
  have hout : (w1.setCell ⟨og, k, none⟩ (.slice (some ⟨g, 0, none⟩) (rs[k].zs.length + 1) c)).ownsRow base 36 1 (.slice (some ⟨og, 0, none⟩) (rs.set k ⟨some ⟨g, 0, none⟩, c, rs[k].zs ++ [x]⟩).length oc) (rs.set k ⟨some ⟨g, 0, none⟩, c, rs[k].zs ++ [x]⟩).length (rows2 (rs.set k ⟨some ⟨g, 0, none⟩, c, rs[k].zs ++ [x]⟩)) := by
    rw [hrows, hL]; exact o2
  have hnew : ∀ i (hi : i < rs.length), i ≠ k → rs[i].val.ownBlock ≠ some g := fun i hi hne e => by
    rcases hat with h1 | h1
    · exact h.apart i k hi hk hne g e h1
    · have := ((h.inner i hi).lt g e).2; omega
  refine ⟨hout, hin, fun i j hi hj hne q hq hq2 => ?_, fun i hi q hq => split_of hout (hin i hi) (by decide) q hq⟩
  have hi0 : i < rs.length := by rw [hL] at hi; exact hi
  have hj0 : j < rs.length := by rw [hL] at hj; exact hj
  by_cases e1 : i = k
  · subst e1
    rw [hatk] at hq
    rw [hat2 j hj (fun e => hne e.symm)] at hq2
    have : g = q := by simpa [Value.ownBlock] using hq
    subst this
    exact hnew j hj0 (fun e => hne e.symm) hq2
  · rw [hat2 i hi e1] at hq
    by_cases e2 : j = k
    · subst e2
      rw [hatk] at hq2
      have : g = q := by simpa [Value.ownBlock] using hq2
      subst this
      exact hnew i hi0 e1 hq
    · rw [hat2 j hj e2] at hq2
      exact h.apart i j hi0 hj0 hne q hq hq2
theorem sameClo_any (c x : CombT) (g : Nat) (w : World) (hx : RowIs w g 53 x.cells) :
    Calls Try.prog 33 #[c.val, .pointer (some ⟨g, 0, none⟩)] w fun e w' => e = .returned (.bool (sameB x c)) ∧ Below w.heap.size w w' := by
  have c1 := hx.cell (j := 1) rfl
  have c2 := hx.cell (j := 2) rfl
  have d1 := (hx.alloc (.cells #[.int .i64 c.id, .int .i64 c.wide, .int .i64 c.high, .bool c.line] 53)).cell (j := 1) rfl
  have d2 := (hx.alloc (.cells #[.int .i64 c.id, .int .i64 c.wide, .int .i64 c.high, .bool c.line] 53)).cell (j := 2) rfl
  unfold sameB
  cases e1 : (x.wide == c.wide) <;> cases e2 : (x.high == c.high)
  all_goals
    clear hx
    go_enter Try.func33, Try.ntmps33
    go_wp2_with fail
    go_ret
    exact ⟨rfl, Go.Joins.below_alloc1 _ _⟩
set_option maxHeartbeats 1000000 in
theorem indexFunc_any (a : Option Addr) (cap : Nat) (zs : List CombT) (x : CombT) (g : Nat) (w : World) (hm : zs.length ≤ maxLen) (hr : Reads w a (combs zs)) (hx : RowIs w g 53 x.cells) :
    Calls Try.prog 32 #[.slice a zs.length cap, .func (.func 33) #[] #[.pointer (some ⟨g, 0, none⟩)]] w fun e w' => e = .returned (.int .i64 (idxF x zs)) ∧ Below w.heap.size w w' := by
  unfold maxLen at hm
  have HR := Lib.hid hr
  have HX := Lib.hid hx
  clear hr hx
  go_enter Try.func32, Try.ntmps32
  go_wp2_with fail
  go_loopw [8] (fun i wr => ∃ k : Nat, k ≤ zs.length ∧ i = .int .i64 k ∧ Hid (∀ j (hj : j < k) (hj2 : j < zs.length), sameB x zs[j] = false) ∧ Below w.heap.size w wr) (fun i _ => zs.length - (intOf i).toNat)
  case atStart => exact ⟨0, Nat.zero_le _, rfl, Lib.hid (fun j hj => by omega), Below.refl _ _⟩
  case round =>
    obtain ⟨k, hk, rfl, hno, hbel⟩ := hrel
    by_cases hlt : k < zs.length
    · rcases HR.out.below hbel with h0 | ⟨b, off, rfl, hb2, hc⟩
      · have := combs_length zs; rw [h0] at this; simp at this; omega
      obtain ⟨g0, g1, g2, g3⟩ := combs_get hlt
      have hc0 := hc _ _ g0
      have hc1 := hc _ _ g1
      have hc2 := hc _ _ g2
      have hc3 := hc _ _ g3
      simp only [← Nat.add_assoc] at hc1 hc2 hc3
      have HB := Lib.hid hbel
      have HC := Lib.hid (sameClo_any zs[k] x g wr (HX.out.below hbel))
      clear hc g0 g1 g2 g3 hbel
      cases hs : sameB x zs[k]
      all_goals
        have hC := HC.out
        rw [hs] at hC
        have HC2 := Lib.hid hC
        have HS := Lib.hid hs
        clear hC HC hs
      · go_wp2_with fail
        refine HC2.out.mono ?_
        rintro e w1 ⟨rfl, hb⟩
        have HB1 := Lib.hid (HB.out.trans (hb.mono HB.out.size))
        clear hb hc0 hc1 hc2 hc3
        go_wp2_with fail
        go_roundw
        case rel => exact ⟨k + 1, by omega, by go_num, Lib.hid (fun j hj hj2 => by
          by_cases e : j = k
          · subst e; exact HS.out
          · exact hno.out j (by omega) hj2), HB1.out⟩
        case measure => simp [intOf]; omega
      · go_wp2_with fail
        refine HC2.out.mono ?_
        rintro e w1 ⟨rfl, hb⟩
        have HB1 := Lib.hid (HB.out.trans (hb.mono HB.out.size))
        clear hb hc0 hc1 hc2 hc3
        go_wp2_with fail
        go_ret
        exact ⟨ret_int (idxF_at hlt (fun j hj => hno.out j hj (by omega)) HS.out).symm, HB1.out⟩
    · obtain rfl : k = zs.length := by omega
      go_wp2_with fail
      go_ret
      exact ⟨ret_int (idxF_none (any_no (fun j hj => hno.out j hj hj))).symm, hbel⟩
end Go.Proofs.Ytidiecffahaojaa
