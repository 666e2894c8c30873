/- markIntS, heldIntS: a row of the call's own is written, and read again. -/
import Derived.Test.YtieopadbbciciaaIntS
namespace Go.Proofs.Ytieopadbbciciaa
open Go.RowKit

/-- the numbers from k on -/
def cnt (k : Int) (n : Nat) : List Int := (List.range n).map fun (i : Nat) => k + (i : Int)
theorem cnt_length (k : Int) (n : Nat) : (cnt k n).length = n := by simp [cnt]
theorem cnt_get {k : Int} {n i : Nat} (h : i < n) : (ints (cnt k n))[i]? = some (.int .i64 (k + (i : Int))) := by simp [ints, cnt, h]

theorem own_form {w : World} {base n cap sz : Nat} {e : TypeId} {a : Option Addr} {xs : List Value} (h : w.ownsRow base e sz (.slice a n cap) n xs) (hn : 0 < n) : ∃ g, a = some ⟨g, 0, none⟩ ∧ base ≤ g ∧ g < w.heap.size := by
  obtain ⟨g, c, hv⟩ := Go.Joins.ownsRow_form h hn
  simp only [Value.slice.injEq] at hv
  obtain ⟨rfl, _, rfl⟩ := hv
  have := h.lt g (by simp [Value.ownBlock])
  exact ⟨g, rfl, this.1, this.2⟩
theorem own_reads {w : World} {base n cap sz : Nat} {e : TypeId} {a : Option Addr} {xs : List Value} (h : w.ownsRow base e sz (.slice a n cap) n xs) : Reads w a xs := by
  by_cases hn : xs = []
  · exact .inl hn
  · have hl := h.1
    have h0 : 0 < n := by
      rcases Nat.eq_zero_or_pos n with h0 | h0
      · subst h0; simp at hl; exact absurd hl hn
      · exact h0
    obtain ⟨g, rfl, _, hg⟩ := own_form h h0
    refine .inr ⟨g, 0, rfl, hg, fun j u hu => ?_⟩
    rw [Nat.zero_add, h.cellAt j (by rw [← hl]; exact (List.getElem?_eq_some_iff.1 hu).1)]
    exact hu
theorem grownBy_trans {a b c : World} {row : Option Nat} (h : a.grownBy b row) (k : b.grownBy c row) : a.grownBy c row :=
  ⟨k.os.trans h.os, k.tape.trans h.tape, k.output.trans h.output, Nat.le_trans h.size k.size, fun i hi hne => (k.block i (Nat.lt_of_lt_of_le hi h.size) hne).trans (h.block i hi hne)⟩
/-- where a row may have been written, everything else stays -/
theorem grownBy_cell {a b : World} {row : Option Nat} (h : a.grownBy b row) {p : Addr} (hp : p.block < a.heap.size) (hne : some p.block ≠ row) : b.cell? p = a.cell? p := World.cell?_of_block (h.block p.block hp hne)
theorem Reads.grown {w w' : World} {a : Option Addr} {xs : List Value} {row : Option Nat} (h : Reads w a xs) (hg : w.grownBy w' row) (hne : ∀ p, a = some p → some p.block ≠ row) : Reads w' a xs := by
  rcases h with h | ⟨b, off, rfl, h2, h3⟩
  · exact .inl h
  · exact .inr ⟨b, off, rfl, Nat.lt_of_lt_of_le h2 hg.size, fun j u hu => (grownBy_cell hg (p := ⟨b, off + j, none⟩) h2 (hne ⟨b, off, none⟩ rfl)).trans (h3 j u hu)⟩

theorem markInts_step {xs : List Value} {k : Int} {j : Nat} (hj : j < xs.length) : (ints (cnt k j) ++ xs.drop j).set j (.int .i64 (k + (j : Int))) = ints (cnt k (j + 1)) ++ xs.drop (j + 1) := by
  have e0 : (ints (cnt k j)).length = j := by simp [ints, cnt_length]
  rw [List.set_append_right _ _ (by omega), e0, Nat.sub_self, List.drop_eq_getElem_cons hj, List.set_cons_zero]
  simp [ints, cnt, List.range_succ]

set_option maxHeartbeats 400000 in
theorem markIntS_any (a : Option Addr) (n cap base : Nat) (xs : List Value) (k : Int) (w : World) (hk : 0 ≤ k) (hk2 : k ≤ 1099511627776) (hn : n ≤ 1099511627776)
    (h : w.ownsRow base 3 1 (.slice a n cap) n xs) :
    Calls Try.prog 12 #[.slice a n cap, .int .i64 k] w fun e w' => e = .returned (.int .i64 (k + (n : Int))) ∧ w'.ownsRow base 3 1 (.slice a n cap) n (ints (cnt k n)) ∧ w.grownBy w' (Value.slice a n cap).ownBlock := by
  have hl : xs.length = n := by have := h.1; omega
  have H := Lib.hid h
  have HL := Lib.hid hl
  have hl1 : xs.length ≤ n := by omega
  have hl2 : n ≤ xs.length := by omega
  clear h hl
  go_enter Try.func12, Try.ntmps12
  go_wp2
  go_loopw [1, 5] (fun q i wr => ∃ j : Nat, j ≤ n ∧ i = .int .i64 j ∧ q = .int .i64 (k + (j : Int)) ∧ wr.ownsRow base 3 1 (.slice a n cap) n (ints (cnt k j) ++ xs.drop j) ∧ w.grownBy wr (Value.slice a n cap).ownBlock) (fun _ i _ => n - (intOf i).toNat)
  case atStart => exact ⟨0, Nat.zero_le _, rfl, by go_num, by simpa [cnt] using H.out, World.grownBy.refl _ _⟩
  case round =>
    obtain ⟨j, hj, rfl, rfl, hown, hgr⟩ := hrel
    by_cases hlt : j < n
    · obtain ⟨g, rfl, hb, hg⟩ := own_form hown (by omega)
      have hc := hown.cellAt j (by omega)
      rw [List.getElem?_append_right (by simp [cnt_length]), List.getElem?_drop, show j + (j - (ints (cnt k j)).length) = j from by simp [cnt_length], List.getElem?_eq_getElem (by omega)] at hc
      have hf := hown.frozenAt j
      have hst := hown.stored j (.int .i64 (k + (j : Int)))
      rw [markInts_step (by omega)] at hst
      have hown2 := hst.1
      have hgr2 := grownBy_trans hgr hst.2
      clear hown hgr hst
      go_wp2
      go_roundw
      case rel => exact ⟨j + 1, by omega, by go_num, by go_num, hown2, hgr2⟩
      case measure => simp [intOf]; omega
    · obtain rfl : j = n := by omega
      have hown2 : wr.ownsRow base 3 1 (.slice a j cap) j (ints (cnt k j)) := by
        rw [List.drop_eq_nil_of_le hl1, List.append_nil] at hown; exact hown
      clear hown HL
      go_wp2
      go_ret
      exact ⟨rfl, hown2, hgr⟩

set_option maxHeartbeats 400000 in
theorem heldIntS_any (a : Option Addr) (n cap : Nat) (k : Int) (w : World) (hk : 0 ≤ k) (hk2 : k ≤ 1099511627776) (hn : n ≤ 1099511627776) (h : Reads w a (ints (cnt k n))) :
    Calls Try.prog 13 #[.slice a n cap, .int .i64 k] w fun e w' => e = .returned (.int .i64 (k + (n : Int))) ∧ w = w' := by
  have H := Lib.hid h
  clear h
  go_enter Try.func13, Try.ntmps13
  go_wp2
  go_loop [1, 5] (fun q i => ∃ j : Nat, j ≤ n ∧ i = .int .i64 j ∧ q = .int .i64 (k + (j : Int))) (fun _ i => n - (intOf i).toNat)
  case atStart => exact ⟨0, Nat.zero_le _, rfl, by go_num⟩
  case round =>
    obtain ⟨j, hj, rfl, rfl⟩ := hrel
    by_cases hlt : j < n
    · rcases H.out with h0 | ⟨b, off, rfl, hb2, hc⟩
      · have : (ints (cnt k n)).length = 0 := by rw [h0]; rfl
        simp [cnt_length] at this; omega
      have hc1 := hc j _ (cnt_get hlt)
      clear hc
      go_wp2
      go_round
      case rel => exact ⟨j + 1, by omega, by go_num, by go_num⟩
      case measure => simp [intOf]; omega
    · obtain rfl : j = n := by omega
      go_wp2
      go_ret
      exact ⟨rfl, rfl⟩
end Go.Proofs.Ytieopadbbciciaa
