/- Rows of texts: sizes, copies. -/
import Derived.Test.YtenedmkjbmbapaaMarkT
namespace Go.Proofs.Ytenedmkjbmbapaa
open Go.RowKit

/-- the lengths of the first k texts, together -/
def lensTo (zs : List ByteArray) (k : Nat) : Nat := ((zs.take k).map ByteArray.size).sum
theorem lensTo_zero (zs : List ByteArray) : lensTo zs 0 = 0 := by simp [lensTo]
theorem lensTo_succ {zs : List ByteArray} {k : Nat} (h : k < zs.length) : lensTo zs (k + 1) = lensTo zs k + zs[k].size := by
  unfold lensTo; rw [List.take_succ_eq_append_getElem h, List.map_append, List.sum_append]; simp only [List.map_cons, List.map_nil, List.sum_cons, List.sum_nil, Nat.add_zero]
theorem lensTo_mono (zs : List ByteArray) : ∀ {j k : Nat}, j ≤ k → k ≤ zs.length → lensTo zs j ≤ lensTo zs k := by
  intro j k hjk hk
  induction k with
  | zero => rw [show j = 0 by omega]; exact Nat.le_refl _
  | succ k ih =>
    rcases Nat.lt_or_ge k j with h | h
    · rw [show j = k + 1 by omega]; exact Nat.le_refl _
    · have := ih h (by omega)
      rw [lensTo_succ (by omega)]; omega
def totS (zs : List ByteArray) : Nat := zs.length + lensTo zs zs.length
theorem totS_at {zs : List ByteArray} {k : Nat} (h : k < zs.length) : zs[k].size ≤ totS zs := by
  have h1 := lensTo_succ h
  have h2 := lensTo_mono zs (j := k + 1) (k := zs.length) (by omega) (by omega)
  unfold totS; omega
theorem totS_mem {zs : List ByteArray} {z : ByteArray} (h : z ∈ zs) : z.size ≤ totS zs := by
  obtain ⟨k, hk, rfl⟩ := List.getElem_of_mem h
  exact totS_at hk
theorem info_string : (Try.prog.info? 9).map (fun i => (i.zero, i.size, i.bytes)) = some (some (.string .empty), 1, 16) := by kernel_rfl
/-- 'make([]string, n)' -/
theorem make_strs (n : Nat) (hn : n ≤ 2097152) (u : World) : (Instr.makeSlice 31 (.int .i64 (n : Int)) (.int .i64 (n : Int))).run Try.prog u =
    .ok (.slice (some ⟨u.heap.size, 0, none⟩) n n) (u.alloc (.cells (List.replicate n (Value.string .empty)).toArray 9)) := by
  obtain ⟨i0, hi, hz0, hz1, hz2⟩ := info_parts info_string
  have h := run_make (P := Try.prog) u 31 9 i0 (.string .empty) Try.underlying31 hi hz0 .i64 .i64 (n : Int) (n : Int) (by omega) (Int.le_refl _) (by rw [hz2]; omega) (by omega)
  have e1 : madeCells #[Value.string .empty] n = (List.replicate n (Value.string .empty)).toArray := by
    apply Array.ext'
    rw [toList_madeCells_one]
  rw [← e1]
  simpa [hz1, Value.cells] using h
set_option maxHeartbeats 400000 in
theorem toStringS_any (a : Option Addr) (cap : Nat) (zs : List ByteArray) (w : World) (hb : zs.length ≤ 2097152) (hr : Reads w a (strs zs)) :
    Calls Try.prog 89 #[.slice a zs.length cap] w fun e w' => ∃ g, e = .returned (.slice (some ⟨g, 0, none⟩) zs.length zs.length) ∧ w.heap.size ≤ g ∧ RowIs w' g 9 (strs zs) ∧ Below w.heap.size w w' := by
  have hmk := make_strs zs.length hb
  have HR := Lib.hid hr
  clear hr
  go_enter Try.func89, Try.ntmps89
  go_wp2
  go_loopw [4] (fun i wr => ∃ k : Nat, k ≤ zs.length ∧ i = .int .i64 k ∧ RowIs wr w.heap.size 9 (fillTo (strs zs) (Value.string .empty) k) ∧ Below w.heap.size w wr) (fun i _ => zs.length - (intOf i).toNat)
  case atStart => exact ⟨0, Nat.zero_le _, rfl, by rw [fillTo_zero]; simpa using RowIs.made w 9 zs.length (Value.string .empty), Go.Joins.below_alloc1 _ _⟩
  case round =>
    obtain ⟨k, hk, rfl, hrow, hbel⟩ := hrel
    by_cases hlt : k < zs.length
    · rcases HR.out.below hbel with h0 | ⟨b, off, rfl, hb2, hc⟩
      · simp [strs] at h0; subst h0; simp at hlt
      have hc1 := hc k _ (strs_get hlt)
      have hf1 := hrow.free k
      have hc2 := hrow.cell (fillTo_get (strs zs) (Value.string .empty) k (by simpa using hlt))
      have hrow2 := hrow.set k (.string zs[k])
      rw [fillTo_set _ _ _ _ (strs_get hlt)] at hrow2
      have hbel2 := hbel.setCell (p := ⟨w.heap.size, k, none⟩) (Nat.le_refl _) (.string zs[k])
      clear hrow hbel hc
      go_wp2
      go_roundw
      case rel => exact ⟨k + 1, by omega, by go_num, hrow2, hbel2⟩
      case measure => simp [intOf]; omega
    · obtain rfl : k = zs.length := by omega
      have hrow2 : RowIs wr w.heap.size 9 (strs zs) := by
        have := fillTo_all (strs zs) (Value.string .empty)
        rw [show (strs zs).length = zs.length from by simp] at this
        rwa [this] at hrow
      clear hrow
      go_wp2
      go_ret
      exact ⟨_, rfl, Nat.le_refl _, hrow2, hbel⟩
set_option maxHeartbeats 400000 in
theorem szStringS_big (a : Option Addr) (cap : Nat) (zs : List ByteArray) (left : Int) (w : World) (hm : zs.length ≤ maxLen) (hr : Reads w a (strs zs)) (h0 : 0 ≤ left) (h1 : left ≤ 1048576) (h : left < (totS zs : Int)) (hz : ∀ z ∈ zs, z.size ≤ maxLen) :
    Calls Try.prog 87 #[.slice a zs.length cap, .int .i64 left] w fun e w' => e = .returned (.int .i64 (-1)) ∧ w = w' := by
  have HR := Lib.hid hr
  have HZ := Lib.hid hz
  have HT := Lib.hid h
  clear hr hz h
  by_cases hlen : left < (zs.length : Int)
  · unfold maxLen at hm
    go_enter Try.func87, Try.ntmps87
    go_wp2
    go_ret
    exact ⟨rfl, rfl⟩
  unfold maxLen at hm
  go_enter Try.func87, Try.ntmps87
  go_wp2
  go_loop [1, 5] (fun q i => ∃ k : Nat, k ≤ zs.length ∧ i = .int .i64 k ∧ q = .int .i64 (left - (zs.length : Int) - (lensTo zs k : Int)) ∧ (zs.length : Int) + (lensTo zs k : Int) ≤ left) (fun _ i => zs.length - (intOf i).toNat)
  case atStart => exact ⟨0, Nat.zero_le _, rfl, by rw [lensTo_zero]; simp, by rw [lensTo_zero]; simp; omega⟩
  case round =>
    obtain ⟨k, hk, rfl, rfl, hle⟩ := hrel
    by_cases hlt : k < zs.length
    · rcases HR.out with h0 | ⟨b, off, rfl, hb2, hc⟩
      · simp [strs] at h0; subst h0; simp at hlt
      have hc1 := hc k _ (strs_get hlt)
      have hsz := HZ.out _ (List.getElem_mem hlt)
      have hs := Lib.hid (lensTo_succ hlt)
      unfold maxLen at hsz
      clear hc
      by_cases hneg : left - (zs.length : Int) - (lensTo zs k : Int) - (zs[k].size : Int) < 0
      · go_wp2
        go_ret
        exact ⟨rfl, rfl⟩
      · go_wp2
        go_round
        case rel => exact ⟨k + 1, by omega, by go_num, by rw [hs.out]; go_num, by rw [hs.out]; omega⟩
        case measure => simp [intOf]; omega
    · exfalso
      have := HT.out
      rw [totS, show zs.length = k by omega] at this
      omega
set_option maxHeartbeats 400000 in
theorem szStringS_ok (a : Option Addr) (cap : Nat) (zs : List ByteArray) (left : Int) (w : World) (hr : Reads w a (strs zs)) (h1 : left ≤ 1048576) (h : (totS zs : Int) ≤ left) :
    Calls Try.prog 87 #[.slice a zs.length cap, .int .i64 left] w fun e w' => e = .returned (.int .i64 (left - (totS zs : Int))) ∧ w = w' := by
  have HR := Lib.hid hr
  have HT := Lib.hid h
  have hlen : (zs.length : Int) ≤ left := by unfold totS at h; omega
  have hM := Lib.hid (fun k (hk : k ≤ zs.length) => lensTo_mono zs hk (Nat.le_refl _))
  clear hr h
  go_enter Try.func87, Try.ntmps87
  go_wp2
  go_loop [1, 5] (fun q i => ∃ k : Nat, k ≤ zs.length ∧ i = .int .i64 k ∧ q = .int .i64 (left - (zs.length : Int) - (lensTo zs k : Int))) (fun _ i => zs.length - (intOf i).toNat)
  case atStart => exact ⟨0, Nat.zero_le _, rfl, by rw [lensTo_zero]; simp⟩
  case round =>
    obtain ⟨k, hk, rfl, rfl⟩ := hrel
    by_cases hlt : k < zs.length
    · rcases HR.out with h0 | ⟨b, off, rfl, hb2, hc⟩
      · simp [strs] at h0; subst h0; simp at hlt
      have hc1 := hc k _ (strs_get hlt)
      have hs := Lib.hid (lensTo_succ hlt)
      have hle : (zs.length : Int) + (lensTo zs k : Int) + (zs[k].size : Int) ≤ left := by
        have h2 := hM.out (k + 1) (by omega)
        have h3 := HT.out
        rw [hs.out] at h2
        unfold totS at h3
        omega
      clear hc
      go_wp2
      go_round
      case rel => exact ⟨k + 1, by omega, by go_num, by rw [hs.out]; go_num⟩
      case measure => simp [intOf]; omega
    · obtain rfl : k = zs.length := by omega
      go_wp2
      go_ret
      exact ⟨ret_int (by unfold totS; omega), rfl⟩
end Go.Proofs.Ytenedmkjbmbapaa
