/- A blank sheet: the program's side (strings.Repeat by its contract, slices.Repeat walked). -/
import Derived.Test.YtenedmkjbmbapaaBlankS
import Derived.Test.YtenedmkjbmbapaaShelf
import Derived.Laws.CopyOwn
import Derived.Deep.RegionLaw
namespace Go.Proofs.Ytenedmkjbmbapaa
open Go.RowKit

theorem repeat_dots (c : Nat) : (⟨(Lib.repeatL (ByteArray.mk #[46]).data.toList c).toArray⟩ : ByteArray) = dots c := by
  unfold dots
  congr 2
  induction c with
  | zero => rfl
  | succ c ih => rw [List.replicate_succ, ← ih]; rfl
/-- the row while it is filled -/
def fillV (v z : Value) (k n : Nat) : List Value := List.replicate k v ++ List.replicate (n - k) z
theorem fillV_zero (v z : Value) (n : Nat) : fillV v z 0 n = List.replicate n z := by simp [fillV]
theorem fillV_all (v z : Value) (n : Nat) : fillV v z n n = List.replicate n v := by simp [fillV]
theorem fillV_len {v z : Value} {k n : Nat} (h : k ≤ n) : (fillV v z k n).length = n := by simp [fillV]; omega
theorem fillV_splice {v z : Value} {k m n : Nat} (h : k + m ≤ n) : splice (fillV v z k n) k (List.replicate m v) = fillV v z (k + m) n := by
  unfold splice fillV
  rw [List.take_append_of_le_length (by simp), List.take_of_length_le (by simp), List.drop_append, List.length_replicate, List.length_replicate, List.drop_of_length_le (by simp), List.drop_replicate, List.nil_append, ← List.append_assoc, List.replicate_append_replicate]
  congr 2; omega
theorem fillV_get {v z : Value} {k n j : Nat} (h : j < k) : (fillV v z k n)[j]? = some v := by
  unfold fillV
  rw [List.getElem?_append_left (by simpa using h)]; simp [h]
theorem new_fill (r : Nat) (v : Value) (u : World) : (u.alloc (.cells (Array.replicate r (Value.string .empty)) 9)).heap[u.heap.size]? = some (.cells (fillV v (.string .empty) 0 r).toArray 9 (0, 0)) := by
  rw [fillV_zero, heap_alloc_new]; simp
theorem src_rep {w w' : World} {b m : Nat} {v : Value} {L : List Value} {T : TypeId} (h : RowIs w b T L) (hb : Below w.heap.size w w') (hm : ∀ j, j < m → L[j]? = some v) : ∀ j u, (List.replicate m v)[j]? = some u → w'.cell? ((⟨b, 0, none⟩ : Addr).add j) = some u := by
  intro j u hu
  obtain ⟨hj, hv⟩ := List.getElem?_eq_some_iff.1 hu
  have hj2 : j < m := by simpa using hj
  obtain rfl : v = u := by simpa using hv
  have := (h.below hb).cell (hm j hj2)
  rw [show ((⟨b, 0, none⟩ : Addr).add j) = ⟨b, j, none⟩ by cases j <;> simp [Addr.add]]
  exact this
set_option maxRecDepth 100000 in
set_option maxHeartbeats 400000 in
theorem repeatS_any (b cp : Nat) (r : Nat) (s : ByteArray) (w : World) (h1 : 1 ≤ r) (h2 : r ≤ 5) (hx : RowIs w b 9 [.string s]) :
    Calls Try.prog 92 #[.slice (some ⟨b, 0, none⟩) 1 cp, .int .i64 (r : Int)] w fun e w' => e = .returned (.slice (some ⟨w.heap.size, 0, none⟩) r r) ∧ RowIs w' w.heap.size 9 (List.replicate r (.string s)) ∧ Below w.heap.size w w' := by
  have hu := Try.underlying31
  have hsz1 : (Try.prog.info? 9).map (·.size) = some 1 := by
    obtain ⟨i0, hi, hz0, hz1, hz2⟩ := info_parts info_str1
    rw [hi]; simp [hz1]
  have HX := Lib.hid hx
  have c0 := hx.cell (j := 0) rfl
  have HMU := Lib.hid (fun w => Try.bits_Mul 1 r (by omega) (by omega) w)
  have HMK := Lib.hid (fun u => make_strs r (by omega) u)
  have HNF := Lib.hid (fun u => new_fill r (.string s) u)
  have ew : (1 * r / 18446744073709551616 : Nat) = 0 := by omega
  have ew2 : (1 * r % 18446744073709551616 : Nat) = r := by omega
  rw [ew, ew2] at HMU
  clear hx ew ew2
  have Q1 : Hid ((List.replicate 1 (Value.string s)).length = Nat.min 1 r) := Lib.hid (by show 1 = Nat.min 1 r; exact (Nat.min_eq_left h1).symm)
  have Q3 : Hid (0 + (List.replicate 1 (Value.string s)).length ≤ (fillV (.string s) (.string .empty) 0 r).length) := Lib.hid (by rw [fillV_len (by omega)]; simpa using h1)
  have Q4 : Hid (∀ v ∈ List.replicate 1 (Value.string s), v.oneCell' = true) := Lib.hid (by simp [Value.oneCell'])
  have w1 : IntKind.u64.wrap (r : Int) = (r : Int) := by simp [IntKind.wrap, IntKind.bits, IntKind.signed]; omega
  go_enter Try.func92, Try.ntmps92
  have hmk := HMK.out
  go_wp2_with (first | (go_at_call 103; refine (HMU.out _).mono ?_; rintro e w' ⟨rfl, rfl⟩) | (with_reducible refine wpList_copy_splice rfl (.tmp 31) (.tmp 32) 31 31 rfl 9 hu hsz1 (some ⟨w'.heap.size, 0, none⟩) (some ⟨b, 0, none⟩) r r 1 cp rfl rfl w'.heap.size 0 (fillV (.string s) (.string .empty) 0 r) 9 (HNF.out _) (List.replicate 1 (.string s)) ?_ ?_ ?_ ?_ w'.heap.size w' (Go.Joins.below_alloc1 _ _) (Nat.le_refl _) ?_))
  · exact Q1.out
  · intro j v hj
    obtain rfl : j = 0 := by
      cases j with
      | zero => rfl
      | succ j => simp at hj
    have := ((HX.out).alloc (.cells (Array.replicate r (Value.string .empty)) 9)).cell (j := 0) rfl
    simpa using this.trans (by simpa using hj)
  · exact Q3.out
  · exact Q4.out
  intro w2 hg2 hb2
  have HG2 : Hid (w2.heap[w'.heap.size]? = some (.cells (fillV (.string s) (.string .empty) 1 r).toArray 9)) := by
    have e := fillV_splice (v := .string s) (z := .string .empty) (k := 0) (m := 1) (n := r) (by omega)
    rw [show [Value.string s] = List.replicate 1 (Value.string s) from rfl, e] at hg2
    exact hg2
  have HB2 := Lib.hid hb2
  clear hg2 hb2 hmk
  go_wp2_with fail
  go_loopw [8] (fun i wr => ∃ k : Nat, 1 ≤ k ∧ k ≤ r ∧ i = .int .i64 k ∧ Hid (wr.heap[w'.heap.size]? = some (.cells (fillV (.string s) (.string .empty) k r).toArray 9)) ∧ Below w'.heap.size w' wr) (fun i _ => r - (intOf i).toNat)
  case atStart => exact ⟨1, by omega, h1, by go_num, HG2, HB2.out⟩
  case round =>
    obtain ⟨k, hk1, hk, rfl, hg, hbel⟩ := hrel
    have HB := Lib.hid hbel
    clear hbel
    by_cases hlt : k < r
    · obtain ⟨m, hm⟩ : ∃ m, m = Nat.min k (r - k) := ⟨_, rfl⟩
      have hmb : 1 ≤ m ∧ m ≤ k ∧ m ≤ r - k := by rw [hm]; exact ⟨by simp [Nat.min_def]; split <;> omega, Nat.min_le_left _ _, Nat.min_le_right _ _⟩
      have HM := Lib.hid hm
      have hw1 : IntKind.i64.wrap ((k : Int) + (m : Int)) = ((k + m : Nat) : Int) := by rw [small_in (by omega) (by omega)]; omega
      have HS := Lib.hid (fun w3 (h : Below wr.heap.size wr w3) => src_rep (m := m) (v := .string s) (show RowIs wr w'.heap.size 9 (fillV (.string s) (.string .empty) k r) from hg.out) h (fun j hj => fillV_get (by omega)))
      have hln := fillV_len (v := .string s) (z := .string .empty) hk
      clear hm
      go_wp2_with fail
      have hrk : ¬ r = k := by omega
      go_region_law (refine step_copy_splice rfl (.tmp 41) (.tmp 44) 31 31 rfl 9 hu hsz1 (some ⟨w'.heap.size, k, none⟩) (some ⟨w'.heap.size, 0, none⟩) (r - k) (r - k) k r (by simp [Act.eval, Act.put]) (by simp [Act.eval, Act.put]) w'.heap.size k (fillV (.string s) (.string .empty) k r) 9 (by exact hg.out) (List.replicate m (.string s)) (by rw [List.length_replicate]; exact HM.out) (fun _ => ⟨rfl, ⟨w'.heap.size, 0, none⟩, rfl, HS.out _ (Below.refl _ _).drew⟩) (by rw [hln, List.length_replicate]; omega) (by simp [Value.oneCell']) w'.heap.size w' HB.out.drew (Nat.le_refl _) ?_; intro w4 hg4 hb4)
      have HG4 : Hid (w4.heap[w'.heap.size]? = some (.cells (fillV (.string s) (.string .empty) (k + m) r).toArray 9)) := by
        have e := fillV_splice (v := .string s) (z := .string .empty) (k := k) (m := m) (n := r) (by omega)
        rw [e] at hg4
        exact hg4
      have HB4 := Lib.hid hb4
      clear hg4 hb4
      simp [Act.put]
      go_wp2_with fail
      go_roundw
      case rel => exact ⟨k + m, by omega, by omega, by go_num, HG4, HB4.out⟩
      case measure => simp [intOf]; omega
    · obtain rfl : k = r := by omega
      have HG : Hid (RowIs wr w'.heap.size 9 (List.replicate k (.string s))) := Lib.hid (by have := hg.out; rw [fillV_all] at this; exact this)
      clear hg
      go_wp2_with fail
      go_ret
      exact ⟨rfl, HG.out, HB.out⟩
set_option maxRecDepth 100000 in
set_option maxHeartbeats 4000000 in
theorem emptySheet_any (r c : Nat) (w : World) (h1 : 1 ≤ r) (h2 : r ≤ 5) (h4 : c ≤ 5) :
    Calls Try.prog 56 #[.int .i64 (r : Int), .int .i64 (c : Int)] w fun e w' => ∃ ad cp, e = .returned (.slice ad (blankS r c).length cp) ∧
      w'.ownsRow w.heap.size 9 1 (.slice ad (blankS r c).length cp) (blankS r c).length (strs (blankS r c)) ∧ Below w.heap.size w w' := by
  have HSR := Lib.hid (fun w => Try.strings_Repeat ⟨#[46]⟩ c w (by omega) (by show 1 * c ≤ _; omega))
  rw [repeat_dots] at HSR
  have HRP := Lib.hid (fun b cp w hx => repeatS_any b cp r (dots c) w h1 h2 hx)
  have HE : Hid (List.replicate r (Value.string (dots c)) = strs (blankS r c)) := Lib.hid (by simp [blankS, strs])
  have HLE := Lib.hid (blankS_length r c)
  rw [HLE.out]
  have hown := Lib.hid (fun (w w' : World) (h : w.heap.size ≤ w'.heap.size) (x : World) (hr : RowIs x w'.heap.size 9 (strs (blankS r c))) => RowIs.owns hr (n := r) (sz := 1) (base := w.heap.size) (by simp [strs, blankS]) (by unfold maxLen; omega) h)
  go_enter Try.func56, Try.ntmps56
  go_wp2_with fail
  refine (HSR.out _).mono ?_
  rintro e w1 ⟨rfl, hb⟩
  have HB := Lib.hid hb
  clear hb
  go_wp2_with fail
  refine (HRP.out _ _ _ (RowIs.new w1 9 [.string (dots c)])).mono ?_
  rintro e w2 ⟨rfl, hrow, hb⟩
  have HB2 := Lib.hid ((HB.out.alloc HB.out.size _).trans (hb.mono (Nat.le_trans HB.out.size (by simp))))
  rw [HE.out] at hrow
  have HR := Lib.hid (hown.out w (w1.alloc (.cells #[.string (dots c)] 9)) (Nat.le_trans HB.out.size (by simp)) w2 hrow)
  clear hb hrow
  go_wp2_with fail
  go_ret
  exact ⟨_, _, rfl, by simpa using HR.out, HB2.out⟩
end Go.Proofs.Ytenedmkjbmbapaa
