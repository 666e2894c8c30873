/- markText: a text that shows a number; string rows: eqStringS, markStringS, heldStringS. -/
import Derived.Test.YtbgfdhghhaoabaaOwn
import Derived.Test.YtbgfdhghhaoabaaQuiet
import Derived.ShutString
namespace Go.Proofs.Ytbgfdhghhaoabaa
open Go.RowKit

theorem ba_cons (b : UInt8) (out : List UInt8) : (⟨(b :: out).toArray⟩ : ByteArray) = ⟨#[b]⟩ ++ ⟨out.toArray⟩ := by
  apply ByteArray.ext
  simp [ByteArray.data_append]
def digsF : Nat → Nat → List UInt8
  | 0, _ => []
  | f + 1, n => if n = 0 then [] else digsF f (n / 10) ++ [UInt8.ofNat (48 + n % 10)]
theorem digsF_zero (f : Nat) : digsF f 0 = [] := by cases f <;> simp [digsF]
theorem digsF_len (f n : Nat) : (digsF f n).length ≤ f := by
  induction f generalizing n with
  | zero => simp [digsF]
  | succ f ih =>
    rw [digsF]; split
    · simp
    · have := ih (n / 10); simp; omega
/-- the text of a positive number behind an m -/
def mkText (k : Nat) : ByteArray := ⟨(109 :: digsF 20 k).toArray⟩
theorem mkText_size (k : Nat) : (mkText k).size ≤ 21 := by
  have := digsF_len 20 k
  show (109 :: digsF 20 k).toArray.size ≤ 21
  simp; omega
theorem str_ext {a b : ByteArray} (h : a.toList = b.toList) : a = b := by
  rw [ByteArray.toList_eq, ByteArray.toList_eq] at h
  exact ByteArray.ext (Array.toList_inj.mp h)
theorem str_beq {a b : ByteArray} (h : a = b) : (a.toList == b.toList) = true := by rw [h]; simp
theorem str_bne {a b : ByteArray} (h : ¬ a = b) : (a.toList == b.toList) = false := by
  rw [beq_eq_false_iff_ne]; exact fun e => h (str_ext e)
theorem str_beq_dec (a b : ByteArray) : (a.toList == b.toList) = decide (a = b) := by
  by_cases h : a = b
  · rw [str_beq h]; simp [h]
  · rw [str_bne h]; simp [h]
/-! ### Rows of texts -/
abbrev strs (ss : List ByteArray) : List Value := ss.map Value.string
theorem strs_get {zs : List ByteArray} {k : Nat} (h : k < zs.length) : (strs zs)[k]? = some (.string zs[k]) := by simp [strs, h]
set_option maxHeartbeats 400000 in
theorem eqStringS_any (a b : Option Addr) (ca cb : Nat) (xs ys : List ByteArray) (w : World) (hm : xs.length ≤ maxLen) (hm2 : ys.length ≤ maxLen) (hx : Reads w a (strs xs)) (hy : Reads w b (strs ys)) :
    Calls Try.prog 15 #[.slice a xs.length ca, .slice b ys.length cb] w fun e w' => e = .returned (.bool (decide (xs = ys))) ∧ Dr w w' := by
  unfold maxLen at hm hm2
  have HX := Lib.hid hx
  have HY := Lib.hid hy
  clear hx hy
  by_cases hlen : xs.length = ys.length
  · have hl2 : (((xs.length : Nat) : Int) != ((ys.length : Nat) : Int)) = false := by simp [hlen]
    have HL := Lib.hid hlen
    have hle : ys.length ≤ xs.length := by omega
    have hle2 : xs.length ≤ ys.length := by omega
    clear hlen
    go_enter Try.func15, Try.ntmps15
    go_wp2
    go_loopw [5] (fun i wr => ∃ k : Nat, k ≤ xs.length ∧ i = .int .i64 k ∧ Hid (xs.take k = ys.take k) ∧ Dr w wr) (fun i _ => xs.length - (intOf i).toNat)
    case atStart => exact ⟨0, Nat.zero_le _, rfl, by simp [Hid], Dr.refl _⟩
    case round =>
      obtain ⟨k, hk, rfl, ht, hdr⟩ := hrel
      by_cases hlt : k < xs.length
      · have hlt2 : k < ys.length := by omega
        rcases HX.out.dr hdr with h0 | ⟨b1, o1, rfl, hb1, hc1⟩
        · simp [strs] at h0; subst h0; simp at hlt
        rcases HY.out.dr hdr with h0 | ⟨b2, o2, rfl, hb2, hc2⟩
        · simp [strs] at h0; subst h0; simp at hlt2
        have hd1 := hc1 k _ (strs_get hlt)
        have hd2 := hc2 k _ (strs_get hlt2)
        clear hc1 hc2
        by_cases he : xs[k] = ys[k]
        · have ht2 := Lib.hid (take_eq_succ ht.out hlt hlt2 he)
          have hb : (xs[k].toList == ys[k].toList) = true := str_beq he
          clear he
          go_wp2
          go_quiet (fail)
          go_wp2
          go_roundw
          case rel => exact ⟨k + 1, by omega, by go_num, ht2, hdr.trans (Dr.of _ _)⟩
          case measure => simp [intOf]; omega
        · have hne := Lib.hid (show ¬ xs = ys from fun e => he (by subst e; rfl))
          have hb : (xs[k].toList == ys[k].toList) = false := str_bne he
          clear he
          go_wp2
          go_quiet (fail)
          go_wp2
          go_ret
          exact ⟨ret_bool (by simp [hne.out]), hdr.trans (Dr.of _ _)⟩
      · have hk2 : k = xs.length := by omega
        have heq := Lib.hid (show xs = ys by
          have h1 := ht.out
          rw [hk2, List.take_length, HL.out, List.take_length] at h1; exact h1)
        clear hk2
        go_wp2
        go_ret
        exact ⟨ret_bool (by simp [heq.out]), hdr⟩
  · have hl2 : (((xs.length : Nat) : Int) != ((ys.length : Nat) : Int)) = true := by simp; omega
    have hne := Lib.hid (show ¬ xs = ys from fun e => hlen (by rw [e]))
    clear hlen
    go_enter Try.func15, Try.ntmps15
    go_wp2
    go_ret
    exact ⟨ret_bool (by simp [hne.out]), Dr.refl _⟩
theorem below_grown {w w' : World} (h : Below w.heap.size w w') (row : Option Nat) : w.grownBy w' row := ⟨h.os, h.tape, h.output, h.size, fun k hk _ => h.block k hk⟩
/-- the texts of the numbers from k on -/
def mkTexts (k : Nat) (n : Nat) : List ByteArray := (List.range n).map fun (i : Nat) => mkText (k + i)
theorem mkTexts_length (k n : Nat) : (mkTexts k n).length = n := by simp [mkTexts]
theorem mkTexts_get {k n i : Nat} (h : i < n) : (strs (mkTexts k n))[i]? = some (.string (mkText (k + i))) := by simp [strs, mkTexts, h]
theorem markStrs_step {xs : List Value} {k j : Nat} (hj : j < xs.length) : (strs (mkTexts k j) ++ xs.drop j).set j (.string (mkText (k + j))) = strs (mkTexts k (j + 1)) ++ xs.drop (j + 1) := by
  have e0 : (strs (mkTexts k j)).length = j := by simp [strs, mkTexts_length]
  rw [List.set_append_right _ _ (by omega), e0, Nat.sub_self, List.drop_eq_getElem_cons hj, List.set_cons_zero]
  simp [strs, mkTexts, List.range_succ]
end Go.Proofs.Ytbgfdhghhaoabaa
