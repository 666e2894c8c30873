/- markText: a text that shows a number; string rows: eqStringS, markStringS, heldStringS. -/
import Derived.Test.YtmnlkcclcnnhmaaGreatDoorOwn
import Derived.Test.YtmnlkcclcnnhmaaGreatDoorQuiet
import Derived.ShutString
namespace Go.Proofs.YtmnlkcclcnnhmaaGreatDoor
open Go.RowKit

theorem ba_cons (b : UInt8) (out : List UInt8) : (⟨(b :: out).toArray⟩ : ByteArray) = ⟨#[b]⟩ ++ ⟨out.toArray⟩ := by
  apply ByteArray.ext
  simp [ByteArray.data_append]
def digsF : Nat → Nat → List UInt8
  | 0, _ => []
  | f + 1, n => if n = 0 then [] else digsF f (n / 10) ++ [UInt8.ofNat (48 + n % 10)]
theorem digsF_zero (f : Nat) : digsF f 0 = [] := by cases f <;> simp [digsF]
theorem digsF_len (f n : Nat) : (digsF f n).length ≤ f := by
  induction f generalizing n with
  | zero => simp [digsF]
  | succ f ih =>
    rw [digsF]; split
    · simp
    · have := ih (n / 10); simp; omega
/-- the text of a positive number behind an m -/
def mkText (k : Nat) : ByteArray := ⟨(109 :: digsF 20 k).toArray⟩
theorem mkText_size (k : Nat) : (mkText k).size ≤ 21 := by
  have := digsF_len 20 k
  show (109 :: digsF 20 k).toArray.size ≤ 21
  simp; omega
theorem str_ext {a b : ByteArray} (h : a.toList = b.toList) : a = b := by
  rw [ByteArray.toList_eq, ByteArray.toList_eq] at h
  exact ByteArray.ext (Array.toList_inj.mp h)
theorem str_beq {a b : ByteArray} (h : a = b) : (a.toList == b.toList) = true := by rw [h]; simp
theorem str_bne {a b : ByteArray} (h : ¬ a = b) : (a.toList == b.toList) = false := by
  rw [beq_eq_false_iff_ne]; exact fun e => h (str_ext e)
theorem str_beq_dec (a b : ByteArray) : (a.toList == b.toList) = decide (a = b) := by
  by_cases h : a = b
  · rw [str_beq h]; simp [h]
  · rw [str_bne h]; simp [h]
/-! ### Rows of texts -/
abbrev strs (ss : List ByteArray) : List Value := ss.map Value.string
theorem strs_get {zs : List ByteArray} {k : Nat} (h : k < zs.length) : (strs zs)[k]? = some (.string zs[k]) := by simp [strs, h]
theorem below_grown {w w' : World} (h : Below w.heap.size w w') (row : Option Nat) : w.grownBy w' row := ⟨h.os, h.tape, h.output, h.size, fun k hk _ => h.block k hk⟩
/-- the texts of the numbers from k on -/
def mkTexts (k : Nat) (n : Nat) : List ByteArray := (List.range n).map fun (i : Nat) => mkText (k + i)
theorem mkTexts_length (k n : Nat) : (mkTexts k n).length = n := by simp [mkTexts]
theorem mkTexts_get {k n i : Nat} (h : i < n) : (strs (mkTexts k n))[i]? = some (.string (mkText (k + i))) := by simp [strs, mkTexts, h]
theorem markStrs_step {xs : List Value} {k j : Nat} (hj : j < xs.length) : (strs (mkTexts k j) ++ xs.drop j).set j (.string (mkText (k + j))) = strs (mkTexts k (j + 1)) ++ xs.drop (j + 1) := by
  have e0 : (strs (mkTexts k j)).length = j := by simp [strs, mkTexts_length]
  rw [List.set_append_right _ _ (by omega), e0, Nat.sub_self, List.drop_eq_getElem_cons hj, List.set_cons_zero]
  simp [strs, mkTexts, List.range_succ]
end Go.Proofs.YtmnlkcclcnnhmaaGreatDoor
