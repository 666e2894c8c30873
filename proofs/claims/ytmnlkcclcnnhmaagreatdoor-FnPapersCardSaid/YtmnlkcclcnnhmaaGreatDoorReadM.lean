/- Numerals read back: plain Lean. -/
import Derived.Test.YtmnlkcclcnnhmaaGreatDoorNumS
import Derived.Test.YtmnlkcclcnnhmaaGreatDoorMarkT
import Derived.Lib.AtoiAll
namespace Go.Proofs.YtmnlkcclcnnhmaaGreatDoor
open Go.RowKit

def isDig (c : UInt8) : Prop := 48 ≤ c.toNat ∧ c.toNat ≤ 57
def valL (acc : Nat) : List UInt8 → Nat
  | [] => acc
  | c :: r => valL (10 * acc + (c.toNat - 48)) r
theorem valL_append (l : List UInt8) (c : UInt8) : ∀ acc, valL acc (l ++ [c]) = 10 * valL acc l + (c.toNat - 48) := by
  induction l with
  | nil => intro acc; rfl
  | cons d l ih => intro acc; exact ih _
theorem valL_ge (l : List UInt8) : ∀ acc, acc ≤ valL acc l := by
  induction l with
  | nil => intro acc; exact Nat.le_refl _
  | cons d l ih => intro acc; exact Nat.le_trans (by omega) (ih _)
theorem dig_ofNat {u : Nat} (h : u < 10) : (UInt8.ofNat (48 + u)).toNat = 48 + u := by
  rw [UInt8.toNat_ofNat']; omega
theorem dec_digs (u : Nat) : ∀ c ∈ Lib.decDigits u, isDig c := by
  induction u using Nat.strongRecOn with
  | _ u ih =>
    intro c hc
    by_cases h : u < 10
    · rw [Lib.decDigits, dif_pos h] at hc
      rw [List.mem_singleton] at hc; subst hc
      unfold isDig; rw [dig_ofNat h]; omega
    · rw [Lib.decDigits, dif_neg h] at hc
      rcases List.mem_append.1 hc with h1 | h1
      · exact ih _ (by omega) c h1
      · rw [List.mem_singleton] at h1; subst h1
        unfold isDig; rw [dig_ofNat (Nat.mod_lt _ (by decide))]; omega
theorem dec_val (u : Nat) : valL 0 (Lib.decDigits u) = u := by
  induction u using Nat.strongRecOn with
  | _ u ih =>
    by_cases h : u < 10
    · rw [Lib.decDigits, dif_pos h]
      show 10 * 0 + ((UInt8.ofNat (48 + u)).toNat - 48) = u
      rw [dig_ofNat h]; omega
    · rw [Lib.decDigits, dif_neg h, valL_append, ih _ (by omega), dig_ofNat (Nat.mod_lt _ (by decide))]
      omega
theorem dec_ne (u : Nat) : Lib.decDigits u ≠ [] := by
  rw [Lib.decDigits]; split <;> simp
theorem parse_dig : ∀ (l : List UInt8) (acc : Nat), (∀ c ∈ l, isDig c) → valL acc l < 1844674407370955162 → Lib.parseUint10 acc l = .ok (valL acc l)
  | [], _, _, _ => rfl
  | c :: r, acc, hd, hv => by
    have h1 := hd c (by simp)
    have h2 := valL_ge r (10 * acc + (c.toNat - 48))
    have h3 : valL acc (c :: r) = valL (10 * acc + (c.toNat - 48)) r := rfl
    unfold isDig at h1
    rw [h3] at hv ⊢
    rw [Lib.parseUint10, if_pos h1, if_neg (by omega), if_neg (by omega), Nat.mul_comm acc 10]
    exact parse_dig r _ (fun x hx => hd x (by simp [hx])) hv
theorem mag_dec {u : Nat} (h : u < 1844674407370955162) : Lib.parseMag (Lib.decDigits u) = .ok u := by
  rw [Lib.parseMag, if_neg (dec_ne u), parse_dig _ _ (dec_digs u) (by rw [dec_val]; exact h), dec_val]
theorem atoi_num {n : Int} (h1 : -999999 ≤ n) (h2 : n ≤ 999999) : Lib.atoiAll (Lib.itoa n) = .ok n := by
  by_cases h : n < 0
  · have e : Lib.itoa n = 45 :: Lib.decDigits n.natAbs := by unfold Lib.itoa; rw [if_pos h]
    rw [e]
    unfold Lib.atoiAll
    have h3 : Lib.parseMag (Lib.decDigits n.natAbs) = .ok n.natAbs := mag_dec (by omega)
    simp only [show (45 : UInt8).toNat = 45 from rfl, or_true, if_true, h3]
    rw [if_neg (by simp), if_neg (by omega)]
    congr 1; omega
  · obtain ⟨u, rfl⟩ : ∃ u : Nat, n = u := ⟨n.toNat, by omega⟩
    have e : Lib.itoa (u : Int) = Lib.decDigits u := by unfold Lib.itoa; rw [if_neg h]; simp
    rw [e]
    have hd := dec_digs u
    have h3 : Lib.parseMag (Lib.decDigits u) = .ok u := mag_dec (by omega)
    cases hl : Lib.decDigits u with
    | nil => exact absurd hl (dec_ne u)
    | cons c r =>
      rw [hl] at hd h3
      have hc := hd c (by simp)
      unfold isDig at hc
      unfold Lib.atoiAll
      simp only [show ¬ c.toNat = 43 by omega, show ¬ c.toNat = 45 by omega, or_self, if_false]
      rw [h3]
      show (if ¬ False ∧ 9223372036854775808 ≤ u then Lib.NumEnd.range else if False ∧ 9223372036854775808 < u then Lib.NumEnd.range else Lib.NumEnd.ok (u : Int)) = Lib.NumEnd.ok (u : Int)
      rw [if_neg (by omega), if_neg (by simp)]

/-- what the digits of the first k bytes spell -/
def valTo (s : ByteArray) : Nat → Nat
  | 0 => 0
  | k + 1 => if h : k < s.size then 10 * valTo s k + (s[k].toNat - 48) else valTo s k
theorem valTo_succ {s : ByteArray} {k : Nat} (h : k < s.size) : valTo s (k + 1) = 10 * valTo s k + (s[k].toNat - 48) := by rw [valTo, dif_pos h]
def digAt (s : ByteArray) (i : Nat) : Bool := if h : i < s.size then decide (48 ≤ s[i].toNat) && decide (s[i].toNat ≤ 57) else true
theorem digAt_of {s : ByteArray} {i : Nat} (h : i < s.size) : digAt s i = (decide (48 ≤ s[i].toNat) && decide (s[i].toNat ≤ 57)) := by rw [digAt, dif_pos h]
theorem valTo_lt (s : ByteArray) : ∀ k, k ≤ s.size → (∀ i, i < k → digAt s i = true) → valTo s k < 10 ^ k := by
  intro k
  induction k with
  | zero => intro _ _; exact Nat.zero_lt_one
  | succ k ih =>
    intro hk hd
    have h1 := ih (by omega) (fun i hi => hd i (by omega))
    have h2 := hd k (by omega)
    rw [digAt_of (by omega)] at h2
    simp at h2
    rw [valTo_succ (by omega), Nat.pow_succ]
    omega
theorem valTo_val (s : ByteArray) : ∀ k, k ≤ s.size → valTo s k = valL 0 (s.data.toList.take k) := by
  intro k
  induction k with
  | zero => intro _; rfl
  | succ k ih =>
    intro hk
    have hl : k < s.data.toList.length := by simpa using (show k < s.size by omega)
    have e : s.data.toList.take (k + 1) = s.data.toList.take k ++ [s[k]'(by omega)] := by
      rw [List.take_succ_eq_append_getElem hl]; rfl
    rw [valTo_succ (by omega), ih (by omega), e, valL_append]
def negB (s : ByteArray) : Bool := if h : 1 < s.size then s[0] == 45 else false
def tailF (s : ByteArray) : ByteArray := if negB s = true then s.extract 1 s.size else s
def numOf (s : ByteArray) : Int := if negB s = true then -(valTo (tailF s) (tailF s).size : Int) else (valTo (tailF s) (tailF s).size : Int)
def readOk (s : ByteArray) : Bool := inB ((tailF s).size : Int) 1 6 && allB (tailF s).size (digAt (tailF s)) && decide (numF (numOf s) = s)
def readR (s : ByteArray) : Int × Bool := if readOk s = true then (numOf s, true) else (0, false)
theorem numOf_bd {s : ByteArray} (h1 : (tailF s).size ≤ 6) (h2 : allB (tailF s).size (digAt (tailF s)) = true) : -999999 ≤ numOf s ∧ numOf s ≤ 999999 := by
  have h3 := valTo_lt (tailF s) _ (Nat.le_refl _) (allB_true.1 h2)
  have h4 : 10 ^ (tailF s).size ≤ 10 ^ 6 := Nat.pow_le_pow_right (by decide) h1
  unfold numOf
  split <;> omega
theorem read_back {s : ByteArray} (h : readOk s = true) : -999999 ≤ numOf s ∧ numOf s ≤ 999999 ∧ s = numF (numOf s) := by
  simp only [readOk, Bool.and_eq_true, decide_eq_true_eq] at h
  obtain ⟨⟨h1, h2⟩, h3⟩ := h
  have h4 := inB_true.1 h1
  have h5 := numOf_bd (by omega) h2
  exact ⟨h5.1, h5.2, h3.symm⟩
theorem dec_len {u : Nat} (h : u ≤ 999999) : 1 ≤ (decB u).size ∧ (decB u).size ≤ 6 := by
  refine ⟨?_, decB_size 5 u (by simp; omega)⟩
  have := dec_ne u
  have e : (decB u).size = (Lib.decDigits u).length := by simp [decB, ByteArray.size]
  rw [e]
  exact List.length_pos_iff.2 this
theorem decB_get {u i : Nat} (h : i < (decB u).size) : isDig (decB u)[i] := by
  refine dec_digs u _ ?_
  have : (decB u)[i] ∈ (decB u).data.toList := by
    have h2 : i < (decB u).data.toList.length := by simpa using h
    exact List.mem_of_getElem (h := h2) rfl
  simpa [decB] using this
theorem dec_all (u : Nat) : allB (decB u).size (digAt (decB u)) = true := allB_true.2 fun i hi => by
  have := decB_get hi
  unfold isDig at this
  rw [digAt_of hi]; simp [this]
theorem dec_valTo (u : Nat) : valTo (decB u) (decB u).size = u := by
  rw [valTo_val _ _ (Nat.le_refl _)]
  have e : (decB u).data.toList.take (decB u).size = Lib.decDigits u := by
    simp [decB, ByteArray.size]
  rw [e, dec_val]
theorem read_num {n : Int} (h1 : -999999 ≤ n) (h2 : n ≤ 999999) : numOf (numF n) = n ∧ readOk (numF n) = true := by
  by_cases h : n < 0
  · have hl := dec_len (u := n.natAbs) (by omega)
    have e : numF n = (⟨#[45]⟩ : ByteArray) ++ decB n.natAbs := numF_neg h
    have hs : (numF n).size = 1 + (decB n.natAbs).size := by rw [e, ByteArray.size_append]; rfl
    have hn : negB (numF n) = true := by
      have h0 : (numF n)[0]'(by omega) = 45 := by
        simp only [e]
        rw [ByteArray.getElem_append_left (by decide)]
        rfl
      rw [negB, dif_pos (by omega), h0]; rfl
    have ht : tailF (numF n) = decB n.natAbs := by
      rw [tailF, if_pos hn, hs, e]
      apply ByteArray.ext
      rw [ByteArray.data_extract, ByteArray.data_append]
      simp [Array.extract_append]
    have hv : numOf (numF n) = n := by
      rw [numOf, if_pos hn, ht, dec_valTo]; omega
    refine ⟨hv, ?_⟩
    rw [readOk, hv, ht, dec_all]
    simp [inB_true.2 (show 1 ≤ ((decB n.natAbs).size : Int) ∧ ((decB n.natAbs).size : Int) ≤ 6 by omega)]
  · obtain ⟨u, rfl⟩ : ∃ u : Nat, n = u := ⟨n.toNat, by omega⟩
    have hl := dec_len (u := u) (by omega)
    have e : numF (u : Int) = decB u := numF_nonneg u
    have hn : negB (decB u) = false := by
      unfold negB
      split
      · rename_i h0
        have := decB_get (u := u) (i := 0) (by omega)
        unfold isDig at this
        rw [beq_eq_false_iff_ne]
        intro e2
        rw [e2] at this
        exact absurd this (by decide)
      · rfl
    have ht : tailF (decB u) = decB u := by rw [tailF, hn]; rfl
    have hv : numOf (decB u) = u := by rw [numOf, hn, ht, dec_valTo]; rfl
    rw [e]
    refine ⟨hv, ?_⟩
    rw [readOk, hv, ht, dec_all, e]
    simp [inB_true.2 (show 1 ≤ ((decB u).size : Int) ∧ ((decB u).size : Int) ≤ 6 by omega)]
/-- what strconv.Atoi tells, turned into what is read -/
theorem read_atoi_ok {s : ByteArray} {v : Int} (h : Lib.atoiAll s.data.toList = .ok v) : readR s = if inB v (-999999) 999999 = true ∧ numF v = s then (v, true) else (0, false) := by
  by_cases hc : inB v (-999999) 999999 = true ∧ numF v = s
  · obtain ⟨h1, h2⟩ := inB_true.1 hc.1
    obtain ⟨h3, h4⟩ := read_num h1 h2
    rw [hc.2] at h3 h4
    rw [if_pos hc, readR, if_pos h4, h3]
  · rw [if_neg hc, readR, if_neg]
    intro hr
    obtain ⟨h1, h2, h3⟩ := read_back hr
    have h4 := atoi_num h1 h2
    have e : s.data.toList = Lib.itoa (numOf s) := by conv => lhs; rw [h3]
                                                      simp [numF]
    rw [← e, h] at h4
    injection h4 with h5
    exact hc ⟨inB_true.2 (by omega), by rw [h5]; exact h3.symm⟩
theorem read_atoi_no {s : ByteArray} (h : ∀ v, Lib.atoiAll s.data.toList ≠ .ok v) : readR s = (0, false) := by
  rw [readR, if_neg]
  intro hr
  obtain ⟨h1, h2, h3⟩ := read_back hr
  have h4 := atoi_num h1 h2
  have e : s.data.toList = Lib.itoa (numOf s) := by conv => lhs; rw [h3]
                                                    simp [numF]
  rw [← e] at h4
  exact h _ h4
end Go.Proofs.YtmnlkcclcnnhmaaGreatDoor
