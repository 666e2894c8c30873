/- The text of a number: the reference's recursion is strconv.Itoa's numeral. -/
import Derived.Test.YtmnlkcclcnnhmaaGreatDoorScalar
import Derived.Test.YtmnlkcclcnnhmaaGreatDoorQuiet
import Derived.Lib.ItoaNum
import Derived.Lib.ItoaLen
import Derived.BigQuiet
namespace Go.Proofs.YtmnlkcclcnnhmaaGreatDoor
open Go.RowKit

abbrev tenB : ByteArray := ⟨#[48, 49, 50, 51, 52, 53, 54, 55, 56, 57]⟩
def decB (u : Nat) : ByteArray := ⟨(Lib.decDigits u).toArray⟩
def numF (n : Int) : ByteArray := ⟨(Lib.itoa n).toArray⟩
theorem ten_digit {u : Nat} (h : u < 10) : tenB.extract u (u + 1) = ⟨#[UInt8.ofNat (48 + u)]⟩ := by
  revert u; decide +kernel
theorem decB_small {u : Nat} (h : u < 10) : decB u = tenB.extract u (u + 1) := by
  rw [ten_digit h]; unfold decB; rw [Lib.decDigits, dif_pos h]
theorem decB_big {u : Nat} (h : ¬ u < 10) : decB u = decB (u / 10) ++ tenB.extract (u % 10) (u % 10 + 1) := by
  rw [ten_digit (Nat.mod_lt _ (by decide))]
  unfold decB
  conv => lhs; rw [Lib.decDigits, dif_neg h]
  apply ByteArray.ext
  simp [ByteArray.data_append]
theorem decB_size : ∀ (k u : Nat), u < 10 ^ (k + 1) → (decB u).size ≤ k + 1
  | 0, u, h => by rw [decB_small (by simpa using h), ten_digit (by simpa using h)]; exact Nat.le_refl 1
  | k + 1, u, h => by
    by_cases h1 : u < 10
    · rw [decB_small h1, ten_digit h1]; show 1 ≤ _; omega
    · rw [decB_big h1, ten_digit (Nat.mod_lt _ (by decide)), ByteArray.size_append]
      have := decB_size k (u / 10) (by rw [Nat.pow_succ] at h; omega)
      have h2 : (⟨#[UInt8.ofNat (48 + u % 10)]⟩ : ByteArray).size = 1 := rfl
      omega
theorem numF_nonneg (u : Nat) : numF (u : Int) = decB u := by
  unfold numF decB Lib.itoa; rw [if_neg (by omega)]; simp
theorem numF_neg {n : Int} (h : n < 0) : numF n = (⟨#[45]⟩ : ByteArray) ++ decB n.natAbs := by
  unfold numF decB Lib.itoa; rw [if_pos h]; apply ByteArray.ext; simp [ByteArray.data_append]
theorem numF_size {n : Int} (h1 : -999999999 ≤ n) (h2 : n ≤ 999999999) : (numF n).size ≤ 10 := by
  by_cases h : n < 0
  · rw [numF_neg h, ByteArray.size_append]
    have := decB_size 8 n.natAbs (by simp; omega)
    have h3 : (⟨#[45]⟩ : ByteArray).size = 1 := rfl
    omega
  · obtain ⟨u, rfl⟩ : ∃ u : Nat, n = u := ⟨n.toNat, by omega⟩
    rw [numF_nonneg]
    have := decB_size 8 u (by simp; omega)
    omega
set_option maxHeartbeats 800000 in
set_option maxRecDepth 100000 in
theorem l1NumPos_any (N : Nat) : ∀ (u : Nat), u < N → u ≤ 999999999 → ∀ w : World, Calls Tryz.prog 59 #[.int .i64 u] w fun e w' => e = .returned (.string (decB u)) ∧ Dr w w' := by
  induction N with
  | zero => intro u h; omega
  | succ N ih =>
    intro u hu hm w
    by_cases h : u < 10
    · have HD := Lib.hid (decB_small h)
      have hd : decide ((u : Int) < 0) = false := by simp
      have hd2 : decide ((u : Int) < 10) = true := by simp; omega
      clear ih
      go_enter Tryz.func59, Tryz.ntmps59
      go_wp2
      go_ret
      exact ⟨by rw [HD.out]; rfl, Dr.refl _⟩
    · have HD := Lib.hid (decB_big h)
      have HS := Lib.hid (decB_size 8 (u / 10) (by simp; omega))
      have ih2 : ∀ w : World, Calls Tryz.prog 59 #[.int .i64 ((u : Int) / 10)] w fun e w' => e = .returned (.string (decB (u / 10))) ∧ Dr w w' := fun w => by
        have := ih (u / 10) (by omega) (by omega) w
        rwa [show (((u / 10 : Nat)) : Int) = (u : Int) / 10 by omega] at this
      have ih3 : ∀ w : World, Calls Tryz.prog 59 #[.int .i64 (IntKind.i64.wrap ((u : Int) / 10))] w fun e w' => e = .returned (.string (decB (u / 10))) ∧ Dr w w' := fun w => by
        have := ih2 w
        rwa [show IntKind.i64.wrap ((u : Int) / 10) = (u : Int) / 10 from IntWalk.i64_in _ (by omega)]
      have IH := Lib.hid ih2
      have IH2 := Lib.hid ih3
      clear ih2 ih3
      have hd : decide ((u : Int) < 0) = false := by simp
      have hd2 : decide ((u : Int) < 10) = false := by simp; omega
      have htm : (u : Int).tmod 10 = ((u % 10 : Nat) : Int) := by rw [Int.tmod_eq_emod_of_nonneg (by omega)]; rfl
      have hm0 : 0 ≤ (u : Int).tmod 10 := by omega
      have hm1 : (u : Int).tmod 10 ≤ 9 := by omega
      have HT := Lib.hid htm
      have hwe : IntKind.i64.wrap ((u : Int).tmod 10 + 1) = (u : Int).tmod 10 + 1 := IntWalk.i64_in _ (by omega)
      have HW := Lib.hid hwe
      have hw0 : 0 ≤ IntKind.i64.wrap ((u : Int).tmod 10 + 1) := by omega
      have hw1 : IntKind.i64.wrap ((u : Int).tmod 10 + 1) ≤ 10 := by omega
      have hw2 : (u : Int).tmod 10 ≤ IntKind.i64.wrap ((u : Int).tmod 10 + 1) := by omega
      have hsz : ¬ (9223372036854775807 < (decB (u / 10)).size + ((IntKind.i64.wrap ((u : Int).tmod 10 + 1)).toNat - ((u : Int).tmod 10).toNat)) := by have := HS.out; omega
      have HE : Hid (tenB.extract ((u : Int).tmod 10).toNat (IntKind.i64.wrap ((u : Int).tmod 10 + 1)).toNat = tenB.extract (u % 10) (u % 10 + 1)) := Lib.hid (by congr 1 <;> omega)
      clear hwe
      clear ih htm
      go_enter Tryz.func59, Tryz.ntmps59
      go_wp2
      go_quiet ((go_at_call 59; first | (with_reducible exact quiet_dr (IH.out _)) | (with_reducible exact quiet_dr (IH2.out _))))
      go_wp2_with fail
      go_ret
      have hfin : decB (u / 10) ++ tenB.extract ((u : Int).tmod 10).toNat (IntKind.i64.wrap ((u : Int).tmod 10 + 1)).toNat = decB u := by rw [HE.out, ← HD.out]
      exact ⟨congrArg (fun x => Ending.returned (.string x)) hfin, Dr.of _ _⟩
set_option maxHeartbeats 800000 in
set_option maxRecDepth 100000 in
theorem l1Num_any (n : Int) (h1 : -999999999 ≤ n) (h2 : n ≤ 999999999) (w : World) : Calls Tryz.prog 59 #[.int .i64 n] w fun e w' => e = .returned (.string (numF n)) ∧ Dr w w' := by
  by_cases h : n < 0
  · have HP := Lib.hid (fun w => l1NumPos_any (n.natAbs + 1) n.natAbs (by omega) (by omega) w)
    have ih2 : ∀ w : World, Calls Tryz.prog 59 #[.int .i64 (-n)] w fun e w' => e = .returned (.string (decB n.natAbs)) ∧ Dr w w' := fun w => by
      have := HP.out w
      rwa [show ((n.natAbs : Nat) : Int) = -n by omega] at this
    have IH := Lib.hid ih2
    have HN := Lib.hid (numF_neg h)
    have hd : decide (n < 0) = true := by simp [h]
    have hs := decB_size 8 n.natAbs (by simp; omega)
    have hsz : ¬ (9223372036854775807 < 1 + (decB n.natAbs).size) := by omega
    clear ih2 hs
    go_enter Tryz.func59, Tryz.ntmps59
    go_wp2_with (go_at_call 59; refine (IH.out _).mono ?_; rintro e w' ⟨rfl, k, rfl⟩)
    go_ret
    exact ⟨congrArg (fun x => Ending.returned (.string x)) HN.out.symm, Dr.of _ _⟩
  · have HP := l1NumPos_any (n.toNat + 1) n.toNat (by omega) (by omega) w
    have e : ((n.toNat : Nat) : Int) = n := by omega
    have e2 := numF_nonneg n.toNat
    rw [e] at HP e2
    rw [e2]
    exact HP
end Go.Proofs.YtmnlkcclcnnhmaaGreatDoor
