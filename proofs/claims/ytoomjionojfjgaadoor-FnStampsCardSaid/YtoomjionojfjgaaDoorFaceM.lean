/- The text of an amount in hundredths: plain Lean. -/
import Derived.Test.YtoomjionojfjgaaDoorNumC
namespace Go.Proofs.YtoomjionojfjgaaDoor
open Go.RowKit

abbrev dotB : ByteArray := ⟨#[46]⟩
abbrev dot0B : ByteArray := ⟨#[46, 48]⟩
def faceF (u : Nat) : ByteArray := decB (u / 100) ++ dotB ++ decB (u / 10 % 10) ++ decB (u % 10)
theorem bapp_assoc (a b c : ByteArray) : a ++ b ++ c = a ++ (b ++ c) := by
  apply ByteArray.ext; simp [ByteArray.data_append, Array.append_assoc]
theorem face_lo {u : Nat} (h : u % 100 < 10) : decB (u / 100) ++ dot0B ++ decB (u % 100) = faceF u := by
  have e1 : u / 10 % 10 = 0 := by omega
  have e2 : u % 100 = u % 10 := by omega
  have e3 : decB 0 = ⟨#[48]⟩ := by rw [decB_small (by omega), ten_digit (by omega)]; rfl
  have e4 : dot0B = dotB ++ ⟨#[48]⟩ := rfl
  rw [faceF, e1, e2, e3, e4, bapp_assoc, bapp_assoc, bapp_assoc, bapp_assoc]
theorem face_hi {u : Nat} (h : 10 ≤ u % 100) : decB (u / 100) ++ dotB ++ decB (u % 100) = faceF u := by
  have e1 : decB (u % 100) = decB (u / 10 % 10) ++ decB (u % 10) := by
    rw [decB_big (by omega), show u % 100 / 10 = u / 10 % 10 by omega, show u % 100 % 10 = u % 10 by omega, decB_small (u := u / 10 % 10) (Nat.mod_lt _ (by decide)), decB_small (u := u % 10) (Nat.mod_lt _ (by decide))]
  rw [faceF, e1, bapp_assoc, bapp_assoc, bapp_assoc]
theorem face_size {u : Nat} (h : u ≤ 9999) : (decB (u / 100)).size ≤ 10 ∧ (decB (u / 10 % 10)).size ≤ 10 ∧ (decB (u % 10)).size ≤ 10 ∧ (decB (u % 100)).size ≤ 10 ∧ (faceF u).size ≤ 40 := by
  have h1 := decB_size 8 (u / 100) (by simp; omega)
  have h2 := decB_size 8 (u / 10 % 10) (by simp; omega)
  have h3 := decB_size 8 (u % 10) (by simp; omega)
  have h4 := decB_size 8 (u % 100) (by simp; omega)
  refine ⟨by omega, by omega, by omega, by omega, ?_⟩
  rw [faceF, ByteArray.size_append, ByteArray.size_append, ByteArray.size_append]
  have : dotB.size = 1 := rfl
  omega
end Go.Proofs.YtoomjionojfjgaaDoor
