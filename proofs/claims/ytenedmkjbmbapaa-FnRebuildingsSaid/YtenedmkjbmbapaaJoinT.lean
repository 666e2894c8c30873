/- strings.Join over a slice of texts that reads as a list. -/
import Derived.Test.YtenedmkjbmbapaaShelf
import Derived.Test.YtenedmkjbmbapaaStrS
import Derived.Lib.Join
namespace Go.Proofs.Ytenedmkjbmbapaa
open Go.RowKit

def ba (l : List UInt8) : ByteArray := ⟨l.toArray⟩
theorem ba_size (l : List UInt8) : (ba l).size = l.length := size_of_list l
theorem ba_eta (s : ByteArray) : ba s.data.toList = s := by cases s; simp [ba]
theorem ba_append (a b : List UInt8) : ba (a ++ b) = ba a ++ ba b := by
  apply ByteArray.ext
  simp [ba, ByteArray.data_append]
def joinB (zs : List ByteArray) (sep : ByteArray) : ByteArray := ba (Lib.join (zs.map (·.data.toList)) sep.data.toList)
/-- what has been joined after k texts -/
def joinTo (zs : List ByteArray) (sep : ByteArray) (k : Nat) : ByteArray := joinB (zs.take k) sep
theorem joinTo_zero (zs : List ByteArray) (sep : ByteArray) : joinTo zs sep 0 = ⟨#[]⟩ := rfl
theorem joinTo_one {zs : List ByteArray} {sep : ByteArray} (h : 0 < zs.length) : joinTo zs sep 1 = zs[0] := by
  cases zs with
  | nil => simp at h
  | cons z zs => simp only [joinTo, joinB, List.take_succ_cons, List.take_zero, List.map_cons, List.map_nil, Lib.join_one, List.getElem_cons_zero, ba_eta]
theorem joinTo_succ {zs : List ByteArray} {sep : ByteArray} {k : Nat} (h : k < zs.length) (hk : 0 < k) : joinTo zs sep (k + 1) = joinTo zs sep k ++ sep ++ zs[k] := by
  cases zs with
  | nil => simp at h
  | cons z zs =>
    obtain ⟨k, rfl⟩ : ∃ j, k = j + 1 := ⟨k - 1, by omega⟩
    have hk2 : k < zs.length := by simpa using h
    have e := Lib.joinTail_take_succ sep.data.toList (zs.map (·.data.toList)) k zs[k].data.toList (by simp [hk2])
    simp only [joinTo, joinB, List.take_succ_cons, List.map_cons, Lib.join_cons, List.map_take, List.getElem_cons_succ]
    rw [e, ← List.append_assoc, ← List.append_assoc, ba_append, ba_append, ba_eta, ba_eta]
theorem joinTo_size {zs : List ByteArray} {sep : ByteArray} {m : Nat} (hm : ∀ z ∈ zs, z.size ≤ m) : ∀ k, k ≤ zs.length → (joinTo zs sep k).size ≤ k * (m + sep.size) := by
  intro k
  induction k with
  | zero => intro _; rw [joinTo_zero]; exact Nat.zero_le _
  | succ k ih =>
    intro hk
    have h1 := hm zs[k] (List.getElem_mem (by omega))
    rcases Nat.eq_zero_or_pos k with h0 | h0
    · subst h0; rw [joinTo_one (by omega)]; omega
    · rw [joinTo_succ (by omega) h0, ByteArray.size_append, ByteArray.size_append]
      have := ih (by omega)
      rw [Nat.add_mul]
      omega
theorem joinTo_all (zs : List ByteArray) (sep : ByteArray) : joinTo zs sep zs.length = joinB zs sep := by rw [joinTo, List.take_length]
theorem join_any (a : Option Addr) (cap : Nat) (zs : List ByteArray) (sep : ByteArray) (w : World) (hr : Reads w a (strs zs)) (hc : zs.length ≤ cap) (hN : zs.length ≤ 1048576) (hl : (joinB zs sep).size ≤ 140737488355328) :
    Calls Try.prog 85 #[.slice a zs.length cap, .string sep] w fun e w' => e = .returned (.string (joinB zs sep)) ∧ Below w.heap.size w w' := by
  rcases hr with h0 | ⟨b, off, rfl, hb, hcell⟩
  · have hz : zs = [] := by simpa [strs] using h0
    subst hz
    refine (Try.strings_Join_none a cap sep w).mono ?_
    rintro e w' ⟨rfl, rfl⟩
    exact ⟨rfl, Below.refl _ _⟩
  · rw [joinB, ba_size] at hl
    exact Try.strings_Join b off cap zs sep w (fun j x hx => hcell j (.string x) (by simp [strs, hx])) hb (by omega) hc hl
end Go.Proofs.Ytenedmkjbmbapaa
