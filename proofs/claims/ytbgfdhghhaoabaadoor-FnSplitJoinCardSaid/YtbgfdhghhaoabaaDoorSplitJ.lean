/- A text cut at a byte and joined again: plain Lean. -/
import Derived.Test.YtbgfdhghhaoabaaDoorSplitM
import Derived.Test.YtbgfdhghhaoabaaDoorJoinS
namespace Go.Proofs.YtbgfdhghhaoabaaDoor
open Go.RowKit

theorem splitA_cons (c : UInt8) : ∀ (l cur : List UInt8), ∃ p ps, splitA c cur l = p :: ps
  | [], cur => ⟨cur, [], rfl⟩
  | x :: xs, cur => by
    rw [splitA]
    split
    · exact ⟨_, _, rfl⟩
    · exact splitA_cons c xs _
theorem splitA_join (c : UInt8) : ∀ (l cur : List UInt8), Lib.join (splitA c cur l) [c] = cur ++ l
  | [], cur => by rw [splitA, Lib.join_one]; simp
  | x :: xs, cur => by
    rw [splitA]
    split
    · rename_i h
      obtain ⟨p, ps, e⟩ := splitA_cons c xs []
      have ih := splitA_join c xs []
      rw [e] at ih ⊢
      rw [Lib.join_cons] at ih ⊢
      rw [h]
      simpa [Lib.joinTail] using ih
    · rw [splitA_join c xs]; simp
theorem splitA_free (c : UInt8) : ∀ (l cur : List UInt8), c ∉ cur → ∀ p ∈ splitA c cur l, c ∉ p
  | [], cur, h, p, hp => by
    rw [splitA, List.mem_singleton] at hp; rw [hp]; exact h
  | x :: xs, cur, h, p, hp => by
    rw [splitA] at hp
    split at hp
    · rcases List.mem_cons.1 hp with e | e
      · rw [e]; exact h
      · exact splitA_free c xs [] (by simp) p e
    · rename_i hx
      exact splitA_free c xs _ (by simp [h]; exact fun e => hx e.symm) p hp
/-- the parts of a text, joined again, are the text -/
theorem split_join (s : ByteArray) (c : UInt8) : joinB (splitF s c) ⟨#[c]⟩ = s := by
  unfold joinB
  rw [splitF_data]
  have h := splitA_join c s.data.toList []
  rw [show (⟨#[c]⟩ : ByteArray).data.toList = [c] from rfl, h, List.nil_append, ba_eta]
theorem split_free (s : ByteArray) (c : UInt8) : ∀ z ∈ splitF s c, hasB z c = false := by
  intro z hz
  have hm : z.data.toList ∈ (splitF s c).map (·.data.toList) := List.mem_map.2 ⟨z, hz, rfl⟩
  rw [splitF_data] at hm
  have := splitA_free c s.data.toList [] (by simp) _ hm
  simp [hasB, this]
theorem split_back {s : ByteArray} {c : UInt8} (h : s.size ≤ 4000) : joinF (splitF s c) ⟨#[c]⟩ = (s, true) := by
  have hl := joinTo_len (zs := splitF s c) (sep := ⟨#[c]⟩) (splitF s c).length (Nat.le_refl _)
  rw [joinTo_all, split_join] at hl
  have h1 : (⟨#[c]⟩ : ByteArray).size = 1 := rfl
  have hok : joinOk (splitF s c) ⟨#[c]⟩ = true := by
    rw [joinOk, dif_pos h1]
    simp only [Bool.and_eq_true, decide_eq_true_eq]
    refine ⟨⟨?_, ?_⟩, ?_⟩
    · intro e
      have := splitF_len s c
      rw [e] at this; simp at this
    · rw [allB_true]
      intro i hi
      rw [joinAt_of hi]
      have := split_free s c _ (List.getElem_mem hi)
      show (!hasB (splitF s c)[i] c) = true
      rw [this]; rfl
    · rw [h1] at hl; omega
  rw [joinF, if_pos hok, split_join]
end Go.Proofs.YtbgfdhghhaoabaaDoor
