/- The first rebuilding is small. -/
import Derived.Test.YtenedmkjbmbapaaBlkB
import Derived.Test.YtenedmkjbmbapaaFirstM
import Derived.Test.YtenedmkjbmbapaaPairS
import Derived.Test.YtenedmkjbmbapaaHeldT
namespace Go.Proofs.Ytenedmkjbmbapaa
open Go.RowKit
theorem leaves_shape : ∀ (zss : List (List ByteArray)) (s : List ByteArray) (ps : List (Int × Int)), ∀ l ∈ leaves zss s ps, l.1.length = ps.length + zss.length ∧ l.2.length = s.length := by
  intro zss
  induction zss with
  | nil =>
    intro s ps l hl
    obtain rfl : l = (ps, s) := by simpa [leaves] using hl
    exact ⟨rfl, rfl⟩
  | cons b bs ih =>
    intro s ps l hl
    rw [show leaves (b :: bs) s ps = (plF s b).flatMap fun p => leaves bs (layR s b p.1 p.2) (ps ++ [p]) from rfl, List.mem_flatMap] at hl
    obtain ⟨p, hp, hl⟩ := hl
    obtain ⟨h1, h2⟩ := ih _ _ l hl
    rw [layR_len hp] at h2
    refine ⟨?_, h2⟩
    rw [h1]; simp; omega
theorem firstR_len (r c : Int) (bs : List BlkT) : (firstR r c (zssB bs)).1.1.length ≤ 4 ∧ (firstR r c (zssB bs)).1.2.length ≤ 5 := by
  unfold firstR
  split
  · rename_i h
    obtain ⟨⟨r1, r2⟩, _, h4, _⟩ := asked_bd h
    have hs := leaves_shape (zssB bs) (blankS r.toNat c.toNat) []
    cases hL : leaves (zssB bs) (blankS r.toNat c.toNat) [] with
    | nil => simp [firstL]
    | cons l L =>
      rw [hL] at hs
      obtain ⟨h1, h2⟩ := hs l (List.mem_cons_self ..)
      rw [blankS_length] at h2
      rw [zssB_length] at h1
      simp only [firstL]
      simp at h1
      omega
  · simp
end Go.Proofs.Ytenedmkjbmbapaa
