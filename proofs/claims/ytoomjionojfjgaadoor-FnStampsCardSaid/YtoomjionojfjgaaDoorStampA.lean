/- Opening an argument: a slice of Stamps. -/
import Derived.Test.YtoomjionojfjgaaDoorArgs
import Derived.Test.YtoomjionojfjgaaDoorStampS
import Derived.ChangeArms
namespace Go.Proofs.YtoomjionojfjgaaDoor
open Go.ChangeShapes Go.WideShapes Go.ChangeAt Go.RowKit Go.Deep

def StampT.Fits (c : StampT) : Prop := -9223372036854775808 ≤ c.id ∧ c.id ≤ 9223372036854775807 ∧ -9223372036854775808 ≤ c.face ∧ c.face ≤ 9223372036854775807 ∧ -9223372036854775808 ≤ c.color ∧ c.color ≤ 9223372036854775807 ∧ -9223372036854775808 ≤ c.year ∧ c.year ≤ 9223372036854775807
instance : Inhabited StampT := ⟨stamp0⟩
structure StampsIn (w : World) (s : Slc) (zs : List StampT) : Prop where
  size : zs.length = s.len
  most : s.len ≤ maxLen
  reads : Reads w s.ad (stamps zs)
  fits : ∀ z ∈ zs, z.Fits
theorem stamps_flat {zs : List StampT} {j : Nat} {u : Value} (h : (stamps zs)[j]? = some u) : ∃ i q, i < zs.length ∧ j = i * 4 + q ∧ ∃ z, zs[i]? = some z ∧ z.cells[q]? = some u := by
  induction zs generalizing j with
  | nil => simp [stamps] at h
  | cons z zs ih =>
    have e : stamps (z :: zs) = z.cells ++ stamps zs := rfl
    have hl : z.cells.length = 4 := rfl
    rw [e, List.getElem?_append] at h
    split at h
    · exact ⟨0, j, by simp, by omega, z, rfl, h⟩
    · rw [hl] at *
      obtain ⟨i, q, hi, hj, z', hz, hq⟩ := ih h
      exact ⟨i + 1, q, by simpa using hi, by omega, z', by simpa using hz, hq⟩
end Go.Proofs.YtoomjionojfjgaaDoor
