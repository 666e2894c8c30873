/- NearestPaper: both sides compute one value. -/
import Derived.Test.YtolajlkijeaacaaPaperG
namespace Go.Proofs.Ytolajlkijeaacaa
open Go.RowKit

theorem papersOk_len {zs : List PaperT} (h : papersOk zs = true) : zs.length ≤ 10 := by
  simp only [papersOk, Bool.and_eq_true, decide_eq_true_eq] at h; exact h.2
theorem papersOk_at {zs : List PaperT} (h : papersOk zs = true) {k : Nat} (hk : k < zs.length) : paperOk zs[k] = true := by
  simp only [papersOk, Bool.and_eq_true, allB_true] at h
  have := h.1 k hk
  simp only [paperAt, Bool.and_eq_true, paper_getD hk] at this
  exact this.1
theorem paperOk_thick {c : PaperT} (h : paperOk c = true) : 1 ≤ c.thick ∧ c.thick ≤ 300 := by
  simp only [paperOk, Bool.and_eq_true, inB_true] at h; exact h.1.1.2
def offOf (c : PaperT) (th : Int) : Int := max (c.thick - th) (th - c.thick)
def nearTo (zs : List PaperT) (th : Int) : Nat → Int × Int
  | 0 => (0, 301)
  | k + 1 => if offOf (zs.getD k paper0) th < (nearTo zs th k).2 then ((zs.getD k paper0).id, offOf (zs.getD k paper0) th) else nearTo zs th k
def nearAsk (zs : List PaperT) (th : Int) : Bool := papersOk zs && inB th 1 300 && !decide (zs.length = 0)
def nearF (zs : List PaperT) (th : Int) : Int × Int × Bool := if nearAsk zs th = true then ((nearTo zs th zs.length).1, (nearTo zs th zs.length).2, true) else (0, 0, false)
theorem nearTo_bd (zs : List PaperT) (th : Int) (hz : papersOk zs = true) (h1 : 1 ≤ th) (h2 : th ≤ 300) : ∀ k, k ≤ zs.length → 0 ≤ (nearTo zs th k).2 ∧ (nearTo zs th k).2 ≤ 301 ∧ (0 < k → (nearTo zs th k).2 ≤ 299) := by
  intro k
  induction k with
  | zero => intro _; simp [nearTo]
  | succ k ih =>
    intro hk
    have hb := paperOk_thick (papersOk_at hz (show k < zs.length by omega))
    have := ih (by omega)
    rw [nearTo, paper_getD (show k < zs.length by omega)]
    split
    · simp only [offOf] at *; omega
    · rename_i hno; simp only [offOf] at *; omega
theorem int_max {k : IntKind} {a b : Int} (h : a = b) : Value.int k a = .int k b := by rw [h]
end Go.Proofs.Ytolajlkijeaacaa
