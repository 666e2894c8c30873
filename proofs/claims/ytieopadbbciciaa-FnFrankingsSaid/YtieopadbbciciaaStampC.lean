/- IssuedBy: both sides collect the same ids. -/
import Derived.Test.YtieopadbbciciaaStampG
import Derived.Deep.AppendLies
namespace Go.Proofs.Ytieopadbbciciaa
open Go.RowKit

theorem stampsOk_len {zs : List StampT} (h : stampsOk zs = true) : zs.length ≤ 12 := by
  simp only [stampsOk, Bool.and_eq_true, decide_eq_true_eq] at h; exact h.2
theorem stampsOk_at {zs : List StampT} (h : stampsOk zs = true) {k : Nat} (hk : k < zs.length) : stampOk zs[k] = true := by
  simp only [stampsOk, Bool.and_eq_true, allB_true] at h
  have := h.1 k hk
  simp only [stampAt, Bool.and_eq_true, stamp_getD hk] at this
  exact this.1
theorem stampOk_bd {c : StampT} (h : stampOk c = true) : (1 ≤ c.id ∧ c.id ≤ 999) ∧ (0 ≤ c.face ∧ c.face ≤ 9999) ∧ (0 ≤ c.color ∧ c.color ≤ 99) ∧ 1840 ≤ c.year ∧ c.year ≤ 2100 := by
  simp only [stampOk, Bool.and_eq_true, inB_true] at h; exact ⟨h.1.1.1, h.1.1.2, h.1.2, h.2⟩
theorem new_secondS (w : World) (o1 o2 : Obj) : ((w.alloc o1).alloc o2).heap[w.heap.size + 1]? = some o2 := by
  have h := heap_alloc_new (w.alloc o1) o2
  have hs : (w.alloc o1).heap.size = w.heap.size + 1 := by simp
  rw [hs] at h; exact h
def idsToStamp (p : StampT → Bool) (zs : List StampT) (k : Nat) : List Int := ((zs.take k).filter p).map (·.id)
def idsOfStamp (p : StampT → Bool) (zs : List StampT) : List Int := (zs.filter p).map (·.id)
theorem idsToStamp_all (p : StampT → Bool) (zs : List StampT) : idsToStamp p zs zs.length = idsOfStamp p zs := by simp [idsToStamp, idsOfStamp]
theorem idsToStamp_le (p : StampT → Bool) (zs : List StampT) (k : Nat) : (idsToStamp p zs k).length ≤ k := by
  simp only [idsToStamp, List.length_map]
  exact Nat.le_trans (List.length_filter_le _ _) (by simp; omega)
theorem idsToStamp_yes {p : StampT → Bool} {zs : List StampT} {k : Nat} (h : k < zs.length) (hp : p zs[k] = true) : idsToStamp p zs (k + 1) = idsToStamp p zs k ++ [zs[k].id] := by
  unfold idsToStamp
  rw [List.take_succ_eq_append_getElem h, List.filter_append]
  simp [hp]
theorem idsToStamp_no {p : StampT → Bool} {zs : List StampT} {k : Nat} (h : k < zs.length) (hp : p zs[k] = false) : idsToStamp p zs (k + 1) = idsToStamp p zs k := by
  unfold idsToStamp
  rw [List.take_succ_eq_append_getElem h, List.filter_append]
  simp [hp]
def yAsk (zs : List StampT) (yr : Int) : Bool := stampsOk zs && inB yr 1840 2100
def yTest (yr : Int) (c : StampT) : Bool := decide (c.year ≤ yr)
end Go.Proofs.Ytieopadbbciciaa
