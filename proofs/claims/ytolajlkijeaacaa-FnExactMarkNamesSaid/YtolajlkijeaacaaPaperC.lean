/- MatchPapers, PapersWith: both sides collect the same ids. -/
import Derived.Test.YtolajlkijeaacaaPaperG
import Derived.Test.YtolajlkijeaacaaNear
import Derived.Deep.AppendLies
namespace Go.Proofs.Ytolajlkijeaacaa
open Go.RowKit

def idsToPaper (p : PaperT → Bool) (zs : List PaperT) (k : Nat) : List Int := ((zs.take k).filter p).map (·.id)
def idsOfPaper (p : PaperT → Bool) (zs : List PaperT) : List Int := (zs.filter p).map (·.id)
theorem idsToPaper_all (p : PaperT → Bool) (zs : List PaperT) : idsToPaper p zs zs.length = idsOfPaper p zs := by simp [idsToPaper, idsOfPaper]
theorem idsToPaper_le (p : PaperT → Bool) (zs : List PaperT) (k : Nat) : (idsToPaper p zs k).length ≤ k := by
  simp only [idsToPaper, List.length_map]
  exact Nat.le_trans (List.length_filter_le _ _) (by simp; omega)
theorem idsToPaper_yes {p : PaperT → Bool} {zs : List PaperT} {k : Nat} (h : k < zs.length) (hp : p zs[k] = true) : idsToPaper p zs (k + 1) = idsToPaper p zs k ++ [zs[k].id] := by
  unfold idsToPaper
  rw [List.take_succ_eq_append_getElem h, List.filter_append]
  simp [hp]
theorem idsToPaper_no {p : PaperT → Bool} {zs : List PaperT} {k : Nat} (h : k < zs.length) (hp : p zs[k] = false) : idsToPaper p zs (k + 1) = idsToPaper p zs k := by
  unfold idsToPaper
  rw [List.take_succ_eq_append_getElem h, List.filter_append]
  simp [hp]
theorem new_second (w : World) (o1 o2 : Obj) : ((w.alloc o1).alloc o2).heap[w.heap.size + 1]? = some o2 := by
  have h := heap_alloc_new (w.alloc o1) o2
  have hs : (w.alloc o1).heap.size = w.heap.size + 1 := by simp
  rw [hs] at h; exact h
def mAsk (zs : List PaperT) (th off tint : Int) : Bool := papersOk zs && inB th 1 300 && inB off 0 50 && inB tint (-1) 9
def mTest (th off tint : Int) (c : PaperT) : Bool := inB c.thick (th - off) (th + off) && (decide (tint = -1) || decide (tint = c.tint))
def wAsk (zs : List PaperT) (m : ByteArray) : Bool := papersOk zs && (m.toList.isEmpty || wordB m)
def wTest (m : ByteArray) (c : PaperT) : Bool := c.mark.toList == m.toList
end Go.Proofs.Ytolajlkijeaacaa
