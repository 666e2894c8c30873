/- Cutting a text at a byte: plain Lean. -/
import Derived.Test.YtmnlkcclcnnhmaaGreatDoorStrS
import Derived.Test.YtmnlkcclcnnhmaaGreatDoorMarkT
import Derived.Lib.SplitLaws
import Derived.Lib.IndexBytes
namespace Go.Proofs.YtmnlkcclcnnhmaaGreatDoor
open Go.RowKit

def splitA (c : UInt8) (cur : List UInt8) : List UInt8 → List (List UInt8)
  | [] => [cur]
  | x :: xs => if x = c then cur :: splitA c [] xs else splitA c (cur ++ [x]) xs
theorem splitA_none {c : UInt8} : ∀ {l cur : List UInt8}, c ∉ l → splitA c cur l = [cur ++ l]
  | [], cur, _ => by simp [splitA]
  | x :: xs, cur, h => by
    have h1 : x ≠ c := fun e => h (by simp [e])
    rw [splitA, if_neg h1, splitA_none (fun hm => h (by simp [hm]))]
    simp
theorem splitA_at {c : UInt8} {r : List UInt8} : ∀ {p cur : List UInt8}, c ∉ p → splitA c cur (p ++ c :: r) = (cur ++ p) :: splitA c [] r
  | [], cur, _ => by simp [splitA]
  | x :: xs, cur, h => by
    have h1 : x ≠ c := fun e => h (by simp [e])
    rw [List.cons_append, splitA, if_neg h1, splitA_at (fun hm => h (by simp [hm]))]
    simp
theorem ib_split (c : UInt8) : ∀ l : List UInt8, (Lib.indexByte l c = -1 ∧ c ∉ l) ∨ ∃ p r, l = p ++ c :: r ∧ c ∉ p ∧ Lib.indexByte l c = (p.length : Int)
  | [] => .inl ⟨rfl, by simp⟩
  | x :: xs => by
    by_cases h : x = c
    · subst h
      exact .inr ⟨[], xs, rfl, by simp, by simp [Lib.indexByte]⟩
    · have hb : (x == c) = false := by simp [h]
      have hne : ¬ c = x := fun e => h e.symm
      rcases ib_split c xs with ⟨h1, h2⟩ | ⟨p, r, h1, h2, h3⟩
      · exact .inl ⟨by simp [Lib.indexByte, hb, h1], by simp [hne, h2]⟩
      · refine .inr ⟨x :: p, r, by rw [h1]; rfl, by simp [hne, h2], ?_⟩
        have h4 : (Lib.indexByte xs c == -1) = false := by rw [h3, beq_eq_false_iff_ne]; omega
        rw [Lib.indexByte, hb]
        simp only [Bool.false_eq_true, if_false, h4]
        rw [h3]; simp
theorem splitK_eq (c : UInt8) : ∀ (n : Nat) (l : List UInt8), l.length ≤ n → Lib.splitK [c] 0 (Lib.count l [c]) l = splitA c [] l
  | n, l, hn => by
    rcases ib_split c l with ⟨h1, h2⟩ | ⟨p, r, h1, h2, h3⟩
    · rw [Lib.count_miss (by rw [Lib.index_one]; exact h1), splitA_none h2]; rfl
    · have hi : Lib.index l [c] = (p.length : Int) := by rw [Lib.index_one]; exact h3
      have hd : l.drop (p.length + 1) = r := by rw [h1]; simp
      have hA : splitA c [] l = p :: splitA c [] r := by rw [h1]; exact splitA_at h2
      rw [Lib.count_hit (by simp) hi, hA]
      rw [show l.drop (p.length + [c].length) = r from hd, Nat.add_comm 1]
      have hm : (Lib.index l [c] == -1) = false := by rw [hi, beq_eq_false_iff_ne]; omega
      rw [Lib.splitK, hm]
      simp only [Bool.false_eq_true, if_false]
      rw [hi]
      have e1 : l.take ((p.length : Int).toNat + 0) = p := by rw [h1]; simp
      have e2 : l.drop ((p.length : Int).toNat + [c].length) = r := hd
      rw [e1, e2]
      have hl : r.length < l.length := by rw [h1]; simp; omega
      cases n with
      | zero => omega
      | succ n => rw [splitK_eq c n r (by omega)]
/-- the parts of a text -/
def splitF (s : ByteArray) (c : UInt8) : List ByteArray := Lib.splitB ⟨#[c]⟩ 0 (Lib.countB s ⟨#[c]⟩) s
theorem splitF_data (s : ByteArray) (c : UInt8) : (splitF s c).map (·.data.toList) = splitA c [] s.data.toList := by
  rw [splitF, Lib.splitB_data]
  exact splitK_eq c _ _ (Nat.le_refl _)
theorem splitF_len (s : ByteArray) (c : UInt8) : (splitF s c).length = Lib.countB s ⟨#[c]⟩ + 1 := Lib.splitB_all ⟨#[c]⟩ (Nat.le_refl 1) 0 _ s rfl
theorem splitF_le (s : ByteArray) (c : UInt8) : (splitF s c).length ≤ s.size + 1 := by
  rw [splitF_len]
  have := Lib.countB_le ⟨#[c]⟩ (Nat.le_refl 1) s.size s (Nat.le_refl _)
  omega
/-- the loop's invariant: the parts laid so far, the open one begins at f -/
def CutAt (s : ByteArray) (c : UInt8) (k f : Nat) (zs : List ByteArray) : Prop := f ≤ k ∧ zs.length ≤ k ∧ splitA c [] s.data.toList = zs.map (·.data.toList) ++ splitA c ((s.data.toList.take k).drop f) (s.data.toList.drop k)
theorem CutAt.zero (s : ByteArray) (c : UInt8) : CutAt s c 0 0 [] := ⟨Nat.le_refl _, Nat.le_refl _, by simp⟩
theorem drop_at {s : ByteArray} {k : Nat} (h : k < s.size) : s.data.toList.drop k = s[k] :: s.data.toList.drop (k + 1) := by
  have hl : k < s.data.toList.length := by simpa using h
  rw [List.drop_eq_getElem_cons hl]; rfl
theorem CutAt.no {s : ByteArray} {c : UInt8} {k f : Nat} {zs : List ByteArray} (h : CutAt s c k f zs) (hk : k < s.size) (hc : s[k] ≠ c) : CutAt s c (k + 1) f zs := by
  obtain ⟨h1, h2, h3⟩ := h
  refine ⟨by omega, by omega, ?_⟩
  rw [h3, drop_at hk, splitA, if_neg hc]
  have hl : k < s.data.toList.length := by simpa using hk
  have e : (s.data.toList.take (k + 1)).drop f = (s.data.toList.take k).drop f ++ [s[k]] := by
    rw [List.take_succ_eq_append_getElem hl, List.drop_append_of_le_length (by rw [List.length_take]; omega)]; rfl
  rw [e]
theorem CutAt.yes {s : ByteArray} {c : UInt8} {k f : Nat} {zs : List ByteArray} (h : CutAt s c k f zs) (hk : k < s.size) (hc : s[k] = c) : CutAt s c (k + 1) (k + 1) (zs ++ [s.extract f k]) := by
  obtain ⟨h1, h2, h3⟩ := h
  refine ⟨Nat.le_refl _, by simp; omega, ?_⟩
  rw [h3, drop_at hk, splitA, if_pos hc]
  have e1 : (s.data.toList.take (k + 1)).drop (k + 1) = [] := List.drop_eq_nil_of_le (by rw [List.length_take]; omega)
  have e2 : (s.extract f k).data.toList = (s.data.toList.take k).drop f := by rw [Lib.extract_data, List.drop_take]
  rw [e1, List.map_append, List.append_assoc, List.map_cons, List.map_nil, e2]
  rfl
theorem CutAt.fin {s : ByteArray} {c : UInt8} {f : Nat} {zs : List ByteArray} (h : CutAt s c s.size f zs) : zs ++ [s.extract f s.size] = splitF s c := by
  obtain ⟨h1, h2, h3⟩ := h
  have hd : s.data.toList.drop s.size = [] := List.drop_eq_nil_of_le (by simp)
  have ht : s.data.toList.take s.size = s.data.toList := List.take_of_length_le (by simp)
  rw [hd, ht, splitA] at h3
  have e2 : (s.extract f s.size).data.toList = s.data.toList.drop f := by rw [Lib.extract_data, ← List.drop_take, ht]
  have e3 : (zs ++ [s.extract f s.size]).map (·.data.toList) = (splitF s c).map (·.data.toList) := by
    rw [splitF_data, h3, List.map_append, List.map_cons, List.map_nil, e2]
  have inj : ∀ (a b : List ByteArray), a.map (·.data.toList) = b.map (·.data.toList) → a = b := by
    intro a
    induction a with
    | nil => intro b h; cases b with | nil => rfl | cons => simp at h
    | cons x a ih =>
      intro b h
      cases b with
      | nil => simp at h
      | cons y b =>
        simp only [List.map_cons, List.cons.injEq] at h
        have hxy : x = y := by
          obtain ⟨⟨lx⟩⟩ := x; obtain ⟨⟨ly⟩⟩ := y
          simp at h; rw [h.1]
        rw [hxy, ih b h.2]
  exact inj _ _ e3
end Go.Proofs.YtmnlkcclcnnhmaaGreatDoor
