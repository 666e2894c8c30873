/- ParsePaper, plain Lean: what either side reads off a text, that both read the paper whose text it is, and that no drawn text is of the one kind at which the program panics. -/
import Derived.Test.YtmnlkcclcnnhmaaGreatDoorPaperTxt
import Derived.Test.YtmnlkcclcnnhmaaGreatDoorReadM
import Derived.Test.YtmnlkcclcnnhmaaGreatDoorSplitM
import Derived.Lib.SlicesS
import Derived.Lib.Strings
namespace Go.Proofs.YtmnlkcclcnnhmaaGreatDoor
open Go.RowKit

theorem readR_num {n : Int} (h1 : -999999 ≤ n) (h2 : n ≤ 999999) : readR (numF n) = (n, true) := by
  obtain ⟨h3, h4⟩ := read_num h1 h2
  rw [readR, if_pos h4, h3]
theorem readR_dec {u : Nat} (h : u ≤ 999999) : readR (decB u) = ((u : Int), true) := by
  rw [← numF_nonneg]; exact readR_num (by omega) (by omega)
theorem of_data {z : ByteArray} {l : List UInt8} (h : z.data.toList = l) : z = ⟨l.toArray⟩ := by
  obtain ⟨⟨m⟩⟩ := z
  simp at h; rw [h]
/-- the parts of a text, given as lists -/
theorem splitF_of {s : ByteArray} {c : UInt8} {ps : List (List UInt8)} (h : splitA c [] s.data.toList = ps) : splitF s c = ps.map (fun l => ⟨l.toArray⟩) := by
  have h2 := splitF_data s c
  rw [h] at h2
  rw [← h2, List.map_map]
  symm
  have : ∀ z ∈ splitF s c, ((fun l => (⟨l.toArray⟩ : ByteArray)) ∘ (fun z : ByteArray => z.data.toList)) z = z := fun z _ => (of_data rfl).symm
  rw [List.map_congr_left this]
  simp
theorem not_dig {c : UInt8} (h : ¬ isDig c) (u : Nat) : c ∉ Lib.decDigits u := fun hm => h (dec_digs u c hm)
theorem ba_data (l : List UInt8) : (⟨l.toArray⟩ : ByteArray).data.toList = l := by simp
theorem ba_size (l : List UInt8) : (⟨l.toArray⟩ : ByteArray).size = l.length := by show l.toArray.size = _; simp
theorem ba_ext {a b : ByteArray} (h : a.data.toList = b.data.toList) : a = b := ByteArray.ext (Array.ext' h)
theorem ba_ne {a b : ByteArray} {c : UInt8} (h : c ∈ a.data.toList) (h2 : c ∉ b.data.toList) : a ≠ b := fun e => h2 (e ▸ h)
theorem num_dec {n : Int} (h : 0 ≤ n) : numF n = decB n.toNat := by
  have := numF_nonneg n.toNat
  rwa [show ((n.toNat : Nat) : Int) = n by omega] at this
theorem dec_one {u : Nat} (h : u < 10) : Lib.decDigits u = [UInt8.ofNat (48 + u)] := by rw [Lib.decDigits, dif_pos h]
theorem splitA_le (c : UInt8) : ∀ (l cur p : List UInt8), p ∈ splitA c cur l → p.length ≤ cur.length + l.length
  | [], cur, p, h => by
    rw [splitA, List.mem_singleton] at h; rw [h]; simp
  | x :: xs, cur, p, h => by
    rw [splitA] at h
    split at h
    · rcases List.mem_cons.1 h with e | e
      · rw [e]; simp
      · have := splitA_le c xs [] p e
        simp at this ⊢; omega
    · have := splitA_le c xs _ p h
      simp at this ⊢; omega
theorem sz_split {s : ByteArray} {c : UInt8} {z : ByteArray} (h : z ∈ splitF s c) : z.size ≤ s.size := by
  have hm : z.data.toList ∈ (splitF s c).map (·.data.toList) := List.mem_map.2 ⟨z, h, rfl⟩
  rw [splitF_data] at hm
  have := splitA_le c _ _ _ hm
  have h1 : z.data.toList.length = z.size := by simp
  have h2 : s.data.toList.length = s.size := by simp
  simp only [List.length_nil] at this
  omega
theorem splitA_count (c : UInt8) : ∀ (l cur : List UInt8), (splitA c cur l).length = l.count c + 1
  | [], cur => by simp [splitA]
  | x :: xs, cur => by
    rw [splitA]
    split
    · rename_i h
      have := splitA_count c xs []
      rw [List.length_cons, this]
      have hx : x = c := by simpa using h
      subst hx
      simp
    · rename_i h
      rw [splitA_count c xs _]
      have hx : ¬ x = c := by simpa using h
      rw [List.count_cons_of_ne (by simpa using hx)]
theorem splitA_in (c y : UInt8) : ∀ (l cur p : List UInt8), p ∈ splitA c cur l → y ∈ p → y ∈ cur ∨ y ∈ l
  | [], cur, p, h, hy => by
    rw [splitA, List.mem_singleton] at h; rw [h] at hy; exact .inl hy
  | x :: xs, cur, p, h, hy => by
    rw [splitA] at h
    split at h
    · rcases List.mem_cons.1 h with e | e
      · rw [e] at hy; exact .inl hy
      · rcases splitA_in c y xs [] p e hy with h1 | h1
        · cases h1
        · exact .inr (List.mem_cons_of_mem _ h1)
    · rcases splitA_in c y xs _ p h hy with h1 | h1
      · rcases List.mem_append.1 h1 with h2 | h2
        · exact .inl h2
        · rw [List.mem_singleton.1 h2]; exact .inr (by simp)
      · exact .inr (List.mem_cons_of_mem _ h1)
abbrev wmk3 : ByteArray := ⟨#[119, 109, 107]⟩
abbrev laid4 : ByteArray := ⟨#[108, 97, 105, 100]⟩
abbrev um2 : ByteArray := ⟨#[117, 109]⟩
abbrev t1B : ByteArray := ⟨#[116]⟩
def trimU (s : ByteArray) : ByteArray := ⟨(Lib.trimSuffix s.data.toList um2.data.toList).toArray⟩
def trimT (s : ByteArray) : ByteArray := ⟨(Lib.trimPrefix s.data.toList t1B.data.toList).toArray⟩
theorem trimU_hit (l : List UInt8) : trimU ⟨(l ++ [117, 109]).toArray⟩ = ⟨l.toArray⟩ := by
  have h : Lib.hasSuffix (l ++ [117, 109]) [117, 109] = true := by
    unfold Lib.hasSuffix
    rw [List.isSuffixOf_iff_suffix]; exact List.suffix_append _ _
  rw [trimU, ba_data, show um2.data.toList = [117, 109] from rfl, Lib.trimSuffix, if_pos h]
  simp
theorem trimT_hit (l : List UInt8) : trimT ⟨(116 :: l).toArray⟩ = ⟨l.toArray⟩ := by
  have h : Lib.hasPrefix (116 :: l) [116] = true := by simp [Lib.hasPrefix]
  rw [trimT, ba_data, show t1B.data.toList = [116] from rfl, Lib.trimPrefix, if_pos h]
  simp
theorem trimU_le (s : ByteArray) : (trimU s).size ≤ s.size := by
  have h2 : s.data.toList.length = s.size := by simp
  rw [trimU, ba_size, Lib.trimSuffix]
  split
  · simp
  · omega
theorem trimT_le (s : ByteArray) : (trimT s).size ≤ s.size := by
  have h2 : s.data.toList.length = s.size := by simp
  rw [trimT, ba_size, Lib.trimPrefix]
  split
  · simp
  · omega
/-- a watermark is named: wmk stands last but one, and not earlier -/
def markB (l : List ByteArray) : Bool := decide (0 ≤ Lib.idxOfS l wmk3) && decide (Lib.idxOfS l wmk3 = (l.length : Int) - 2)
/-- the paper that the program reads off the words -/
def implP : List ByteArray → Option PaperT
  | x0 :: x1 :: x2 :: r =>
    if (readR x0).2 = true ∧ (readR (trimU x1)).2 = true ∧ (readR (trimT x2)).2 = true then
      some ⟨(readR x0).1, (readR (trimU x1)).1, (readR (trimT x2)).1, if markB (x0 :: x1 :: x2 :: r) = true then r.getD (r.length - 1) .empty else .empty, if markB (x0 :: x1 :: x2 :: r) = true then (r.getD 0 .empty).toList == laid4.toList else Lib.containsS r laid4⟩
    else none
  | _ => none
/-- the paper that the reference reads off the words -/
def specP (s : ByteArray) : List ByteArray → Option PaperT
  | x0 :: x1 :: x2 :: r =>
    if s.size ≤ 60 ∧ r.length ≤ 3 ∧ 3 ≤ x1.size ∧ x2.size = 2 then
      some ⟨(readR x0).1, (readR (x1.extract 0 (x1.size - 2))).1, (readR (x2.extract 1 x2.size)).1, if 1 < r.length then r.getD (r.length - 1) .empty else .empty, decide (0 < r.length) && (r.getD 0 .empty).toList == laid4.toList⟩
    else none
  | _ => none
/-- the last look: valid, and its text is the one given -/
def finP (s : ByteArray) : Option PaperT → PaperT × Bool
  | some c => if paperOk c = true ∧ pt3 c = s then (c, true) else (paper0, false)
  | none => (paper0, false)
theorem empty_of {m : ByteArray} (h : m.toList.isEmpty = true) : m = .empty := by
  rw [Lib.toList_data] at h
  apply ba_ext
  simpa using h
theorem word_in {m : ByteArray} (h : wordB m = true) : (∀ x ∈ m.data.toList, 97 ≤ x.toNat ∧ x.toNat ≤ 122) ∧ m.size ≤ 10 := by
  simp only [wordB, Bool.and_eq_true, inB_true] at h
  refine ⟨fun x hx => ?_, by omega⟩
  obtain ⟨i, hi, rfl⟩ := List.getElem_of_mem hx
  have hi2 : i < m.size := by simpa using hi
  have := allB_true.1 h.1 i hi2
  rw [letB_of hi2] at this
  simp only [Bool.and_eq_true, decide_eq_true_eq] at this
  have e : m.data.toList[i] = m[i] := by simp [ByteArray.getElem_eq_getElem_data]
  rw [e]; exact this
theorem mark_of {c : PaperT} (h : paperOk c = true) : c.mark.toList.isEmpty = true ∨ (c.mark.toList.isEmpty = false ∧ wordB c.mark = true) := by
  simp only [paperOk, Bool.and_eq_true, Bool.or_eq_true] at h
  cases e : c.mark.toList.isEmpty
  · rcases h.2 with h2 | h2
    · rw [emptyB, e] at h2; cases h2
    · exact .inr ⟨rfl, h2⟩
  · exact .inl rfl
/-- the words of a paper's text -/
def partsL (c : PaperT) : List (List UInt8) :=
  [Lib.decDigits c.id.toNat, Lib.decDigits c.thick.toNat ++ [117, 109], 116 :: Lib.decDigits c.tint.toNat] ++ (if c.laid = true then [[108, 97, 105, 100]] else []) ++ (if c.mark.toList.isEmpty = true then [] else [[119, 109, 107], c.mark.data.toList])
theorem no32 (u : Nat) : (32 : UInt8) ∉ Lib.decDigits u := not_dig (by unfold isDig; decide) u
theorem pt1_data {c : PaperT} (h : PTextIn c) : (pt1 c).data.toList = Lib.decDigits c.id.toNat ++ 32 :: ((Lib.decDigits c.thick.toNat ++ [117, 109]) ++ 32 :: (116 :: Lib.decDigits c.tint.toNat)) := by
  have e1 := num_dec (n := c.id) (by have := h.i; omega)
  have e2 := num_dec (n := c.thick) (by have := h.f; omega)
  have e3 := num_dec (n := c.tint) (by have := h.k; omega)
  simp [pt1, ByteArray.data_append, e1, e2, e3, decB]
theorem splitA_pt (c : PaperT) (hok : paperOk c = true) : splitA 32 [] (pt3 c).data.toList = partsL c := by
  have h := ptextIn_of hok
  have h1 := pt1_data h
  have n2 : (32 : UInt8) ∉ Lib.decDigits c.thick.toNat ++ [117, 109] := by
    rw [List.mem_append]
    exact fun h => h.elim (no32 _) (by decide)
  have n3 : (32 : UInt8) ∉ 116 :: Lib.decDigits c.tint.toNat := by
    rw [List.mem_cons]
    exact fun h => h.elim (by decide) (no32 _)
  have n4 : (32 : UInt8) ∉ ([108, 97, 105, 100] : List UInt8) := by decide
  have n5 : (32 : UInt8) ∉ ([119, 109, 107] : List UInt8) := by decide
  rcases mark_of hok with he | ⟨he, hw⟩
  · cases hl : c.laid
    · have e : (pt3 c).data.toList = Lib.decDigits c.id.toNat ++ 32 :: ((Lib.decDigits c.thick.toNat ++ [117, 109]) ++ 32 :: (116 :: Lib.decDigits c.tint.toNat)) := by
        rw [pt3, if_pos he, pt2, hl, if_neg (by simp), h1]
      rw [e, splitA_at (no32 _), splitA_at n2, splitA_none n3, partsL, hl, he]
      simp
    · have e : (pt3 c).data.toList = Lib.decDigits c.id.toNat ++ 32 :: ((Lib.decDigits c.thick.toNat ++ [117, 109]) ++ 32 :: ((116 :: Lib.decDigits c.tint.toNat) ++ 32 :: [108, 97, 105, 100])) := by
        rw [pt3, if_pos he, pt2, hl, if_pos rfl, ByteArray.data_append, Array.toList_append, h1]
        simp
      rw [e, splitA_at (no32 _), splitA_at n2, splitA_at n3, splitA_none n4, partsL, hl, he]
      simp
  · have n6 : (32 : UInt8) ∉ c.mark.data.toList := fun hm => by
      have := (word_in hw).1 _ hm
      simp at this
    cases hl : c.laid
    · have e : (pt3 c).data.toList = Lib.decDigits c.id.toNat ++ 32 :: ((Lib.decDigits c.thick.toNat ++ [117, 109]) ++ 32 :: ((116 :: Lib.decDigits c.tint.toNat) ++ 32 :: ([119, 109, 107] ++ 32 :: c.mark.data.toList))) := by
        rw [pt3, if_neg (by rw [he]; simp), pt2, hl, if_neg (by simp), ByteArray.data_append, Array.toList_append, ByteArray.data_append, Array.toList_append, h1]
        simp
      rw [e, splitA_at (no32 _), splitA_at n2, splitA_at n3, splitA_at n5, splitA_none n6, partsL, hl, he]
      simp
    · have e : (pt3 c).data.toList = Lib.decDigits c.id.toNat ++ 32 :: ((Lib.decDigits c.thick.toNat ++ [117, 109]) ++ 32 :: ((116 :: Lib.decDigits c.tint.toNat) ++ 32 :: ([108, 97, 105, 100] ++ 32 :: ([119, 109, 107] ++ 32 :: c.mark.data.toList)))) := by
        rw [pt3, if_neg (by rw [he]; simp), pt2, hl, if_pos rfl, ByteArray.data_append, Array.toList_append, ByteArray.data_append, Array.toList_append, ByteArray.data_append, Array.toList_append, h1]
        simp
      rw [e, splitA_at (no32 _), splitA_at n2, splitA_at n3, splitA_at n4, splitA_at n5, splitA_none n6, partsL, hl, he]
      simp
/-- the words of a paper's text -/
def partsB (c : PaperT) : List ByteArray :=
  decB c.id.toNat :: ⟨(Lib.decDigits c.thick.toNat ++ [117, 109]).toArray⟩ :: ⟨(116 :: Lib.decDigits c.tint.toNat).toArray⟩ :: ((if c.laid = true then [laid4] else []) ++ (if c.mark.toList.isEmpty = true then [] else [wmk3, c.mark]))
theorem split_pt (c : PaperT) (hok : paperOk c = true) : splitF (pt3 c) 32 = partsB c := by
  rw [splitF_of (splitA_pt c hok), partsL, partsB]
  cases c.laid <;> cases c.mark.toList.isEmpty <;> simp [decB, ← of_data (z := c.mark) rfl]
theorem idx_at (x : ByteArray) (l : List ByteArray) (i : Nat) : Lib.idxFromS (x :: l) x i = (i : Int) := by rw [Lib.idxFromS, if_pos rfl]
theorem idx_no {z x : ByteArray} (h : z ≠ x) (l : List ByteArray) (i : Nat) : Lib.idxFromS (z :: l) x i = Lib.idxFromS l x (i + 1) := by rw [Lib.idxFromS, if_neg h]
theorem idx_nil (x : ByteArray) (i : Nat) : Lib.idxFromS [] x i = -1 := rfl
theorem laid_ne : laid4 ≠ wmk3 := by decide
theorem implP_text (c : PaperT) (hok : paperOk c = true) : implP (splitF (pt3 c) 32) = some c := by
  have h := ptextIn_of hok
  obtain ⟨⟨i1, i2⟩, ⟨f1, f2⟩, ⟨k1, k2⟩, _⟩ := h
  have r0 := readR_dec (u := c.id.toNat) (by omega)
  have r1 := readR_dec (u := c.thick.toNat) (by omega)
  have r2 := readR_dec (u := c.tint.toNat) (by omega)
  have d0 : decB c.id.toNat ≠ wmk3 := (ba_ne (c := 119) (by simp) (not_dig (by unfold isDig; decide) c.id.toNat)).symm
  have d1 : (⟨(Lib.decDigits c.thick.toNat ++ [117, 109]).toArray⟩ : ByteArray) ≠ wmk3 := ba_ne (c := 117) (by simp) (by decide)
  have d2 : (⟨(116 :: Lib.decDigits c.tint.toNat).toArray⟩ : ByteArray) ≠ wmk3 := ba_ne (c := 116) (by simp) (by decide)
  have e0 : ((c.id.toNat : Nat) : Int) = c.id := by omega
  have e1 : ((c.thick.toNat : Nat) : Int) = c.thick := by omega
  have e2 : ((c.tint.toNat : Nat) : Int) = c.tint := by omega
  have t1 : trimU ⟨(Lib.decDigits c.thick.toNat ++ [117, 109]).toArray⟩ = decB c.thick.toNat := trimU_hit _
  have t2 : trimT ⟨(116 :: Lib.decDigits c.tint.toNat).toArray⟩ = decB c.tint.toNat := trimT_hit _
  have l1 : (wmk3.toList == laid4.toList) = false := (Lib.bytes_beq_false_iff _ _).2 laid_ne.symm
  have l2 : (laid4.toList == laid4.toList) = true := (Lib.bytes_beq_iff _ _).2 rfl
  have c1 : Lib.containsS [laid4] laid4 = true := (Lib.containsS_iff _ _).2 (by simp)
  have c2 : Lib.containsS [] laid4 = false := by decide
  rw [split_pt c hok, partsB, implP, t1, t2, r0, r1, r2]
  simp only [and_self, if_true, e0, e1, e2]
  congr 1
  rcases mark_of hok with he | ⟨he, hw⟩
  · have hm := empty_of he
    cases hl : c.laid
    · have hb : markB [decB c.id.toNat, ⟨(Lib.decDigits c.thick.toNat ++ [117, 109]).toArray⟩, ⟨(116 :: Lib.decDigits c.tint.toNat).toArray⟩] = false := by
        rw [markB, Lib.idxOfS, idx_no d0, idx_no d1, idx_no d2, idx_nil]; rfl
      simp only [he, if_true, Bool.false_eq_true, if_false, List.append_nil, hb, c2]
      cases c; simp at hl hm ⊢; exact ⟨hm.symm, hl⟩
    · have hb : markB [decB c.id.toNat, ⟨(Lib.decDigits c.thick.toNat ++ [117, 109]).toArray⟩, ⟨(116 :: Lib.decDigits c.tint.toNat).toArray⟩, laid4] = false := by
        rw [markB, Lib.idxOfS, idx_no d0, idx_no d1, idx_no d2, idx_no laid_ne, idx_nil]; rfl
      simp only [he, if_true, Bool.false_eq_true, if_false, List.append_nil, hb, c1]
      cases c; simp at hl hm ⊢; exact ⟨hm.symm, hl⟩
  · cases hl : c.laid
    · have hb : markB [decB c.id.toNat, ⟨(Lib.decDigits c.thick.toNat ++ [117, 109]).toArray⟩, ⟨(116 :: Lib.decDigits c.tint.toNat).toArray⟩, wmk3, c.mark] = true := by
        rw [markB, Lib.idxOfS, idx_no d0, idx_no d1, idx_no d2, idx_at]; rfl
      simp only [he, Bool.false_eq_true, if_false, List.nil_append, hb, if_true]
      show (⟨c.id, c.thick, c.tint, c.mark, wmk3.toList == laid4.toList⟩ : PaperT) = c
      rw [l1]
      cases c; simp at hl ⊢; exact hl
    · have hb : markB [decB c.id.toNat, ⟨(Lib.decDigits c.thick.toNat ++ [117, 109]).toArray⟩, ⟨(116 :: Lib.decDigits c.tint.toNat).toArray⟩, laid4, wmk3, c.mark] = true := by
        rw [markB, Lib.idxOfS, idx_no d0, idx_no d1, idx_no d2, idx_no laid_ne, idx_at]; rfl
      simp only [he, Bool.false_eq_true, if_false, List.cons_append, List.nil_append, hb, if_true]
      show (⟨c.id, c.thick, c.tint, c.mark, laid4.toList == laid4.toList⟩ : PaperT) = c
      rw [l2]
      cases c; simp at hl ⊢; exact hl
theorem pt3_size (c : PaperT) (hok : paperOk c = true) : 2 ≤ (pt3 c).size ∧ (pt3 c).size ≤ 60 := by
  obtain ⟨⟨i1, i2⟩, ⟨f1, f2⟩, ⟨k1, k2⟩, hmk⟩ := ptextIn_of hok
  have a1 := numF_size (n := c.id) (by omega) (by omega)
  have a2 := numF_size (n := c.thick) (by omega) (by omega)
  have a3 := numF_size (n := c.tint) (by omega) (by omega)
  have b1 : spB.size = 1 := rfl
  have b2 : umB.size = 4 := rfl
  have b3 : laidB.size = 5 := rfl
  have b4 : wmkB.size = 5 := rfl
  have hm : c.mark.size ≤ 10 := by
    rcases mark_of hok with he | ⟨_, hw⟩
    · rw [empty_of he]; decide
    · exact (word_in hw).2
  unfold pt3 pt2 pt1
  split <;> split <;> simp only [ByteArray.size_append] <;> omega
theorem specP_text (c : PaperT) (hok : paperOk c = true) : specP (pt3 c) (splitF (pt3 c) 32) = some c := by
  have hsz := (pt3_size c hok).2
  have h := ptextIn_of hok
  obtain ⟨⟨i1, i2⟩, ⟨f1, f2⟩, ⟨k1, k2⟩, _⟩ := h
  have r0 := readR_dec (u := c.id.toNat) (by omega)
  have r1 := readR_dec (u := c.thick.toNat) (by omega)
  have r2 := readR_dec (u := c.tint.toNat) (by omega)
  have e0 : ((c.id.toNat : Nat) : Int) = c.id := by omega
  have e1 : ((c.thick.toNat : Nat) : Int) = c.thick := by omega
  have e2 : ((c.tint.toNat : Nat) : Int) = c.tint := by omega
  have l1 : (wmk3.toList == laid4.toList) = false := (Lib.bytes_beq_false_iff _ _).2 laid_ne.symm
  have l2 : (laid4.toList == laid4.toList) = true := (Lib.bytes_beq_iff _ _).2 rfl
  have hp : 0 < (Lib.decDigits c.thick.toNat).length := List.length_pos_iff.2 (dec_ne _)
  have z1 : (⟨(Lib.decDigits c.thick.toNat ++ [117, 109]).toArray⟩ : ByteArray).size = (Lib.decDigits c.thick.toNat).length + 2 := by rw [ba_size]; simp
  have z2 : (⟨(116 :: Lib.decDigits c.tint.toNat).toArray⟩ : ByteArray).size = 2 := by rw [ba_size, dec_one (by omega)]; rfl
  have x1 : (⟨(Lib.decDigits c.thick.toNat ++ [117, 109]).toArray⟩ : ByteArray).extract 0 ((⟨(Lib.decDigits c.thick.toNat ++ [117, 109]).toArray⟩ : ByteArray).size - 2) = decB c.thick.toNat := by
    apply ba_ext
    rw [Lib.extract_data, ba_data, z1]
    simp [decB]
  have x2 : (⟨(116 :: Lib.decDigits c.tint.toNat).toArray⟩ : ByteArray).extract 1 (⟨(116 :: Lib.decDigits c.tint.toNat).toArray⟩ : ByteArray).size = decB c.tint.toNat := by
    apply ba_ext
    rw [Lib.extract_data, ba_data, z2, dec_one (by omega)]
    simp [decB, dec_one (u := c.tint.toNat) (by omega)]
  rw [split_pt c hok, partsB, specP, x1, x2, r0, r1, r2]
  rw [if_pos ⟨hsz, by cases c.laid <;> cases c.mark.toList.isEmpty <;> simp, by omega, z2⟩]
  simp only [e0, e1, e2]
  congr 1
  rcases mark_of hok with he | ⟨he, hw⟩
  · have hm := empty_of he
    cases hl : c.laid
    · simp only [he, if_true, Bool.false_eq_true, if_false, List.append_nil]
      show (⟨c.id, c.thick, c.tint, .empty, false⟩ : PaperT) = c
      cases c; simp at hl hm ⊢; exact ⟨hm.symm, hl⟩
    · simp only [he, if_true, List.append_nil]
      show (⟨c.id, c.thick, c.tint, .empty, true && laid4.toList == laid4.toList⟩ : PaperT) = c
      rw [l2]
      cases c; simp at hl hm ⊢; exact ⟨hm.symm, hl⟩
  · cases hl : c.laid
    · simp only [he, Bool.false_eq_true, if_false, List.nil_append]
      show (⟨c.id, c.thick, c.tint, c.mark, true && wmk3.toList == laid4.toList⟩ : PaperT) = c
      rw [l1]
      cases c; simp at hl ⊢; exact hl
    · simp only [he, Bool.false_eq_true, if_false, if_true, List.cons_append, List.nil_append]
      show (⟨c.id, c.thick, c.tint, c.mark, true && laid4.toList == laid4.toList⟩ : PaperT) = c
      rw [l2]
      cases c; simp at hl ⊢; exact hl
theorem finP_eq (s : ByteArray) : finP s (implP (splitF s 32)) = finP s (specP s (splitF s 32)) := by
  have key : ∀ (o p : Option PaperT), (∀ c, paperOk c = true → pt3 c = s → p = some c) → finP s o = (paper0, false) ∨ finP s o = finP s p := by
    intro o p h
    cases o with
    | none => exact .inl rfl
    | some c =>
      by_cases hc : paperOk c = true ∧ pt3 c = s
      · right; rw [h c hc.1 hc.2]
      · left; rw [finP, if_neg hc]
  have h1 := key (implP (splitF s 32)) (specP s (splitF s 32)) (fun c h1 h2 => by rw [← h2]; exact specP_text c h1)
  have h2 := key (specP s (splitF s 32)) (implP (splitF s 32)) (fun c h1 h2 => by rw [← h2]; exact implP_text c h1)
  rcases h1 with h1 | h1
  · rcases h2 with h2 | h2
    · rw [h1, h2]
    · exact h2.symm
  · exact h1
theorem finP_back {c : PaperT} (hok : paperOk c = true) : finP (pt3 c) (implP (splitF (pt3 c) 32)) = (c, true) := by
  rw [implP_text c hok, finP, if_pos ⟨hok, rfl⟩]
/-- the one kind of text at which the program panics: three words, wmk in the middle -/
def Bad (s : ByteArray) : Prop := ∃ x0 x2, splitF s 32 = [x0, wmk3, x2]
/-- what keeps a text from that kind -/
def Good (k : Nat) (s : ByteArray) : Prop := (119 : UInt8) ∉ s.data.toList ∨ k ≤ s.data.toList.count 32
theorem Good.not_bad {s : ByteArray} (h : Good 3 s) : ¬ Bad s := by
  rintro ⟨x0, x2, he⟩
  have h1 := splitF_data s 32
  rw [he] at h1
  simp only [List.map_cons, List.map_nil] at h1
  have h2 := splitA_count 32 s.data.toList []
  rw [← h1] at h2
  simp only [List.length_cons, List.length_nil] at h2
  rcases h with h | h
  · have := splitA_in 32 119 s.data.toList [] wmk3.data.toList (by rw [← h1]; simp) (by decide)
    rcases this with h3 | h3
    · cases h3
    · exact h h3
  · omega
theorem Good.mono {s : ByteArray} {j k : Nat} (h : Good j s) (hk : k ≤ j) : Good k s := h.imp id (fun h => Nat.le_trans hk h)
theorem Good.empty (k : Nat) : Good k .empty := .inl (show (119 : UInt8) ∉ ([] : List UInt8) from List.not_mem_nil)
theorem Good.text {c : PaperT} (hok : paperOk c = true) : Good 4 (pt3 c) := by
  have h2 := splitA_count 32 (pt3 c).data.toList []
  have h3 := splitA_pt c hok
  rw [h3] at h2
  rcases mark_of hok with he | ⟨he, hw⟩
  · left
    intro hm
    have h1 := pt1_data (ptextIn_of hok)
    have n1 := fun u => not_dig (c := 119) (by unfold isDig; decide) u
    rw [pt3, if_pos he, pt2] at hm
    have hp1 : (119 : UInt8) ∉ (pt1 c).data.toList := by
      rw [h1]
      simp [n1]
    split at hm
    · rw [ByteArray.data_append, Array.toList_append, List.mem_append] at hm
      exact hm.elim hp1 (by decide)
    · exact hp1 hm
  · right
    rw [partsL, he] at h2
    generalize (pt3 c).data.toList.count 32 = n at h2 ⊢
    cases hl : c.laid <;> rw [hl] at h2 <;> simp at h2 <;> omega
theorem count_cut (l : List UInt8) (a : UInt8) (k : Nat) : l.count a ≤ (l.take k).count a + (l.drop (k + 1)).count a + 1 := by
  by_cases h : k < l.length
  · have e : l = l.take k ++ (l[k] :: l.drop (k + 1)) := by
      rw [← List.drop_eq_getElem_cons h, List.take_append_drop]
    have := congrArg (List.count a) e
    rw [List.count_append, List.count_cons] at this
    split at this <;> omega
  · rw [List.take_of_length_le (by omega)]; omega
/-- a byte more -/
theorem Good.ins {s t : ByteArray} (h : Good 4 s) (ht : (119 : UInt8) ∉ t.data.toList) (x : Nat) : Good 3 (s.extract 0 x ++ t ++ s.extract x s.size) := by
  have e : (s.extract 0 x ++ t ++ s.extract x s.size).data.toList = s.data.toList.take x ++ t.data.toList ++ s.data.toList.drop x := by
    rw [ByteArray.data_append, Array.toList_append, ByteArray.data_append, Array.toList_append, Lib.extract_data, Lib.extract_data]
    have : (s.data.toList.drop x).take (s.size - x) = s.data.toList.drop x := List.take_of_length_le (by simp)
    rw [this]; simp
  rcases h with h | h
  · left
    rw [e, List.mem_append, List.mem_append]
    rintro ((h1 | h1) | h1)
    · exact h (List.mem_of_mem_take h1)
    · exact ht h1
    · exact h (List.mem_of_mem_drop h1)
  · right
    rw [e, List.count_append, List.count_append]
    have := congrArg (List.count 32) (List.take_append_drop x s.data.toList)
    rw [List.count_append] at this
    omega
/-- another byte -/
theorem Good.put {s t : ByteArray} (h : Good 4 s) (ht : (119 : UInt8) ∉ t.data.toList) (x : Nat) : Good 3 (s.extract 0 x ++ t ++ s.extract (x + 1) s.size) := by
  have e : (s.extract 0 x ++ t ++ s.extract (x + 1) s.size).data.toList = s.data.toList.take x ++ t.data.toList ++ s.data.toList.drop (x + 1) := by
    rw [ByteArray.data_append, Array.toList_append, ByteArray.data_append, Array.toList_append, Lib.extract_data, Lib.extract_data]
    have : (s.data.toList.drop (x + 1)).take (s.size - (x + 1)) = s.data.toList.drop (x + 1) := List.take_of_length_le (by simp)
    rw [this]; simp
  rcases h with h | h
  · left
    rw [e, List.mem_append, List.mem_append]
    rintro ((h1 | h1) | h1)
    · exact h (List.mem_of_mem_take h1)
    · exact ht h1
    · exact h (List.mem_of_mem_drop h1)
  · right
    rw [e, List.count_append, List.count_append]
    have := count_cut s.data.toList 32 x
    omega
/-- a byte less -/
theorem Good.del {s : ByteArray} (h : Good 4 s) (x : Nat) : Good 3 (s.extract 0 x ++ s.extract (x + 1) s.size) := by
  have e : s.extract 0 x ++ s.extract (x + 1) s.size = s.extract 0 x ++ .empty ++ s.extract (x + 1) s.size := by
    apply ba_ext; simp [ByteArray.data_append]
  rw [e]
  exact h.put (show (119 : UInt8) ∉ ([] : List UInt8) from List.not_mem_nil) x
end Go.Proofs.YtmnlkcclcnnhmaaGreatDoor
