/- ParseStamp, plain Lean: what either side reads off a text, and that both read the stamp whose text it is. -/
import Derived.Test.YtoomjionojfjgaaDoorCutS
import Derived.Test.YtoomjionojfjgaaDoorStampTxt
import Derived.Lib.IndexLaws
namespace Go.Proofs.YtoomjionojfjgaaDoor
open Go.RowKit

theorem readR_num {n : Int} (h1 : -999999 ≤ n) (h2 : n ≤ 999999) : readR (numF n) = (n, true) := by
  obtain ⟨h3, h4⟩ := read_num h1 h2
  rw [readR, if_pos h4, h3]
theorem numR_num {n : Int} (h1 : -999999 ≤ n) (h2 : n ≤ 999999) : numR (numF n) = n := by
  rw [numR, readR_num h1 h2]; rfl
theorem readR_dec {u : Nat} (h : u ≤ 999999) : readR (decB u) = ((u : Int), true) := by
  rw [← numF_nonneg]; exact readR_num (by omega) (by omega)
theorem numR_dec {u : Nat} (h : u ≤ 999999) : numR (decB u) = (u : Int) := by
  rw [← numF_nonneg]; exact numR_num (by omega) (by omega)
theorem of_data {z : ByteArray} {l : List UInt8} (h : z.data.toList = l) : z = ⟨l.toArray⟩ := by
  obtain ⟨⟨m⟩⟩ := z
  simp at h; rw [h]
/-- the parts of a text, given as lists -/
theorem splitF_of {s : ByteArray} {c : UInt8} {ps : List (List UInt8)} (h : splitA c [] s.data.toList = ps) : splitF s c = ps.map (fun l => ⟨l.toArray⟩) := by
  have h2 := splitF_data s c
  rw [h] at h2
  rw [← h2, List.map_map]
  symm
  have : ∀ z ∈ splitF s c, ((fun l => (⟨l.toArray⟩ : ByteArray)) ∘ (fun z : ByteArray => z.data.toList)) z = z := fun z _ => (of_data rfl).symm
  rw [List.map_congr_left this]
  simp
theorem not_dig {c : UInt8} (h : ¬ isDig c) (u : Nat) : c ∉ Lib.decDigits u := fun hm => h (dec_digs u c hm)
/-- the first place of a text that begins with a byte that stands nowhere ahead -/
theorem index_at {p r sub : List UInt8} {c : UInt8} (hc : c ∉ p) (hs : sub.head? = some c) (hp : sub.isPrefixOf r = true) : Lib.index (p ++ r) sub = (p.length : Int) := by
  refine Lib.index_first (by simp) ?_ ?_
  · unfold Lib.occAt
    rw [List.drop_left]
    exact hp
  · intro j hj
    unfold Lib.occAt
    rw [List.drop_append_of_le_length (by omega), List.drop_eq_getElem_cons hj, List.cons_append]
    cases sub with
    | nil => cases hs
    | cons d l =>
      simp at hs
      subst hs
      have : (d == p[j]) = false := by
        rw [beq_eq_false_iff_ne]
        intro e
        exact hc (by rw [e]; exact List.getElem_mem hj)
      simp [List.isPrefixOf, this]
theorem cut_at {p r sep : List UInt8} {c : UInt8} (hc : c ∉ p) (hs : sep.head? = some c) : Lib.cut (p ++ sep ++ r) sep = (p, r, true) := by
  have hi : Lib.index (p ++ (sep ++ r)) sep = (p.length : Int) := index_at hc hs (by simp)
  unfold Lib.cut
  rw [List.append_assoc, hi, if_pos (by omega)]
  simp
/-- the value of digits behind each other -/
theorem valL_app (l m : List UInt8) : ∀ acc, valL acc (l ++ m) = valL (valL acc l) m := by
  induction l with
  | nil => intro acc; rfl
  | cons c l ih => intro acc; exact ih _
theorem atoi_digs {l : List UInt8} (hne : l ≠ []) (hd : ∀ c ∈ l, isDig c) (hv : valL 0 l < 1000000) : Lib.atoiAll l = .ok (valL 0 l : Int) := by
  have h3 : Lib.parseMag l = .ok (valL 0 l) := by
    rw [Lib.parseMag, if_neg hne, parse_dig _ _ hd (by omega)]
  cases l with
  | nil => exact absurd rfl hne
  | cons c r =>
    have hc := hd c (by simp)
    unfold isDig at hc
    unfold Lib.atoiAll
    simp only [show ¬ c.toNat = 43 by omega, show ¬ c.toNat = 45 by omega, or_self, if_false]
    rw [h3]
    generalize valL 0 (c :: r) = u at *
    show (if ¬ False ∧ 9223372036854775808 ≤ u then Lib.NumEnd.range else if False ∧ 9223372036854775808 < u then Lib.NumEnd.range else Lib.NumEnd.ok (u : Int)) = Lib.NumEnd.ok (u : Int)
    rw [if_neg (by omega), if_neg (by simp)]
theorem dec_one {u : Nat} (h : u < 10) : Lib.decDigits u = [UInt8.ofNat (48 + u)] := by rw [Lib.decDigits, dif_pos h]
/-- the digits of an amount, without the point -/
def faceL (u : Nat) : List UInt8 := Lib.decDigits (u / 100) ++ [UInt8.ofNat (48 + u / 10 % 10), UInt8.ofNat (48 + u % 10)]
theorem face_data (u : Nat) : (faceF u).data.toList = Lib.decDigits (u / 100) ++ [46] ++ [UInt8.ofNat (48 + u / 10 % 10), UInt8.ofNat (48 + u % 10)] := by
  simp [faceF, ByteArray.data_append, decB, dec_one (show u / 10 % 10 < 10 by omega), dec_one (show u % 10 < 10 by omega)]
theorem face_val (u : Nat) : valL 0 (faceL u) = u := by
  rw [faceL, valL_app, dec_val]
  show 10 * (10 * (u / 100) + ((UInt8.ofNat (48 + u / 10 % 10)).toNat - 48)) + ((UInt8.ofNat (48 + u % 10)).toNat - 48) = u
  rw [dig_ofNat (Nat.mod_lt _ (by decide)), dig_ofNat (Nat.mod_lt _ (by decide))]
  omega
theorem face_digs (u : Nat) : ∀ c ∈ faceL u, isDig c := by
  intro c hc
  rcases List.mem_append.1 hc with h | h
  · exact dec_digs _ c h
  · have hd : ∀ v, v < 10 → isDig (UInt8.ofNat (48 + v)) := fun v hv => by unfold isDig; rw [dig_ofNat hv]; omega
    rcases List.mem_cons.1 h with e | e
    · rw [e]; exact hd _ (Nat.mod_lt _ (by decide))
    · rw [List.mem_singleton.1 e]; exact hd _ (Nat.mod_lt _ (by decide))
theorem face_no (u : Nat) : (32 : UInt8) ∉ (faceF u).data.toList := by
  have hd : ∀ v, v < 10 → (32 : UInt8) ≠ UInt8.ofNat (48 + v) := by decide
  rw [face_data]
  have h1 := not_dig (c := 32) (by unfold isDig; decide) (u / 100)
  have h2 := hd _ (Nat.mod_lt (u / 10) (show 0 < 10 by decide))
  have h3 := hd _ (Nat.mod_lt u (show 0 < 10 by decide))
  simp [h1]
  exact ⟨by simpa using h2, by simpa using h3⟩
/-- the stamp that the reference reads off a text -/
def specC (s : ByteArray) : Option StampT :=
  match splitF s 32 with
  | [z0, z1, _, z3, z4] => if z0.size < 2 ∨ z1.size < 4 then none else some ⟨numR (z0.extract 0 (z0.size - 1)), 100 * numR (z1.extract 0 (z1.size - 3)) + 10 * numR (z1.extract (z1.size - 2) (z1.size - 1)) + numR (z1.extract (z1.size - 1) z1.size), numR z3, numR z4⟩
  | _ => none
/-- the stamp that the program reads off a text -/
def implC (s : ByteArray) : Option StampT :=
  match splitF (cutF s colonB).2 32 with
  | [x0, _, x2, x3] => match Lib.atoiAll ((cutF x0 dotB).1 ++ (cutF x0 dotB).2).data.toList with
    | .ok v => if (readR (cutF s colonB).1).2 = true ∧ (readR x2).2 = true ∧ (readR x3).2 = true then some ⟨(readR (cutF s colonB).1).1, v, (readR x2).1, (readR x3).1⟩ else none
    | _ => none
  | _ => none
/-- the last look: valid, and its text is the one given -/
def finC (s : ByteArray) : Option StampT → StampT × Bool
  | some c => if stampOk c = true ∧ textF c = s then (c, true) else (stamp0, false)
  | none => (stamp0, false)
theorem num_dec {n : Int} (h : 0 ≤ n) : numF n = decB n.toNat := by
  have := numF_nonneg n.toNat
  rwa [show ((n.toNat : Nat) : Int) = n by omega] at this
theorem text_data (c : StampT) (h : TextIn c) : (textF c).data.toList = Lib.decDigits c.id.toNat ++ [58, 32] ++ ((faceF c.face.toNat).data.toList ++ 32 :: ([99, 111, 108, 111, 114] ++ 32 :: (Lib.decDigits c.color.toNat ++ 32 :: Lib.decDigits c.year.toNat))) := by
  have e1 := num_dec (n := c.id) (by have := h.i; omega)
  have e2 := num_dec (n := c.color) (by have := h.k; omega)
  have e3 := num_dec (n := c.year) (by have := h.y; omega)
  simp [textF, ByteArray.data_append, e1, e2, e3, decB]
theorem ba_data (l : List UInt8) : (⟨l.toArray⟩ : ByteArray).data.toList = l := by simp
theorem ba_size (l : List UInt8) : (⟨l.toArray⟩ : ByteArray).size = l.length := by show l.toArray.size = _; simp
theorem ba_ext {a b : ByteArray} (h : a.data.toList = b.data.toList) : a = b := ByteArray.ext (Array.ext' h)
theorem implC_text (c : StampT) (hok : stampOk c = true) : implC (textF c) = some c := by
  have h := textIn_of hok
  obtain ⟨⟨i1, i2⟩, ⟨f1, f2⟩, ⟨k1, k2⟩, y1, y2⟩ := h
  have ht := text_data c (textIn_of hok)
  have hc := cut_at (p := Lib.decDigits c.id.toNat) (r := (faceF c.face.toNat).data.toList ++ 32 :: ([99, 111, 108, 111, 114] ++ 32 :: (Lib.decDigits c.color.toNat ++ 32 :: Lib.decDigits c.year.toNat))) (sep := [58, 32]) (c := 58) (not_dig (by unfold isDig; decide) _) rfl
  have e0 : cutF (textF c) colonB = (decB c.id.toNat, ⟨((faceF c.face.toNat).data.toList ++ 32 :: ([99, 111, 108, 111, 114] ++ 32 :: (Lib.decDigits c.color.toNat ++ 32 :: Lib.decDigits c.year.toNat))).toArray⟩) := by
    rw [cutF, ht, show colonB.data.toList = [58, 32] from rfl, hc]; rfl
  have e1 : splitF (cutF (textF c) colonB).2 32 = [faceF c.face.toNat, ⟨#[99, 111, 108, 111, 114]⟩, decB c.color.toNat, decB c.year.toNat] := by
    rw [splitF_of (ps := [(faceF c.face.toNat).data.toList, [99, 111, 108, 111, 114], Lib.decDigits c.color.toNat, Lib.decDigits c.year.toNat])]
    · simp only [List.map_cons, List.map_nil]
      rw [← of_data rfl]
      rfl
    · rw [e0, ba_data, splitA_at (face_no _), splitA_at (by decide), splitA_at (not_dig (by unfold isDig; decide) _), splitA_none (not_dig (by unfold isDig; decide) _)]
      simp
  have hc2 := cut_at (p := Lib.decDigits (c.face.toNat / 100)) (r := [UInt8.ofNat (48 + c.face.toNat / 10 % 10), UInt8.ofNat (48 + c.face.toNat % 10)]) (sep := [46]) (c := 46) (not_dig (by unfold isDig; decide) _) rfl
  have e2 : ((cutF (faceF c.face.toNat) dotB).1 ++ (cutF (faceF c.face.toNat) dotB).2).data.toList = faceL c.face.toNat := by
    rw [cutF, face_data, show dotB.data.toList = [46] from rfl, hc2, ByteArray.data_append]
    simp [faceL]
  have e3 : Lib.atoiAll (faceL c.face.toNat) = .ok c.face := by
    rw [atoi_digs (by simp [faceL]) (face_digs _) (by rw [face_val]; omega), face_val]
    congr 1; omega
  have r0 := readR_dec (u := c.id.toNat) (by omega)
  have r1 := readR_dec (u := c.color.toNat) (by omega)
  have r2 := readR_dec (u := c.year.toNat) (by omega)
  rw [implC, e1]
  simp only [e2, e3]
  rw [e0]
  simp only [r0, r1, r2, and_self, if_true]
  cases c
  simp at i1 k1 y1 ⊢
  omega
theorem specC_text (c : StampT) (hok : stampOk c = true) : specC (textF c) = some c := by
  have h := textIn_of hok
  obtain ⟨⟨i1, i2⟩, ⟨f1, f2⟩, ⟨k1, k2⟩, y1, y2⟩ := h
  have ht := text_data c (textIn_of hok)
  have hi0 : (32 : UInt8) ∉ Lib.decDigits c.id.toNat ++ [58] := by
    simp [not_dig (c := 32) (by unfold isDig; decide) c.id.toNat]
  have e1 : splitF (textF c) 32 = [⟨(Lib.decDigits c.id.toNat ++ [58]).toArray⟩, faceF c.face.toNat, ⟨#[99, 111, 108, 111, 114]⟩, decB c.color.toNat, decB c.year.toNat] := by
    rw [splitF_of (ps := [Lib.decDigits c.id.toNat ++ [58], (faceF c.face.toNat).data.toList, [99, 111, 108, 111, 114], Lib.decDigits c.color.toNat, Lib.decDigits c.year.toNat])]
    · simp only [List.map_cons, List.map_nil]
      rw [← of_data (z := faceF c.face.toNat) rfl]
      rfl
    · rw [ht, show Lib.decDigits c.id.toNat ++ [58, 32] ++ ((faceF c.face.toNat).data.toList ++ 32 :: ([99, 111, 108, 111, 114] ++ 32 :: (Lib.decDigits c.color.toNat ++ 32 :: Lib.decDigits c.year.toNat))) = (Lib.decDigits c.id.toNat ++ [58]) ++ 32 :: ((faceF c.face.toNat).data.toList ++ 32 :: ([99, 111, 108, 111, 114] ++ 32 :: (Lib.decDigits c.color.toNat ++ 32 :: Lib.decDigits c.year.toNat))) by simp]
      rw [splitA_at hi0, splitA_at (face_no _), splitA_at (by decide), splitA_at (not_dig (by unfold isDig; decide) _), splitA_none (not_dig (by unfold isDig; decide) _)]
      simp
  have hfd := face_data c.face.toNat
  have hfs : (faceF c.face.toNat).size = (Lib.decDigits (c.face.toNat / 100)).length + 3 := by
    have h1 : (faceF c.face.toNat).data.toList.length = (faceF c.face.toNat).size := by simp
    rw [← h1, hfd]; simp
  have hp1 : 0 < (Lib.decDigits (c.face.toNat / 100)).length := List.length_pos_iff.2 (dec_ne _)
  have hp0 : 0 < (Lib.decDigits c.id.toNat).length := List.length_pos_iff.2 (dec_ne _)
  have hz0 : (⟨(Lib.decDigits c.id.toNat ++ [58]).toArray⟩ : ByteArray).size = (Lib.decDigits c.id.toNat).length + 1 := by rw [ba_size]; simp
  have x0 : (⟨(Lib.decDigits c.id.toNat ++ [58]).toArray⟩ : ByteArray).extract 0 ((⟨(Lib.decDigits c.id.toNat ++ [58]).toArray⟩ : ByteArray).size - 1) = decB c.id.toNat := by
    apply ba_ext
    rw [Lib.extract_data, ba_data, hz0]
    simp [decB]
  have x1 : (faceF c.face.toNat).extract 0 ((faceF c.face.toNat).size - 3) = decB (c.face.toNat / 100) := by
    apply ba_ext
    rw [Lib.extract_data, hfd, hfs]
    simp [decB]
  have x2 : (faceF c.face.toNat).extract ((faceF c.face.toNat).size - 2) ((faceF c.face.toNat).size - 1) = decB (c.face.toNat / 10 % 10) := by
    apply ba_ext
    rw [Lib.extract_data, hfd, hfs, show (Lib.decDigits (c.face.toNat / 100)).length + 3 - 2 = (Lib.decDigits (c.face.toNat / 100) ++ [46]).length by simp, List.drop_left, decB, dec_one (Nat.mod_lt _ (by decide))]
    simp
  have x3 : (faceF c.face.toNat).extract ((faceF c.face.toNat).size - 1) (faceF c.face.toNat).size = decB (c.face.toNat % 10) := by
    apply ba_ext
    rw [Lib.extract_data, hfd, hfs, show (Lib.decDigits (c.face.toNat / 100)).length + 3 - 1 = (Lib.decDigits (c.face.toNat / 100) ++ [46] ++ [UInt8.ofNat (48 + c.face.toNat / 10 % 10)]).length by simp, show Lib.decDigits (c.face.toNat / 100) ++ [46] ++ [UInt8.ofNat (48 + c.face.toNat / 10 % 10), UInt8.ofNat (48 + c.face.toNat % 10)] = (Lib.decDigits (c.face.toNat / 100) ++ [46] ++ [UInt8.ofNat (48 + c.face.toNat / 10 % 10)]) ++ [UInt8.ofNat (48 + c.face.toNat % 10)] by simp, List.drop_left, decB, dec_one (Nat.mod_lt _ (by decide))]
    simp
  rw [specC, e1]
  simp only [x0, x1, x2, x3]
  rw [if_neg (by omega), numR_dec (by omega), numR_dec (by omega), numR_dec (by omega), numR_dec (by omega), numR_dec (by omega), numR_dec (by omega)]
  cases c
  simp at i1 k1 y1 f1 ⊢
  omega
theorem fin_eq (s : ByteArray) : finC s (implC s) = finC s (specC s) := by
  have key : ∀ (o p : Option StampT), (∀ c, stampOk c = true → textF c = s → p = some c) → finC s o = (stamp0, false) ∨ finC s o = finC s p := by
    intro o p h
    cases o with
    | none => exact .inl rfl
    | some c =>
      by_cases hc : stampOk c = true ∧ textF c = s
      · right; rw [h c hc.1 hc.2]
      · left; rw [finC, if_neg hc]
  have h1 := key (implC s) (specC s) (fun c h1 h2 => by rw [← h2]; exact specC_text c h1)
  have h2 := key (specC s) (implC s) (fun c h1 h2 => by rw [← h2]; exact implC_text c h1)
  rcases h1 with h1 | h1
  · rcases h2 with h2 | h2
    · rw [h1, h2]
    · exact h2.symm
  · exact h1
end Go.Proofs.YtoomjionojfjgaaDoor
