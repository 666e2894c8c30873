/- VerifyChecksum: both sides give back the same text; the law. -/
import Derived.Test.YtbgfdhghhaoabaaDoorSeal
import Derived.Test.YtbgfdhghhaoabaaDoorSplitS
import Derived.Test.YtbgfdhghhaoabaaDoorShelf
namespace Go.Proofs.YtbgfdhghhaoabaaDoor
open Go.RowKit

/-- the text in front of the first '#' -/
def headF (s : ByteArray) : ByteArray := (splitF s 35).headD .empty
def verOk (s : ByteArray) : Bool := decide (s.size ≤ 4000) && decide (sealF (headF s) = s)
def verR (s : ByteArray) : ByteArray := if verOk s = true then headF s else .empty
theorem num_nohash {n : Int} : (35 : UInt8) ∉ Lib.itoa n := by
  have hd : ∀ u, (35 : UInt8) ∉ Lib.decDigits u := by
    intro u
    induction u using Nat.strongRecOn with
    | _ u ih =>
      rw [Lib.decDigits]
      have hne : ∀ v, v < 10 → (35 : UInt8) ≠ UInt8.ofNat (48 + v) := by decide +revert
      split
      · rename_i h; simpa using hne u h
      · have := hne (u % 10) (Nat.mod_lt _ (by decide))
        simp [ih (u / 10) (by omega)]
        simpa using this
  unfold Lib.itoa
  split
  · simp [hd]
  · exact hd _
theorem splitF_ne (s : ByteArray) (c : UInt8) : splitF s c ≠ [] := by
  intro h
  have := splitF_len s c
  rw [h] at this; simp at this
theorem headF_data (s : ByteArray) {p r : List UInt8} (hp : (35 : UInt8) ∉ p) (h : s.data.toList = p ++ 35 :: r) : headF s = ⟨p.toArray⟩ := by
  have hd := splitF_data s 35
  rw [h, splitA_at hp] at hd
  cases hs : splitF s 35 with
  | nil => exact absurd hs (splitF_ne s 35)
  | cons x xs =>
    rw [hs] at hd
    simp only [List.map_cons, List.cons.injEq, List.nil_append] at hd
    rw [headF, hs, List.headD_cons]
    obtain ⟨⟨l⟩⟩ := x
    simp at hd; rw [hd.1]
theorem headF_none (s : ByteArray) (h : (35 : UInt8) ∉ s.data.toList) : headF s = s := by
  have hd := splitF_data s 35
  rw [splitA_none h] at hd
  cases hs : splitF s 35 with
  | nil => exact absurd hs (splitF_ne s 35)
  | cons x xs =>
    rw [hs] at hd
    simp only [List.map_cons, List.cons.injEq, List.nil_append] at hd
    rw [headF, hs, List.headD_cons]
    obtain ⟨⟨l⟩⟩ := x; obtain ⟨⟨m⟩⟩ := s
    simp at hd; rw [hd.1]
theorem seal_data (t : ByteArray) : (sealF t).data.toList = t.data.toList ++ 35 :: Lib.itoa (sumF t) := by
  simp [sealF, ByteArray.data_append, numF]
theorem ver_none {s : ByteArray} (h : (35 : UInt8) ∉ s.data.toList) : verOk s = false := by
  rw [verOk, headF_none s h]
  have : sealF s ≠ s := by
    intro e
    have := seal_data s
    rw [e] at this
    have h2 := congrArg List.length this
    simp at h2
  simp [this]
/-- at the last '#': what is in front of it is sealed to the whole exactly if the whole is sealed -/
theorem ver_at {s : ByteArray} {p r : List UInt8} (h : s.data.toList = p ++ 35 :: r) (hm : s.size ≤ 4000) :
    verOk s = (sealOk ⟨p.toArray⟩ && decide (sealF ⟨p.toArray⟩ = s)) ∧ (verOk s = true → headF s = ⟨p.toArray⟩) := by
  by_cases hp : (35 : UInt8) ∈ p
  · -- a second '#': neither holds
    obtain ⟨p1, p2, hp1, hp2⟩ : ∃ p1 p2, p = p1 ++ 35 :: p2 ∧ (35 : UInt8) ∉ p1 := by
      rcases ib_split 35 p with ⟨_, h2⟩ | ⟨p1, p2, h1, h2, _⟩
      · exact absurd hp h2
      · exact ⟨p1, p2, h1, h2⟩
    have hh : headF s = ⟨p1.toArray⟩ := headF_data s hp2 (r := p2 ++ 35 :: r) (by rw [h, hp1]; simp)
    have e1 : verOk s = false := by
      rw [verOk, hh]
      have : sealF ⟨p1.toArray⟩ ≠ s := by
        intro e
        have h3 := seal_data ⟨p1.toArray⟩
        rw [e, h, hp1] at h3
        simp only [List.append_assoc, List.cons_append, List.append_cancel_left_eq, List.cons.injEq, true_and] at h3
        have : (35 : UInt8) ∈ Lib.itoa (sumF ⟨p1.toArray⟩) := by rw [← h3]; simp
        exact num_nohash this
      simp [this]
    have e2 : sealOk ⟨p.toArray⟩ = false := by simp [sealOk, hasB, hp]
    rw [e1, e2]
    exact ⟨rfl, fun h => by cases h⟩
  · have hh : headF s = ⟨p.toArray⟩ := headF_data s hp h
    refine ⟨?_, fun _ => hh⟩
    rw [verOk, hh]
    by_cases e : sealF ⟨p.toArray⟩ = s
    · have hs2 : (⟨p.toArray⟩ : ByteArray).size ≤ 4000 := by
        have h1 := congrArg List.length h
        have h2 : s.data.toList.length = s.size := by simp
        simp at h1 h2
        show p.toArray.size ≤ 4000
        simp
        have : s.data.size = s.size := rfl
        omega
      have : sealOk ⟨p.toArray⟩ = true := by simp [sealOk, hasB, hp, e, hm, hs2]
      simp [this, e, hm]
    · simp [e]
set_option maxHeartbeats 800000 in
set_option maxRecDepth 100000 in
theorem specVer_any (s : ByteArray) (w : World) (hm : s.size ≤ 1048576) : Calls Tryd.prog 19 #[.string s] w fun e w' => e = .returned (.tuple #[.string (verR s), .bool (verOk s)]) ∧ Below w.heap.size w w' := by
  have HS := Lib.hid (l1Split_any s 35 w hm)
  by_cases h1 : 4000 < s.size
  · have e : verOk s = false := by simp [verOk]; omega
    have e2 : verR s = .empty := by simp [verR, e]
    rw [e, e2]
    clear e e2
    go_enter Tryd.func19, Tryd.ntmps19
    go_wp2_with fail
    go_ret2
    exact ⟨rfl, Below.refl _ _⟩
  have hne := splitF_ne s 35
  have hl := splitF_le s 35
  obtain ⟨x, xs, hx⟩ : ∃ x xs, splitF s 35 = x :: xs := by
    cases hq : splitF s 35 with
    | nil => exact absurd hq hne
    | cons x xs => exact ⟨x, xs, rfl⟩
  have hh : headF s = x := by rw [headF, hx]; rfl
  rw [hx] at HS
  have hxs : x.size ≤ 1048576 := by
    have hd := splitF_data s 35
    rw [hx] at hd
    rcases ib_split 35 s.data.toList with ⟨_, h2⟩ | ⟨p, r, h1, h2, _⟩
    · rw [← hh, headF_none s h2]; exact hm
    · rw [← hh, headF_data s h2 h1]
      have h3 := congrArg List.length h1
      have h4 : s.data.toList.length = s.size := by simp
      simp at h3 h4
      show p.toArray.size ≤ _
      simp
      have : s.data.size = s.size := rfl
      omega
  have HL := Lib.hid (fun w => l1Seal_any x w hxs)
  have hlen : 0 < (x :: xs).length := by simp
  have hget : (strs (x :: xs))[0]? = some (.string x) := rfl
  have HG := Lib.hid hget
  clear hne hl hget
  by_cases hq : sealF x = s
  · have e : verOk s = true := by simp [verOk, hh, hq]; omega
    have e2 : verR s = x := by simp [verR, e, hh]
    have hbq := str_beq hq
    rw [e, e2]
    clear e e2 hq hh hx
    generalize sealF x = y at *
    generalize (x :: xs).length = n at *
    go_enter Tryd.func19, Tryd.ntmps19
    go_wp2_with fail
    refine HS.out.mono ?_
    rintro e w1 ⟨ad, cp, rfl, hown, hbel⟩
    obtain ⟨g, rfl, hb, hg⟩ := own_form hown hlen
    have hc := hown.cellAt 0 (by omega)
    rw [HG.out] at hc
    have HB := Lib.hid hbel
    clear hown hbel
    go_wp2_with (go_at_call 43; refine (HL.out _).mono ?_; rintro e w' ⟨rfl, k, rfl⟩)
    go_ret2
    exact ⟨rfl, HB.out.trans ((Dr.of _ _).below _)⟩
  · have e : verOk s = false := by simp [verOk, hh, hq]
    have e2 : verR s = .empty := by simp [verR, e]
    have hbq := str_bne hq
    rw [e, e2]
    clear e e2 hq hh hx
    generalize sealF x = y at *
    generalize (x :: xs).length = n at *
    go_enter Tryd.func19, Tryd.ntmps19
    go_wp2_with fail
    refine HS.out.mono ?_
    rintro e w1 ⟨ad, cp, rfl, hown, hbel⟩
    obtain ⟨g, rfl, hb, hg⟩ := own_form hown hlen
    have hc := hown.cellAt 0 (by omega)
    rw [HG.out] at hc
    have HB := Lib.hid hbel
    clear hown hbel
    go_wp2_with (go_at_call 43; refine (HL.out _).mono ?_; rintro e w' ⟨rfl, k, rfl⟩)
    go_ret2
    exact ⟨rfl, HB.out.trans ((Dr.of _ _).below _)⟩
theorem li_spec (l : List UInt8) : (Lib.lastIndex l [35] = -1 ∧ (35 : UInt8) ∉ l) ∨ ∃ p r, l = p ++ 35 :: r ∧ Lib.lastIndex l [35] = (p.length : Int) := by
  have hocc : ∀ i, Lib.occAt l [35] i = true ↔ ∃ r, l.drop i = 35 :: r := by
    intro i
    unfold Lib.occAt
    cases h : l.drop i with
    | nil => simp
    | cons x xs =>
      simp only [List.isPrefixOf, Bool.and_true, beq_iff_eq]
      constructor
      · rintro rfl; exact ⟨xs, rfl⟩
      · rintro ⟨r, h⟩; injection h with h1 _; exact h1.symm
  by_cases h0 : [(35 : UInt8)].length ≤ l.length
  · have e : Lib.lastIndex l [35] = Lib.lastOcc l [35] (l.length - [(35 : UInt8)].length + 1) := by rw [Lib.lastIndex, if_pos h0]
    rw [e]
    rcases Lib.lastOcc_spec l [35] (l.length - [(35 : UInt8)].length + 1) with ⟨h1, h2⟩ | ⟨i, h1, h2, h3, _⟩
    · refine .inl ⟨h1, fun hm => ?_⟩
      obtain ⟨j, hj, e2⟩ := List.getElem_of_mem hm
      have h3 := h2 j (by simp at h0 ⊢; omega)
      have h4 : Lib.occAt l [35] j = true := (hocc j).2 ⟨l.drop (j + 1), by rw [List.drop_eq_getElem_cons hj, e2]⟩
      rw [h3] at h4; cases h4
    · obtain ⟨r, hr⟩ := (hocc i).1 h3
      have hi : i < l.length := by
        rcases Nat.lt_or_ge i l.length with h | h
        · exact h
        · rw [List.drop_eq_nil_of_le h] at hr; cases hr
      refine .inr ⟨l.take i, r, ?_, ?_⟩
      · rw [← hr, List.take_append_drop]
      · rw [h2, List.length_take, Nat.min_eq_left (by omega)]
  · refine .inl ⟨by rw [Lib.lastIndex, if_neg h0], fun hm => ?_⟩
    cases l with
    | nil => cases hm
    | cons => simp at h0
theorem ver_any {s : ByteArray} {p r : List UInt8} (h : s.data.toList = p ++ 35 :: r) : verOk s = (sealOk ⟨p.toArray⟩ && decide (sealF ⟨p.toArray⟩ = s)) ∧ (verOk s = true → headF s = ⟨p.toArray⟩) := by
  by_cases hm : s.size ≤ 4000
  · exact ver_at h hm
  · have e : verOk s = false := by simp [verOk, hm]
    refine ⟨?_, fun h2 => by rw [e] at h2; cases h2⟩
    rw [e]
    symm
    rw [Bool.and_eq_false_iff]
    by_cases hq : sealF ⟨p.toArray⟩ = s
    · left; simp [sealOk, hq, hm]
    · right; simp [hq]
set_option maxHeartbeats 800000 in
set_option maxRecDepth 100000 in
theorem implVer_any (s : ByteArray) (w : World) (hm : s.size ≤ 1048576) (htab : PowTab w) : Calls Tryd.prog 20 #[.string s] w fun e w' => e = .returned (.tuple #[.string (verR s), .bool (verOk s)]) ∧ Below w.heap.size w w' := by
  have hL := fun w => Tryd.strings_LastIndex s hashB (by omega) w
  rcases li_spec s.data.toList with ⟨h1, h2⟩ | ⟨p, r, h1, h2⟩
  · have e : verOk s = false := ver_none h2
    have e2 : verR s = .empty := by simp [verR, e]
    rw [e, e2]
    have hL2 : ∀ w, Calls Tryd.prog 46 #[.string s, .string hashB] w fun e w' => e = .returned (.int .i64 (-1)) ∧ w' = w := fun w => by
      have := hL w
      rwa [show hashB.data.toList = [35] from rfl, h1] at this
    have HL := Lib.hid hL2
    clear hL hL2 h1 h2 e e2 htab
    go_enter Tryd.func20, Tryd.ntmps20
    go_wp2_with (go_at_call 46; refine (HL.out _).mono ?_; rintro e w' ⟨rfl, rfl⟩)
    go_ret2
    exact ⟨rfl, Below.refl _ _⟩
  · have hlt : p.length < s.size := by
      have h3 := congrArg List.length h1
      have h4 : s.data.toList.length = s.size := by simp
      rw [h4, List.length_append, List.length_cons] at h3; omega
    have ex : s.extract 0 p.length = ⟨p.toArray⟩ := by
      have h3 : (s.extract 0 p.length).data.toList = p := by rw [Lib.extract_data, h1]; simp
      exact ByteArray.ext (Array.ext' h3)
    obtain ⟨v1, v2⟩ := ver_any h1
    rw [← ex] at v1 v2
    have hxs : (s.extract 0 p.length).size ≤ 1048576 := by simp; omega
    have HA := Lib.hid (implAppend_any (s.extract 0 p.length) w hxs htab)
    have hL2 : ∀ w, Calls Tryd.prog 46 #[.string s, .string hashB] w fun e w' => e = .returned (.int .i64 (p.length : Int)) ∧ w' = w := fun w => by
      have := hL w
      rwa [show hashB.data.toList = [35] from rfl, h2] at this
    have HL := Lib.hid hL2
    generalize p.length = n at *
    clear hL hL2 h1 h2 ex htab hxs
    cases e1 : sealOk (s.extract 0 n)
    · rw [e1, Bool.false_and] at v1
      have e2 : verR s = .empty := by simp [verR, v1]
      rw [e1] at HA
      rw [v1, e2]
      clear v1 v2 e1 e2
      generalize sealR (s.extract 0 n) = y at *
      go_enter Tryd.func20, Tryd.ntmps20
      go_wp2_with (first | (go_at_call 46; refine (HL.out _).mono ?_; rintro e w' ⟨rfl, rfl⟩) | (go_at_call 18; refine HA.out.mono ?_; rintro e w' ⟨rfl, hb⟩))
      go_ret2
      exact ⟨rfl, hb⟩
    · have e3 : sealR (s.extract 0 n) = sealF (s.extract 0 n) := by simp [sealR, e1]
      rw [e1, Bool.true_and] at v1
      rw [e1, e3] at HA
      by_cases hq : sealF (s.extract 0 n) = s
      · rw [decide_eq_true hq] at v1
        have e2 : verR s = s.extract 0 n := by rw [verR, if_pos v1, v2 v1]
        have hbq := str_beq hq
        rw [v1, e2]
        clear v1 v2 e1 e2 e3 hq
        generalize sealF (s.extract 0 n) = y at *
        go_enter Tryd.func20, Tryd.ntmps20
        go_wp2_with (first | (go_at_call 46; refine (HL.out _).mono ?_; rintro e w' ⟨rfl, rfl⟩) | (go_at_call 18; refine HA.out.mono ?_; rintro e w' ⟨rfl, hb⟩))
        go_ret2
        exact ⟨rfl, hb⟩
      · rw [decide_eq_false hq] at v1
        have e2 : verR s = .empty := by simp [verR, v1]
        have hbq := str_bne hq
        rw [v1, e2]
        clear v1 v2 e1 e2 e3 hq
        generalize sealF (s.extract 0 n) = y at *
        go_enter Tryd.func20, Tryd.ntmps20
        go_wp2_with (first | (go_at_call 46; refine (HL.out _).mono ?_; rintro e w' ⟨rfl, rfl⟩) | (go_at_call 18; refine HA.out.mono ?_; rintro e w' ⟨rfl, hb⟩))
        go_ret2
        exact ⟨rfl, hb⟩
set_option maxHeartbeats 400000 in
set_option maxRecDepth 100000 in
theorem FnExactVerifyChecksum_walk {w : World} (HL : laidMet Tryd.prog Rows.fnExactVerifyChecksumRow.laid w) (s : ByteArray) (hm : s.size ≤ maxLen) : Calls Tryd.prog 6 #[.string s] w fun e w' => e = .returned (.bool true) ∧ Below w.heap.size w w' := by
  have HT := Lib.hid (powTab_of HL)
  clear HL
  unfold maxLen at hm
  by_cases l1 : 1048576 < s.size
  · go_enter Tryd.func6, Tryd.ntmps6
    go_wp2_with fail
    go_ret
    exact ⟨rfl, Below.refl _ _⟩
  have HS := Lib.hid (specVer_any s w (by omega))
  have HM : Hid (∀ w', Below w.heap.size w w' → Calls Tryd.prog 20 #[.string s] w' fun e w'' => e = .returned (.tuple #[.string (verR s), .bool (verOk s)]) ∧ Below w'.heap.size w' w'') := Lib.hid (fun w' hb => implVer_any s w' (by omega) (HT.out.stays hb (Nat.le_refl _)))
  generalize verR s = r at HS HM
  generalize verOk s = b at HS HM
  go_enter Tryd.func6, Tryd.ntmps6
  go_wp2_with (first | (go_at_call 19; refine HS.out.mono ?_; rintro e w' ⟨rfl, hd⟩) | (go_at_call 20; refine (HM.out _ hd).mono ?_; rintro e w'' ⟨rfl, hb⟩))
  go_ret
  exact ⟨rfl, hd.trans (hb.mono hd.size)⟩
end Go.Proofs.YtbgfdhghhaoabaaDoor
