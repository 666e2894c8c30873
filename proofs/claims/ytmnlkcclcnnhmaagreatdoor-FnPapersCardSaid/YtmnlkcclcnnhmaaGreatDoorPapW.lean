/- PapV, PapQ in one text. -/
import Derived.Test.YtmnlkcclcnnhmaaGreatDoorPapT
import Derived.Test.YtmnlkcclcnnhmaaGreatDoorStrS
import Derived.Test.YtmnlkcclcnnhmaaGreatDoorPaperC
import Derived.Test.YtmnlkcclcnnhmaaGreatDoorNameI
namespace Go.Proofs.YtmnlkcclcnnhmaaGreatDoor
section
open Go.RowKit

theorem rBig_any (a : Option Addr) (len cap : Nat) (w : World) : Calls Tryz.prog 4 #[.slice a len cap] w fun e w' => e = .returned (.bool (decide ((65536 : Int) < (len : Int)))) ∧ w = w' := by
  go_enter Tryz.func4, Tryz.ntmps4
  go_wp2_with fail
  go_ret
  exact ⟨rfl, rfl⟩
set_option maxHeartbeats 400000 in
theorem rInts_any (a b : Option Addr) (ca cb : Nat) (xs ys : List Int) (w : World) (hm : xs.length ≤ maxLen) (hm2 : ys.length ≤ maxLen) (hx : Reads w a (ints xs)) (hy : Reads w b (ints ys)) :
    Calls Tryz.prog 15 #[.slice a xs.length ca, .slice b ys.length cb] w fun e w' => e = .returned (.bool (decide (xs = ys))) ∧ Dr w w' := by
  unfold maxLen at hm hm2
  have HX := Lib.hid hx
  have HY := Lib.hid hy
  clear hx hy
  by_cases hlen : xs.length = ys.length
  · have hl2 : (((xs.length : Nat) : Int) != ((ys.length : Nat) : Int)) = false := by simp [hlen]
    have HL := Lib.hid hlen
    have hle : ys.length ≤ xs.length := by omega
    have hle2 : xs.length ≤ ys.length := by omega
    clear hlen
    go_enter Tryz.func15, Tryz.ntmps15
    go_wp2
    go_loopw [5] (fun i wr => ∃ k : Nat, k ≤ xs.length ∧ i = .int .i64 k ∧ Hid (xs.take k = ys.take k) ∧ Dr w wr) (fun i _ => xs.length - (intOf i).toNat)
    case atStart => exact ⟨0, Nat.zero_le _, rfl, by simp [Hid], Dr.refl _⟩
    case round =>
      obtain ⟨k, hk, rfl, ht, hdr⟩ := hrel
      by_cases hlt : k < xs.length
      · have hlt2 : k < ys.length := by omega
        rcases HX.out.dr hdr with h0 | ⟨b1, o1, rfl, hb1, hc1⟩
        · simp [ints] at h0; subst h0; simp at hlt
        rcases HY.out.dr hdr with h0 | ⟨b2, o2, rfl, hb2, hc2⟩
        · simp [ints] at h0; subst h0; simp at hlt2
        have hd1 := hc1 k _ (ints_get hlt)
        have hd2 := hc2 k _ (ints_get hlt2)
        clear hc1 hc2
        by_cases he : xs[k] = ys[k]
        · have ht2 := Lib.hid (take_eq_succ ht.out hlt hlt2 he)
          have hb : (xs[k] != ys[k]) = false := by simp [he]
          clear he
          go_wp2
          go_quiet (fail)
          go_wp2
          go_roundw
          case rel => exact ⟨k + 1, by omega, by go_num, ht2, hdr.trans (Dr.of _ _)⟩
          case measure => simp [intOf]; omega
        · have hne := Lib.hid (show ¬ xs = ys from fun e => he (by subst e; rfl))
          have hb : (xs[k] != ys[k]) = true := by simp [he]
          clear he
          go_wp2
          go_quiet (fail)
          go_wp2
          go_ret
          exact ⟨ret_bool (by simp [hne.out]), hdr.trans (Dr.of _ _)⟩
      · have hk2 : k = xs.length := by omega
        have heq := Lib.hid (show xs = ys by
          have h1 := ht.out
          rw [hk2, List.take_length, HL.out, List.take_length] at h1; exact h1)
        clear hk2
        go_wp2
        go_ret
        exact ⟨ret_bool (by simp [heq.out]), hdr⟩
  · have hl2 : (((xs.length : Nat) : Int) != ((ys.length : Nat) : Int)) = true := by simp; omega
    have hne := Lib.hid (show ¬ xs = ys from fun e => hlen (by rw [e]))
    clear hlen
    go_enter Tryz.func15, Tryz.ntmps15
    go_wp2
    go_ret
    exact ⟨ret_bool (by simp [hne.out]), Dr.refl _⟩
set_option maxHeartbeats 400000 in
theorem rTexts_any (a b : Option Addr) (ca cb : Nat) (xs ys : List ByteArray) (w : World) (hm : xs.length ≤ maxLen) (hm2 : ys.length ≤ maxLen) (hx : Reads w a (strs xs)) (hy : Reads w b (strs ys)) :
    Calls Tryz.prog 22 #[.slice a xs.length ca, .slice b ys.length cb] w fun e w' => e = .returned (.bool (decide (xs = ys))) ∧ Dr w w' := by
  unfold maxLen at hm hm2
  have HX := Lib.hid hx
  have HY := Lib.hid hy
  clear hx hy
  by_cases hlen : xs.length = ys.length
  · have hl2 : (((xs.length : Nat) : Int) != ((ys.length : Nat) : Int)) = false := by simp [hlen]
    have HL := Lib.hid hlen
    have hle : ys.length ≤ xs.length := by omega
    have hle2 : xs.length ≤ ys.length := by omega
    clear hlen
    go_enter Tryz.func22, Tryz.ntmps22
    go_wp2
    go_loopw [5] (fun i wr => ∃ k : Nat, k ≤ xs.length ∧ i = .int .i64 k ∧ Hid (xs.take k = ys.take k) ∧ Dr w wr) (fun i _ => xs.length - (intOf i).toNat)
    case atStart => exact ⟨0, Nat.zero_le _, rfl, by simp [Hid], Dr.refl _⟩
    case round =>
      obtain ⟨k, hk, rfl, ht, hdr⟩ := hrel
      by_cases hlt : k < xs.length
      · have hlt2 : k < ys.length := by omega
        rcases HX.out.dr hdr with h0 | ⟨b1, o1, rfl, hb1, hc1⟩
        · simp [strs] at h0; subst h0; simp at hlt
        rcases HY.out.dr hdr with h0 | ⟨b2, o2, rfl, hb2, hc2⟩
        · simp [strs] at h0; subst h0; simp at hlt2
        have hd1 := hc1 k _ (strs_get hlt)
        have hd2 := hc2 k _ (strs_get hlt2)
        clear hc1 hc2
        by_cases he : xs[k] = ys[k]
        · have ht2 := Lib.hid (take_eq_succ ht.out hlt hlt2 he)
          have hb := str_beq he
          clear he
          go_wp2
          go_quiet (fail)
          go_wp2
          go_roundw
          case rel => exact ⟨k + 1, by omega, by go_num, ht2, hdr.trans (Dr.of _ _)⟩
          case measure => simp [intOf]; omega
        · have hne := Lib.hid (show ¬ xs = ys from fun e => he (by subst e; rfl))
          have hb := str_bne he
          clear he
          go_wp2
          go_quiet (fail)
          go_wp2
          go_ret
          exact ⟨ret_bool (by simp [hne.out]), hdr.trans (Dr.of _ _)⟩
      · have hk2 : k = xs.length := by omega
        have heq := Lib.hid (show xs = ys by
          have h1 := ht.out
          rw [hk2, List.take_length, HL.out, List.take_length] at h1; exact h1)
        clear hk2
        go_wp2
        go_ret
        exact ⟨ret_bool (by simp [heq.out]), hdr⟩
  · have hl2 : (((xs.length : Nat) : Int) != ((ys.length : Nat) : Int)) = true := by simp; omega
    have hne := Lib.hid (show ¬ xs = ys from fun e => hlen (by rw [e]))
    clear hlen
    go_enter Tryz.func22, Tryz.ntmps22
    go_wp2
    go_ret
    exact ⟨ret_bool (by simp [hne.out]), Dr.refl _⟩
theorem rHas_any (a : Option Addr) (c : Nat) (xs : List Int) (x : Int) (w : World) (hm : xs.length ≤ maxLen) (hx : Reads w a (ints xs)) :
    Calls Tryz.prog 16 #[.slice a xs.length c, .int .i64 x] w fun e w' => e = .returned (.bool (decide (x ∈ xs))) ∧ w = w' := by
  unfold maxLen at hm
  have HX := Lib.hid hx
  clear hx
  go_enter Tryz.func16, Tryz.ntmps16
  go_wp2
  go_loopw [5] (fun i wr => ∃ k : Nat, k ≤ xs.length ∧ i = .int .i64 k ∧ Hid (x ∉ xs.take k) ∧ w = wr) (fun i _ => xs.length - (intOf i).toNat)
  case atStart => exact ⟨0, Nat.zero_le _, rfl, by simp [Hid], rfl⟩
  case round =>
    obtain ⟨k, hk, rfl, ht, rfl⟩ := hrel
    by_cases hlt : k < xs.length
    · rcases HX.out with h0 | ⟨b1, o1, rfl, hb1, hc1⟩
      · simp [ints] at h0; subst h0; simp at hlt
      have hd1 := hc1 k _ (ints_get hlt)
      have HIN := Lib.hid (List.getElem_mem hlt)
      have HTK := Lib.hid (List.take_succ_eq_append_getElem hlt)
      clear hc1
      obtain ⟨z, hz⟩ : ∃ z, z = xs[k] := ⟨_, rfl⟩
      rw [← hz] at hd1 HIN HTK
      clear hz
      by_cases he : z = x
      · have hb : (z == x) = true := by simp [he]
        have hmem := Lib.hid (show x ∈ xs by rw [← he]; exact HIN.out)
        clear he
        go_wp2
        go_ret
        exact ⟨ret_bool (by simp [hmem.out]), rfl⟩
      · have hb : (z == x) = false := by simp [he]
        have ht2 : Hid (x ∉ xs.take (k + 1)) := Lib.hid (by
          rw [HTK.out, List.mem_append, List.mem_singleton]
          exact fun h => h.elim ht.out (fun h => he h.symm))
        clear he
        go_wp2
        go_roundw
        case rel => exact ⟨k + 1, by omega, by go_num, ht2, trivial⟩
        case measure => simp [intOf]; omega
    · have hno := Lib.hid (show x ∉ xs by
        have h1 := ht.out
        rwa [show k = xs.length by omega, List.take_length] at h1)
      go_wp2
      go_ret
      exact ⟨ret_bool (by simp [hno.out]), rfl⟩
end
section
open Go.RowKit

theorem papers_step {zs : List PaperT} (h : papersOk zs = true) {k : Nat} (hk : k + 1 < zs.length) : zs[k].id < zs[k + 1].id := by
  simp only [papersOk, Bool.and_eq_true, allB_true] at h
  have := h.1 (k + 1) hk
  simp only [paperAt, Bool.and_eq_true, paper_getD hk, Nat.add_sub_cancel, paper_getD (show k < zs.length by omega)] at this
  simpa using this.2
theorem papers_mono {zs : List PaperT} (h : papersOk zs = true) {i : Nat} : ∀ (d : Nat) (hj : i + d + 1 < zs.length), zs[i].id < zs[i + d + 1].id
  | 0, hj => papers_step h hj
  | d + 1, hj => Int.lt_trans (papers_mono h d (by omega)) (papers_step h (k := i + d + 1) hj)
theorem papers_inj {zs : List PaperT} (h : papersOk zs = true) {i j : Nat} (hi : i < zs.length) (hj : j < zs.length) (he : zs[i].id = zs[j].id) : i = j := by
  rcases Nat.lt_trichotomy i j with h1 | h1 | h1
  · have := papers_mono h (i := i) (j - i - 1) (by omega)
    have e : i + (j - i - 1) + 1 = j := by omega
    simp only [e] at this
    omega
  · exact h1
  · have := papers_mono h (i := j) (i - j - 1) (by omega)
    have e : j + (i - j - 1) + 1 = i := by omega
    simp only [e] at this
    omega
/-- the ids told are those of the papers that pass -/
theorem in_ids {zs : List PaperT} (h : papersOk zs = true) (p : PaperT → Bool) {k : Nat} (hk : k < zs.length) : decide (zs[k].id ∈ idsOfPaper p zs) = p zs[k] := by
  rw [Bool.eq_iff_iff, decide_eq_true_eq, idsOfPaper, List.mem_map]
  constructor
  · rintro ⟨c, hc, he⟩
    obtain ⟨h1, h2⟩ := List.mem_filter.1 hc
    obtain ⟨j, hj, rfl⟩ := List.getElem_of_mem h1
    have := papers_inj h hj hk he
    subst this
    exact h2
  · intro hp
    exact ⟨zs[k], List.mem_filter.2 ⟨List.getElem_mem hk, hp⟩, rfl⟩
theorem mAsk_parts {zs : List PaperT} {th off tint : Int} (h : mAsk zs th off tint = true) : papersOk zs = true ∧ (1 ≤ th ∧ th ≤ 300) ∧ (0 ≤ off ∧ off ≤ 50) ∧ -1 ≤ tint ∧ tint ≤ 9 := by
  simp only [mAsk, Bool.and_eq_true, inB_true] at h
  exact ⟨h.1.1.1, h.1.1.2, h.1.2, h.2⟩
theorem mTest_eq (th off tint : Int) (c : PaperT) : mTest th off tint c = (decide (c.thick - th ≤ off) && decide (th - c.thick ≤ off) && (tint == -1 || tint == c.tint)) := by
  rw [Bool.eq_iff_iff, mTest]
  simp [inB]
  omega
theorem near_parts {zs : List PaperT} {th : Int} (h : nearAsk zs th = true) : papersOk zs = true ∧ 1 ≤ th ∧ th ≤ 300 := by
  simp only [nearAsk, Bool.and_eq_true, inB_true] at h
  exact ⟨h.1.1, h.1.2⟩
theorem nearTo_le (zs : List PaperT) (th : Int) : ∀ k i, (hi : i < k) → (hk : k ≤ zs.length) → (nearTo zs th k).2 ≤ offOf (zs[i]'(by omega)) th := by
  intro k
  induction k with
  | zero => intro i hi; omega
  | succ k ih =>
    intro i hi hk
    rw [nearTo, paper_getD (show k < zs.length by omega)]
    by_cases e : i = k
    · subst e
      split
      · exact Int.le_refl _
      · rename_i hno; omega
    · have := ih i (by omega) (by omega)
      split
      · rename_i hno; simp only; omega
      · exact this
/-- no paper is nearer than the nearest one -/
theorem near_no {zs : List PaperT} {th : Int} {i : Nat} (hi : i < zs.length) : ¬ (zs[i].thick - th < (nearTo zs th zs.length).2 ∧ th - zs[i].thick < (nearTo zs th zs.length).2) := by
  have := nearTo_le zs th zs.length i hi (Nat.le_refl _)
  unfold offOf at this
  omega
/-- each watermark that is told is one of a paper's, and a word -/
theorem names_of {zs : List PaperT} (h : papersOk zs = true) {m : ByteArray} (hm : m ∈ namR zs) : wAsk zs m = true ∧ 0 < (idsOfPaper (wTest m) zs).length := by
  rw [namR, if_pos h] at hm
  obtain ⟨_, h2⟩ := specN_spec (marksOf zs) [] (by simp)
  have h3 := (h2 (bsOf m)).1 (List.mem_map.2 ⟨m, hm, rfl⟩)
  have h4 : bsOf m ∈ (marksOf zs).map bsOf ∧ bsOf m ≠ [] := by
    rcases h3 with h3 | h3
    · cases h3
    · exact h3
  obtain ⟨m2, hm2, he⟩ := List.mem_map.1 h4.1
  have e : m2 = m := ByteArray.ext (Array.ext' he)
  subst e
  obtain ⟨c, hc, hce⟩ := List.mem_map.1 hm2
  obtain ⟨k, hk, rfl⟩ := List.getElem_of_mem hc
  have hok := papersOk_at h hk
  simp only [paperOk, Bool.and_eq_true] at hok
  have hw := hok.2
  rw [hce] at hw
  refine ⟨by rw [wAsk, h]; simpa [emptyB] using hw, ?_⟩
  rw [idsOfPaper, List.length_map]
  refine List.length_pos_iff.2 (List.ne_nil_of_mem (List.mem_filter.2 ⟨List.getElem_mem hk, ?_⟩))
  rw [wTest, hce]
  simp
end
end Go.Proofs.YtmnlkcclcnnhmaaGreatDoor
