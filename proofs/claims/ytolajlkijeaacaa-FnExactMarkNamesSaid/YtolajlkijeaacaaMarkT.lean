/- markText: a text that shows a number; string rows: eqStringS, markStringS, heldStringS. -/
import Derived.Test.YtolajlkijeaacaaOwn
import Derived.Test.YtolajlkijeaacaaQuiet
import Derived.ShutString
namespace Go.Proofs.Ytolajlkijeaacaa
open Go.RowKit

theorem ba_cons (b : UInt8) (out : List UInt8) : (⟨(b :: out).toArray⟩ : ByteArray) = ⟨#[b]⟩ ++ ⟨out.toArray⟩ := by
  apply ByteArray.ext
  simp [ByteArray.data_append]
def digsF : Nat → Nat → List UInt8
  | 0, _ => []
  | f + 1, n => if n = 0 then [] else digsF f (n / 10) ++ [UInt8.ofNat (48 + n % 10)]
theorem digsF_zero (f : Nat) : digsF f 0 = [] := by cases f <;> simp [digsF]
theorem digsF_len (f n : Nat) : (digsF f n).length ≤ f := by
  induction f generalizing n with
  | zero => simp [digsF]
  | succ f ih =>
    rw [digsF]; split
    · simp
    · have := ih (n / 10); simp; omega
/-- the text of a positive number behind an m -/
def mkText (k : Nat) : ByteArray := ⟨(109 :: digsF 20 k).toArray⟩
theorem mkText_size (k : Nat) : (mkText k).size ≤ 21 := by
  have := digsF_len 20 k
  show (109 :: digsF 20 k).toArray.size ≤ 21
  simp; omega
set_option maxHeartbeats 1000000 in
set_option maxRecDepth 100000 in
theorem markText_any (k : Nat) (w : World) (h0 : 0 < k) (h1 : k ≤ 1099511627776) : Calls Try.prog 37 #[.int .i64 k] w fun e w' => e = .returned (.string (mkText k)) ∧ Below w.heap.size w w' := by
  have hp : decide (k = 0) = false := by simp; omega
  go_enter Try.func37, Try.ntmps37
  go_wp2
  go_loopw [0, 3] (fun q v wr => ∃ f n : Nat, ∃ out : List UInt8, n ≤ k ∧ Hid (n < 10 ^ f) ∧ f ≤ 20 ∧ q = .int .i64 n ∧ v = .string ⟨out.toArray⟩ ∧ out.length ≤ 20 - f ∧ Hid (digsF 20 k = digsF f n ++ out) ∧ Below w.heap.size w wr) (fun q _ _ => (intOf q).toNat)
  case atStart => exact ⟨20, k, [], Nat.le_refl _, Lib.hid (by omega), by omega, rfl, rfl, by simp, by simp [Hid], Below.refl _ _⟩
  case round =>
    obtain ⟨f, n, out, hn, hf, hf2, rfl, rfl, hol, hd, hbel⟩ := hrel
    by_cases hlt : 0 < n
    · obtain ⟨d, hdd⟩ : ∃ d : UInt8, d = UInt8.ofNat (48 + n % 10) := ⟨_, rfl⟩
      have hdn : d.toNat = 48 + n % 10 := by rw [hdd, UInt8.toNat_ofNat']; omega
      have HDD := Lib.hid hdd
      clear hdd
      have kc : ∀ c : Nat, (convert 22 9 (.slice (some ⟨wr.heap.size, 0, none⟩) 1 c)).run Try.prog (wr.alloc (.cells #[.int .u8 (48 + (n : Int) % 10)] 5)) = .ok (.string ⟨#[d]⟩) (wr.alloc (.cells #[.int .u8 (48 + (n : Int) % 10)] 5)) := fun c => by
        refine run_convert_bytes_back (P := Try.prog) (wr.alloc (.cells #[.int .u8 (48 + (n : Int) % 10)] 5)) 22 9 5 ⟨wr.heap.size, 0, none⟩ c [d] Try.underlying22 Try.underlying5 Try.underlying9 ?_
        intro j hj
        have hj0 : j = 0 := by simpa using hj
        subst hj0
        rw [show ((⟨wr.heap.size, 0, none⟩ : Addr).add 0) = ⟨wr.heap.size, 0, none⟩ from by simp [Addr.add], Go.Joins.cell_of_block (heap_alloc_new wr _) 0]
        simp only [List.getElem_cons_zero, hdn]
        simp
      clear hdn
      have hbel2 := Lib.hid (hbel.alloc hbel.size (.cells #[.int .u8 (48 + (n : Int) % 10)] 5))
      obtain ⟨f', rfl⟩ : ∃ f', f = f' + 1 := ⟨f - 1, by
        have := hf.out
        cases f with
        | zero => simp at this; omega
        | succ f => omega⟩
      have hst : Hid (digsF 20 k = digsF f' (n / 10) ++ (d :: out)) := Lib.hid (by
        rw [HDD.out, hd.out, digsF, if_neg (by omega)]; simp)
      have hf3 : Hid (n / 10 < 10 ^ f') := Lib.hid (by have := hf.out; rw [Nat.pow_succ] at this; omega)
      have hos : (⟨out.toArray⟩ : ByteArray).size = out.length := size_of_list out
      have hlt2 : (0 : Int) < (n : Int) := by omega
      have h10 : n / 10 ≤ k := by omega
      clear hd hf
      go_wp2_with fail
      go_roundw
      case rel => exact ⟨f', n / 10, d :: out, h10, hf3, by omega, by go_num, congrArg Value.string (ba_cons d out).symm, by simp; omega, hst, hbel2.out⟩
      case measure => simp [intOf]; omega
    · obtain rfl : n = 0 := by omega
      have hfin : Hid (digsF 20 k = out) := Lib.hid (by rw [hd.out, digsF_zero, List.nil_append])
      clear hd hf
      go_wp2
      go_ret
      exact ⟨by rw [mkText, hfin.out, ← ba_cons]; rfl, hbel⟩

theorem str_ext {a b : ByteArray} (h : a.toList = b.toList) : a = b := by
  rw [ByteArray.toList_eq, ByteArray.toList_eq] at h
  exact ByteArray.ext (Array.toList_inj.mp h)
theorem str_beq {a b : ByteArray} (h : a = b) : (a.toList == b.toList) = true := by rw [h]; simp
theorem str_bne {a b : ByteArray} (h : ¬ a = b) : (a.toList == b.toList) = false := by
  rw [beq_eq_false_iff_ne]; exact fun e => h (str_ext e)
theorem str_beq_dec (a b : ByteArray) : (a.toList == b.toList) = decide (a = b) := by
  by_cases h : a = b
  · rw [str_beq h]; simp [h]
  · rw [str_bne h]; simp [h]
/-! ### Rows of texts -/
abbrev strs (ss : List ByteArray) : List Value := ss.map Value.string
theorem strs_get {zs : List ByteArray} {k : Nat} (h : k < zs.length) : (strs zs)[k]? = some (.string zs[k]) := by simp [strs, h]
set_option maxHeartbeats 400000 in
theorem eqStringS_any (a b : Option Addr) (ca cb : Nat) (xs ys : List ByteArray) (w : World) (hm : xs.length ≤ maxLen) (hm2 : ys.length ≤ maxLen) (hx : Reads w a (strs xs)) (hy : Reads w b (strs ys)) :
    Calls Try.prog 20 #[.slice a xs.length ca, .slice b ys.length cb] w fun e w' => e = .returned (.bool (decide (xs = ys))) ∧ Dr w w' := by
  unfold maxLen at hm hm2
  have HX := Lib.hid hx
  have HY := Lib.hid hy
  clear hx hy
  by_cases hlen : xs.length = ys.length
  · have hl2 : (((xs.length : Nat) : Int) != ((ys.length : Nat) : Int)) = false := by simp [hlen]
    have HL := Lib.hid hlen
    have hle : ys.length ≤ xs.length := by omega
    have hle2 : xs.length ≤ ys.length := by omega
    clear hlen
    go_enter Try.func20, Try.ntmps20
    go_wp2
    go_loopw [5] (fun i wr => ∃ k : Nat, k ≤ xs.length ∧ i = .int .i64 k ∧ Hid (xs.take k = ys.take k) ∧ Dr w wr) (fun i _ => xs.length - (intOf i).toNat)
    case atStart => exact ⟨0, Nat.zero_le _, rfl, by simp [Hid], Dr.refl _⟩
    case round =>
      obtain ⟨k, hk, rfl, ht, hdr⟩ := hrel
      by_cases hlt : k < xs.length
      · have hlt2 : k < ys.length := by omega
        rcases HX.out.dr hdr with h0 | ⟨b1, o1, rfl, hb1, hc1⟩
        · simp [strs] at h0; subst h0; simp at hlt
        rcases HY.out.dr hdr with h0 | ⟨b2, o2, rfl, hb2, hc2⟩
        · simp [strs] at h0; subst h0; simp at hlt2
        have hd1 := hc1 k _ (strs_get hlt)
        have hd2 := hc2 k _ (strs_get hlt2)
        clear hc1 hc2
        by_cases he : xs[k] = ys[k]
        · have ht2 := Lib.hid (take_eq_succ ht.out hlt hlt2 he)
          have hb : (xs[k].toList == ys[k].toList) = true := str_beq he
          clear he
          go_wp2
          go_quiet (fail)
          go_wp2
          go_roundw
          case rel => exact ⟨k + 1, by omega, by go_num, ht2, hdr.trans (Dr.of _ _)⟩
          case measure => simp [intOf]; omega
        · have hne := Lib.hid (show ¬ xs = ys from fun e => he (by subst e; rfl))
          have hb : (xs[k].toList == ys[k].toList) = false := str_bne he
          clear he
          go_wp2
          go_quiet (fail)
          go_wp2
          go_ret
          exact ⟨ret_bool (by simp [hne.out]), hdr.trans (Dr.of _ _)⟩
      · have hk2 : k = xs.length := by omega
        have heq := Lib.hid (show xs = ys by
          have h1 := ht.out
          rw [hk2, List.take_length, HL.out, List.take_length] at h1; exact h1)
        clear hk2
        go_wp2
        go_ret
        exact ⟨ret_bool (by simp [heq.out]), hdr⟩
  · have hl2 : (((xs.length : Nat) : Int) != ((ys.length : Nat) : Int)) = true := by simp; omega
    have hne := Lib.hid (show ¬ xs = ys from fun e => hlen (by rw [e]))
    clear hlen
    go_enter Try.func20, Try.ntmps20
    go_wp2
    go_ret
    exact ⟨ret_bool (by simp [hne.out]), Dr.refl _⟩
theorem below_grown {w w' : World} (h : Below w.heap.size w w') (row : Option Nat) : w.grownBy w' row := ⟨h.os, h.tape, h.output, h.size, fun k hk _ => h.block k hk⟩
/-- the texts of the numbers from k on -/
def mkTexts (k : Nat) (n : Nat) : List ByteArray := (List.range n).map fun (i : Nat) => mkText (k + i)
theorem mkTexts_length (k n : Nat) : (mkTexts k n).length = n := by simp [mkTexts]
theorem mkTexts_get {k n i : Nat} (h : i < n) : (strs (mkTexts k n))[i]? = some (.string (mkText (k + i))) := by simp [strs, mkTexts, h]
theorem markStrs_step {xs : List Value} {k j : Nat} (hj : j < xs.length) : (strs (mkTexts k j) ++ xs.drop j).set j (.string (mkText (k + j))) = strs (mkTexts k (j + 1)) ++ xs.drop (j + 1) := by
  have e0 : (strs (mkTexts k j)).length = j := by simp [strs, mkTexts_length]
  rw [List.set_append_right _ _ (by omega), e0, Nat.sub_self, List.drop_eq_getElem_cons hj, List.set_cons_zero]
  simp [strs, mkTexts, List.range_succ]
set_option maxHeartbeats 1000000 in
theorem markStringS_any (a : Option Addr) (n cap base : Nat) (xs : List Value) (kk : Int) (k : Nat) (w : World) (hkk : kk = (k : Int)) (hk : 0 < k) (hk2 : k ≤ 549755813888) (hn : n ≤ 549755813888)
    (h : w.ownsRow base 9 1 (.slice a n cap) n xs) :
    Calls Try.prog 23 #[.slice a n cap, .int .i64 kk] w fun e w' => e = .returned (.int .i64 (kk + (n : Int))) ∧ w'.ownsRow base 9 1 (.slice a n cap) n (strs (mkTexts k n)) ∧ w.grownBy w' (Value.slice a n cap).ownBlock := by
  subst hkk
  have hl : xs.length = n := by have := h.1; omega
  have H := Lib.hid h
  have hl1 : xs.length ≤ n := by omega
  have hl2 : n ≤ xs.length := by omega
  clear h hl
  go_enter Try.func23, Try.ntmps23
  go_wp2
  go_loopw [1, 5] (fun q i wr => ∃ j : Nat, j ≤ n ∧ i = .int .i64 j ∧ q = .int .i64 ((k : Int) + (j : Int)) ∧ wr.ownsRow base 9 1 (.slice a n cap) n (strs (mkTexts k j) ++ xs.drop j) ∧ w.grownBy wr (Value.slice a n cap).ownBlock) (fun _ i _ => n - (intOf i).toNat)
  case atStart => exact ⟨0, Nat.zero_le _, rfl, by go_num, by simpa [mkTexts] using H.out, World.grownBy.refl _ _⟩
  case round =>
    obtain ⟨j, hj, rfl, rfl, hown, hgr⟩ := hrel
    by_cases hlt : j < n
    · obtain ⟨g, rfl, hb, hg⟩ := own_form hown (by omega)
      have HT := Lib.hid (fun w => markText_any (k + j) w (by omega) (by omega))
      have HO := Lib.hid hown
      have HG := Lib.hid hgr
      clear hown hgr
      go_wp2_with fail
      rw [show (k : Int) + (j : Int) = ((k + j : Nat) : Int) from by omega]
      refine (HT.out _).mono ?_
      rintro e w1 ⟨rfl, hb1⟩
      have hown1 := own_below HO.out hb1
      have hgr1 := grownBy_trans HG.out (below_grown hb1 (Value.slice (some ⟨g, 0, none⟩) n cap).ownBlock)
      have hc := hown1.cellAt j (by omega)
      rw [List.getElem?_append_right (by simp [mkTexts_length]), List.getElem?_drop, show j + (j - (strs (mkTexts k j)).length) = j from by simp [mkTexts_length], List.getElem?_eq_getElem (by omega)] at hc
      have hf := hown1.frozenAt j
      have hst := hown1.stored j (.string (mkText (k + j)))
      rw [markStrs_step (by omega)] at hst
      have hown2 := Lib.hid hst.1
      have hgr2 := Lib.hid (grownBy_trans hgr1 hst.2)
      rw [← show (k : Int) + (j : Int) = ((k + j : Nat) : Int) from by omega]
      clear hown1 hgr1 hst hb1
      go_wp2_with fail
      go_roundw
      case rel => exact ⟨j + 1, by omega, by go_num, by go_num, hown2.out, hgr2.out⟩
      case measure => simp [intOf]; omega
    · obtain rfl : j = n := by omega
      have hown2 : wr.ownsRow base 9 1 (.slice a j cap) j (strs (mkTexts k j)) := by
        rw [List.drop_eq_nil_of_le hl1, List.append_nil] at hown; exact hown
      clear hown
      go_wp2
      go_ret
      exact ⟨rfl, hown2, hgr⟩
end Go.Proofs.Ytolajlkijeaacaa
