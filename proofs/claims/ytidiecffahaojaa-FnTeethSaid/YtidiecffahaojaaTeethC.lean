/- IsPair: both sides compute one value. -/
import Derived.Test.YtidiecffahaojaaTeethB
namespace Go.Proofs.Ytidiecffahaojaa
open Go.RowKit

def pairAt (za zb : List Int) (off : Int) (i : Nat) : Bool := inB (za.getD i 0 - za.getD 0 0 - zb.getD i 0 + zb.getD 0 0) (-off) off
def pairF (za zb : List Int) (off : Int) : Bool × Bool := if holesB za = true ∧ holesB zb = true ∧ za.length = zb.length ∧ inB off 0 50 = true then (allB za.length (pairAt za zb off), true) else (false, false)
theorem pairAt_zero (za zb : List Int) (off : Int) (h : 0 ≤ off) : pairAt za zb off 0 = true := by
  rw [pairAt, inB_true]; omega

set_option maxHeartbeats 2000000 in
theorem specPair_any (a b : Option Addr) (ca cb : Nat) (za zb : List Int) (off : Int) (w : World) (hm : za.length ≤ maxLen) (hm2 : zb.length ≤ maxLen) (hr : Reads w a (ints za)) (hr2 : Reads w b (ints zb)) :
    Calls Try.prog 22 #[.slice a za.length ca, .slice b zb.length cb, .int .i64 off] w fun e w' => e = .returned (.tuple #[.bool (pairF za zb off).1, .bool (pairF za zb off).2]) ∧ Dr w w' := by
  have hA := fun w hr => l5Holes_any a ca za w hm hr
  have hB := fun w hr => l5Holes_any b cb zb w hm2 hr
  have hC := fun w => l1In_any off 0 50 w
  unfold maxLen at hm hm2
  have HR := Lib.hid hr
  have HR2 := Lib.hid hr2
  clear hr hr2
  cases hha : holesB za
  · rw [hha] at hA
    have HA := Lib.hid hA
    rw [show pairF za zb off = (false, false) by simp [pairF, hha]]
    clear hA hB hC hha
    go_enter Try.func22, Try.ntmps22
    go_wp2_with (go_at_call 41; refine (HA.out _ HR.out).mono ?_; rintro e w' ⟨rfl, n, rfl⟩)
    go_ret2
    exact ⟨rfl, Dr.of _ _⟩
  rw [hha] at hA
  have HA := Lib.hid hA
  clear hA
  cases hhb : holesB zb
  · rw [hhb] at hB
    have HB := Lib.hid hB
    rw [show pairF za zb off = (false, false) by simp [pairF, hhb]]
    clear hB hC hhb
    go_enter Try.func22, Try.ntmps22
    go_wp2_with fail
    refine (HA.out _ HR.out).mono ?_
    rintro e w' ⟨rfl, n, rfl⟩
    go_wp2_with (go_at_call 41; refine (HB.out _ (HR2.out.dr (Dr.of _ _))).mono ?_; rintro e w' ⟨rfl, m, rfl⟩)
    go_ret2
    exact ⟨rfl, Dr.of _ _⟩
  rw [hhb] at hB
  have HB := Lib.hid hB
  clear hB
  by_cases hlen : za.length = zb.length
  · have hl2 : (((za.length : Nat) : Int) != ((zb.length : Nat) : Int)) = false := by simp [hlen]
    cases hin : inB off 0 50
    · rw [hin] at hC
      have HC := Lib.hid hC
      rw [show pairF za zb off = (false, false) by simp [pairF, hin]]
      clear hC hhb hha hin hlen
      go_enter Try.func22, Try.ntmps22
      go_wp2_with fail
      refine (HA.out _ HR.out).mono ?_
      rintro e w' ⟨rfl, n, rfl⟩
      go_wp2_with fail
      refine (HB.out _ (HR2.out.dr (Dr.of _ _))).mono ?_
      rintro e w' ⟨rfl, m, rfl⟩
      go_wp2_with (go_at_call 51; refine (HC.out _).mono ?_; rintro e w' ⟨rfl, rfl⟩)
      go_ret2
      exact ⟨rfl, Dr.of _ _⟩
    · rw [hin] at hC
      have HC := Lib.hid hC
      rw [show pairF za zb off = (allB za.length (pairAt za zb off), true) by simp [pairF, hin, hha, hhb, hlen]]
      have qa := holes_of hha
      have qb := holes_of hhb
      rw [inB_true] at hin
      obtain ⟨ho1, ho2⟩ := hin
      have hP0 := Lib.hid (show allB 1 (pairAt za zb off) = true from allB_step (allB_zero _) (pairAt_zero _ _ _ ho1))
      have h2a := qa.two
      have h4a := qa.forty
      have hle : zb.length ≤ za.length := by omega
      have hle2 : za.length ≤ zb.length := by omega
      have QA := Lib.hid qa
      have QB := Lib.hid qb
      clear hC hhb hha hlen qa qb
      go_enter Try.func22, Try.ntmps22
      go_wp2_with fail
      refine (HA.out _ HR.out).mono ?_
      rintro e w' ⟨rfl, n, rfl⟩
      go_wp2_with fail
      refine (HB.out _ (HR2.out.dr (Dr.of _ _))).mono ?_
      rintro e w' ⟨rfl, m, rfl⟩
      go_wp2_with (go_at_call 51; refine (HC.out _).mono ?_; rintro e w' ⟨rfl, rfl⟩)
      go_loopw [8] (fun i wr => ∃ k : Nat, 1 ≤ k ∧ k ≤ za.length ∧ i = .int .i64 k ∧ Hid (allB k (pairAt za zb off) = true) ∧ Dr w wr) (fun i _ => za.length - (intOf i).toNat)
      case atStart => exact ⟨1, by omega, by omega, rfl, hP0, Dr.of _ _⟩
      case round =>
        obtain ⟨k, hk1, hk, rfl, ht, hdr⟩ := hrel
        by_cases hlt : k < za.length
        · have hlt2 : k < zb.length := by omega
          rcases HR.out.dr hdr with h0 | ⟨b1, o1, rfl, hb1, hx⟩
          · simp [ints] at h0; subst h0; simp at hlt
          rcases HR2.out.dr hdr with h0 | ⟨b2, o2, rfl, hb2, hy⟩
          · simp [ints] at h0; subst h0; simp at hlt2
          have hx0 := hx 0 _ (ints_get (show 0 < za.length by omega))
          have hxk := hx k _ (ints_get hlt)
          have hy0 := hy 0 _ (ints_get (show 0 < zb.length by omega))
          have hyk := hy k _ (ints_get hlt2)
          rw [Nat.add_zero] at hx0 hy0
          have c1 := QA.out.lo k hlt
          have c2 := QA.out.hi k hlt
          have c3 := QA.out.lo 0 (by omega)
          have c4 := QA.out.hi 0 (by omega)
          have d1 := QB.out.lo k hlt2
          have d2 := QB.out.hi k hlt2
          have d3 := QB.out.lo 0 (by omega)
          have d4 := QB.out.hi 0 (by omega)
          have hpa : pairAt za zb off k = inB (za[k] - za[0] - zb[k] + zb[0]) (-off) off := by
            rw [pairAt, getD_of hlt, getD_of hlt2, getD_of (show 0 < za.length by omega), getD_of (show 0 < zb.length by omega)]
          rw [getD_of hlt] at c1 c2
          rw [getD_of (show 0 < za.length by omega)] at c3 c4
          rw [getD_of hlt2] at d1 d2
          rw [getD_of (show 0 < zb.length by omega)] at d3 d4
          have hD := fun w => l1In_any (za[k] - za[0] - zb[k] + zb[0]) (-off) off w
          cases hp : pairAt za zb off k
          · rw [← hpa, hp] at hD
            have HD := Lib.hid hD
            have hP := Lib.hid (allB_no hlt hp)
            clear hp hpa hD hx hy
            go_wp2_with fail
            go_quiet ((go_at_call 51; exact quiet_same (HD.out _)))
            go_wp2
            go_ret2
            exact ⟨by rw [hP.out]; rfl, hdr.trans (Dr.of _ _)⟩
          · rw [← hpa, hp] at hD
            have HD := Lib.hid hD
            have hP := Lib.hid (allB_step ht.out hp)
            clear hp hpa hD hx hy
            go_wp2_with fail
            go_quiet ((go_at_call 51; exact quiet_same (HD.out _)))
            go_wp2
            go_roundw
            case rel => exact ⟨k + 1, by omega, by omega, by go_num, hP, hdr.trans (Dr.of _ _)⟩
            case measure => simp [intOf]; omega
        · have heq := Lib.hid (show allB za.length (pairAt za zb off) = true by rw [show za.length = k from by omega]; exact ht.out)
          go_wp2
          go_ret2
          exact ⟨by rw [heq.out]; rfl, hdr⟩
  · have hl2 : (((za.length : Nat) : Int) != ((zb.length : Nat) : Int)) = true := by simp; omega
    rw [show pairF za zb off = (false, false) by simp [pairF, hlen]]
    clear hhb hha hlen hC
    go_enter Try.func22, Try.ntmps22
    go_wp2_with fail
    refine (HA.out _ HR.out).mono ?_
    rintro e w' ⟨rfl, n, rfl⟩
    go_wp2_with fail
    refine (HB.out _ (HR2.out.dr (Dr.of _ _))).mono ?_
    rintro e w' ⟨rfl, m, rfl⟩
    go_wp2_with fail
    go_ret2
    exact ⟨rfl, Dr.of _ _⟩
set_option maxHeartbeats 2000000 in
theorem implPair_any (a b : Option Addr) (ca cb : Nat) (za zb : List Int) (off : Int) (w : World) (hm : za.length ≤ maxLen) (hm2 : zb.length ≤ maxLen) (hr : Reads w a (ints za)) (hr2 : Reads w b (ints zb)) :
    Calls Try.prog 20 #[.slice a za.length ca, .slice b zb.length cb, .int .i64 off] w fun e w' => e = .returned (.tuple #[.bool (pairF za zb off).1, .bool (pairF za zb off).2]) ∧ Dr w w' := by
  have hA := fun w hr => areHoles_any a ca za w hm hr
  have hB := fun w hr => areHoles_any b cb zb w hm2 hr
  have hC := fun w => inRange_any off 0 50 w
  unfold maxLen at hm hm2
  have HR := Lib.hid hr
  have HR2 := Lib.hid hr2
  clear hr hr2
  cases hha : holesB za
  · rw [hha] at hA
    have HA := Lib.hid hA
    rw [show pairF za zb off = (false, false) by simp [pairF, hha]]
    clear hA hB hC hha
    go_enter Try.func20, Try.ntmps20
    go_wp2_with (go_at_call 39; refine (HA.out _ HR.out).mono ?_; rintro e w' ⟨rfl, n, rfl⟩)
    go_ret2
    exact ⟨rfl, Dr.of _ _⟩
  rw [hha] at hA
  have HA := Lib.hid hA
  clear hA
  cases hhb : holesB zb
  · rw [hhb] at hB
    have HB := Lib.hid hB
    rw [show pairF za zb off = (false, false) by simp [pairF, hhb]]
    clear hB hC hhb
    go_enter Try.func20, Try.ntmps20
    go_wp2_with fail
    refine (HA.out _ HR.out).mono ?_
    rintro e w' ⟨rfl, n, rfl⟩
    go_wp2_with (go_at_call 39; refine (HB.out _ (HR2.out.dr (Dr.of _ _))).mono ?_; rintro e w' ⟨rfl, m, rfl⟩)
    go_ret2
    exact ⟨rfl, Dr.of _ _⟩
  rw [hhb] at hB
  have HB := Lib.hid hB
  clear hB
  cases hin : inB off 0 50
  · rw [hin] at hC
    have HC := Lib.hid hC
    rw [show pairF za zb off = (false, false) by simp [pairF, hin]]
    clear hC hhb hha hin
    go_enter Try.func20, Try.ntmps20
    go_wp2_with fail
    refine (HA.out _ HR.out).mono ?_
    rintro e w' ⟨rfl, n, rfl⟩
    go_wp2_with fail
    refine (HB.out _ (HR2.out.dr (Dr.of _ _))).mono ?_
    rintro e w' ⟨rfl, m, rfl⟩
    go_wp2_with (go_at_call 47; refine (HC.out _).mono ?_; rintro e w' ⟨rfl, rfl⟩)
    go_ret2
    exact ⟨rfl, Dr.of _ _⟩
  rw [hin] at hC
  have HC := Lib.hid hC
  clear hC
  by_cases hlen : za.length = zb.length
  · have hl2 : (((za.length : Nat) : Int) != ((zb.length : Nat) : Int)) = false := by simp [hlen]
    rw [show pairF za zb off = (allB za.length (pairAt za zb off), true) by simp [pairF, hin, hha, hhb, hlen]]
    have qa := holes_of hha
    have qb := holes_of hhb
    rw [inB_true] at hin
    obtain ⟨ho1, ho2⟩ := hin
    have h2a := qa.two
    have h4a := qa.forty
    have hle : zb.length ≤ za.length := by omega
    have hle2 : za.length ≤ zb.length := by omega
    have QA := Lib.hid qa
    have QB := Lib.hid qb
    clear hhb hha hlen qa qb
    go_enter Try.func20, Try.ntmps20
    go_wp2_with fail
    refine (HA.out _ HR.out).mono ?_
    rintro e w' ⟨rfl, n, rfl⟩
    go_wp2_with fail
    refine (HB.out _ (HR2.out.dr (Dr.of _ _))).mono ?_
    rintro e w' ⟨rfl, m, rfl⟩
    go_wp2_with (go_at_call 47; refine (HC.out _).mono ?_; rintro e w' ⟨rfl, rfl⟩)
    go_loopw [32] (fun i wr => ∃ k : Nat, k ≤ za.length ∧ i = .int .i64 k ∧ Hid (allB k (pairAt za zb off) = true) ∧ Dr w wr) (fun i _ => za.length - (intOf i).toNat)
    case atStart => exact ⟨0, by omega, rfl, allB_zero _, Dr.of _ _⟩
    case round =>
      obtain ⟨k, hk, rfl, ht, hdr⟩ := hrel
      by_cases hlt : k < za.length
      · have hlt2 : k < zb.length := by omega
        rcases HR.out.dr hdr with h0 | ⟨b1, o1, rfl, hb1, hx⟩
        · simp [ints] at h0; subst h0; simp at hlt
        rcases HR2.out.dr hdr with h0 | ⟨b2, o2, rfl, hb2, hy⟩
        · simp [ints] at h0; subst h0; simp at hlt2
        have hx0 := hx 0 _ (ints_get (show 0 < za.length by omega))
        have hxk := hx k _ (ints_get hlt)
        have hy0 := hy 0 _ (ints_get (show 0 < zb.length by omega))
        have hyk := hy k _ (ints_get hlt2)
        rw [Nat.add_zero] at hx0 hy0
        have c1 := QA.out.lo k hlt
        have c2 := QA.out.hi k hlt
        have c3 := QA.out.lo 0 (by omega)
        have c4 := QA.out.hi 0 (by omega)
        have d1 := QB.out.lo k hlt2
        have d2 := QB.out.hi k hlt2
        have d3 := QB.out.lo 0 (by omega)
        have d4 := QB.out.hi 0 (by omega)
        have hpa : pairAt za zb off k = inB (za[k] - za[0] - zb[k] + zb[0]) (-off) off := by
          rw [pairAt, getD_of hlt, getD_of hlt2, getD_of (show 0 < za.length by omega), getD_of (show 0 < zb.length by omega)]
        rw [getD_of hlt] at c1 c2
        rw [getD_of (show 0 < za.length by omega)] at c3 c4
        rw [getD_of hlt2] at d1 d2
        rw [getD_of (show 0 < zb.length by omega)] at d3 d4
        cases hp : pairAt za zb off k
        · have hP := Lib.hid (allB_no hlt hp)
          rw [hpa, inB_false] at hp
          have hp2 : off < max (za[k] - za[0] - (zb[k] - zb[0])) (-(za[k] - za[0] - (zb[k] - zb[0]))) := by omega
          clear hp hpa hx hy
          go_wp2_with fail
          go_quiet (fail)
          go_wp2
          all_goals go_ret2
          all_goals exact ⟨by rw [hP.out]; rfl, hdr.trans (Dr.of _ _)⟩
        · have hP := Lib.hid (allB_step ht.out hp)
          rw [hpa, inB_true] at hp
          have hp2 : max (za[k] - za[0] - (zb[k] - zb[0])) (-(za[k] - za[0] - (zb[k] - zb[0]))) ≤ off := by omega
          obtain ⟨hp3, hp4⟩ := hp
          clear hpa hx hy
          go_wp2_with fail
          go_quiet (fail)
          go_wp2
          go_roundw
          case rel => exact ⟨k + 1, by omega, by go_num, hP, hdr.trans (Dr.of _ _)⟩
          case measure => simp [intOf]; omega
      · have heq := Lib.hid (show allB za.length (pairAt za zb off) = true by rw [show za.length = k from by omega]; exact ht.out)
        go_wp2
        go_ret2
        exact ⟨by rw [heq.out]; rfl, hdr⟩
  · have hl2 : (((za.length : Nat) : Int) != ((zb.length : Nat) : Int)) = true := by simp; omega
    rw [show pairF za zb off = (false, false) by simp [pairF, hlen]]
    clear hhb hha hlen hin
    go_enter Try.func20, Try.ntmps20
    go_wp2_with fail
    refine (HA.out _ HR.out).mono ?_
    rintro e w' ⟨rfl, n, rfl⟩
    go_wp2_with fail
    refine (HB.out _ (HR2.out.dr (Dr.of _ _))).mono ?_
    rintro e w' ⟨rfl, m, rfl⟩
    go_wp2_with (go_at_call 47; refine (HC.out _).mono ?_; rintro e w' ⟨rfl, rfl⟩)
    go_ret2
    exact ⟨rfl, Dr.of _ _⟩
end Go.Proofs.Ytidiecffahaojaa
