/- Rows of numbers, and rows of such rows, told equal by a law. Written by gen_gridv.py. -/
import Derived.Test.YtieopadbbciciaaIntSS
namespace Go.Proofs.Ytieopadbbciciaa
open Go.RowKit

set_option maxHeartbeats 400000 in
theorem vInts_any (a b : Option Addr) (ca cb : Nat) (xs ys : List Int) (w : World) (hm : xs.length ≤ maxLen) (hm2 : ys.length ≤ maxLen) (hx : Reads w a (ints xs)) (hy : Reads w b (ints ys)) :
    Calls Try.prog 18 #[.slice a xs.length ca, .slice b ys.length cb] w fun e w' => e = .returned (.bool (decide (xs = ys))) ∧ Dr w w' := by
  unfold maxLen at hm hm2
  have HX := Lib.hid hx
  have HY := Lib.hid hy
  clear hx hy
  by_cases hlen : xs.length = ys.length
  · have hl2 : (((xs.length : Nat) : Int) != ((ys.length : Nat) : Int)) = false := by simp [hlen]
    have HL := Lib.hid hlen
    have hle : ys.length ≤ xs.length := by omega
    have hle2 : xs.length ≤ ys.length := by omega
    clear hlen
    go_enter Try.func18, Try.ntmps18
    go_wp2
    go_loopw [5] (fun i wr => ∃ k : Nat, k ≤ xs.length ∧ i = .int .i64 k ∧ Hid (xs.take k = ys.take k) ∧ Dr w wr) (fun i _ => xs.length - (intOf i).toNat)
    case atStart => exact ⟨0, Nat.zero_le _, rfl, by simp [Hid], Dr.refl _⟩
    case round =>
      obtain ⟨k, hk, rfl, ht, hdr⟩ := hrel
      by_cases hlt : k < xs.length
      · have hlt2 : k < ys.length := by omega
        rcases HX.out.dr hdr with h0 | ⟨b1, o1, rfl, hb1, hc1⟩
        · simp [ints] at h0; subst h0; simp at hlt
        rcases HY.out.dr hdr with h0 | ⟨b2, o2, rfl, hb2, hc2⟩
        · simp [ints] at h0; subst h0; simp at hlt2
        have hd1 := hc1 k _ (ints_get hlt)
        have hd2 := hc2 k _ (ints_get hlt2)
        clear hc1 hc2
        by_cases he : xs[k] = ys[k]
        · have ht2 := Lib.hid (take_eq_succ ht.out hlt hlt2 he)
          have hb : (xs[k] != ys[k]) = false := by simp [he]
          clear he
          go_wp2
          go_quiet (fail)
          go_wp2
          go_roundw
          case rel => exact ⟨k + 1, by omega, by go_num, ht2, hdr.trans (Dr.of _ _)⟩
          case measure => simp [intOf]; omega
        · have hne := Lib.hid (show ¬ xs = ys from fun e => he (by subst e; rfl))
          have hb : (xs[k] != ys[k]) = true := by simp [he]
          clear he
          go_wp2
          go_quiet (fail)
          go_wp2
          go_ret
          exact ⟨ret_bool (by simp [hne.out]), hdr.trans (Dr.of _ _)⟩
      · have hk2 : k = xs.length := by omega
        have heq := Lib.hid (show xs = ys by
          have h1 := ht.out
          rw [hk2, List.take_length, HL.out, List.take_length] at h1; exact h1)
        clear hk2
        go_wp2
        go_ret
        exact ⟨ret_bool (by simp [heq.out]), hdr⟩
  · have hl2 : (((xs.length : Nat) : Int) != ((ys.length : Nat) : Int)) = true := by simp; omega
    have hne := Lib.hid (show ¬ xs = ys from fun e => hlen (by rw [e]))
    clear hlen
    go_enter Try.func18, Try.ntmps18
    go_wp2
    go_ret
    exact ⟨ret_bool (by simp [hne.out]), Dr.refl _⟩
end Go.Proofs.Ytieopadbbciciaa
