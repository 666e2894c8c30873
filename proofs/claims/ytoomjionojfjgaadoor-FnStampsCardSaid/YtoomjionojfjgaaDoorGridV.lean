/- Rows of numbers, and rows of such rows, told equal by a law. Written by gen_gridv.py. -/
import Derived.Test.YtoomjionojfjgaaDoorIntSS
namespace Go.Proofs.YtoomjionojfjgaaDoor
open Go.RowKit

set_option maxHeartbeats 400000 in
theorem vInts_any (a b : Option Addr) (ca cb : Nat) (xs ys : List Int) (w : World) (hm : xs.length ≤ maxLen) (hm2 : ys.length ≤ maxLen) (hx : Reads w a (ints xs)) (hy : Reads w b (ints ys)) :
    Calls Tryd.prog 19 #[.slice a xs.length ca, .slice b ys.length cb] w fun e w' => e = .returned (.bool (decide (xs = ys))) ∧ Dr w w' := by
  unfold maxLen at hm hm2
  have HX := Lib.hid hx
  have HY := Lib.hid hy
  clear hx hy
  by_cases hlen : xs.length = ys.length
  · have hl2 : (((xs.length : Nat) : Int) != ((ys.length : Nat) : Int)) = false := by simp [hlen]
    have HL := Lib.hid hlen
    have hle : ys.length ≤ xs.length := by omega
    have hle2 : xs.length ≤ ys.length := by omega
    clear hlen
    go_enter Tryd.func19, Tryd.ntmps19
    go_wp2
    go_loopw [5] (fun i wr => ∃ k : Nat, k ≤ xs.length ∧ i = .int .i64 k ∧ Hid (xs.take k = ys.take k) ∧ Dr w wr) (fun i _ => xs.length - (intOf i).toNat)
    case atStart => exact ⟨0, Nat.zero_le _, rfl, by simp [Hid], Dr.refl _⟩
    case round =>
      obtain ⟨k, hk, rfl, ht, hdr⟩ := hrel
      by_cases hlt : k < xs.length
      · have hlt2 : k < ys.length := by omega
        rcases HX.out.dr hdr with h0 | ⟨b1, o1, rfl, hb1, hc1⟩
        · simp [ints] at h0; subst h0; simp at hlt
        rcases HY.out.dr hdr with h0 | ⟨b2, o2, rfl, hb2, hc2⟩
        · simp [ints] at h0; subst h0; simp at hlt2
        have hd1 := hc1 k _ (ints_get hlt)
        have hd2 := hc2 k _ (ints_get hlt2)
        clear hc1 hc2
        by_cases he : xs[k] = ys[k]
        · have ht2 := Lib.hid (take_eq_succ ht.out hlt hlt2 he)
          have hb : (xs[k] != ys[k]) = false := by simp [he]
          clear he
          go_wp2
          go_quiet (fail)
          go_wp2
          go_roundw
          case rel => exact ⟨k + 1, by omega, by go_num, ht2, hdr.trans (Dr.of _ _)⟩
          case measure => simp [intOf]; omega
        · have hne := Lib.hid (show ¬ xs = ys from fun e => he (by subst e; rfl))
          have hb : (xs[k] != ys[k]) = true := by simp [he]
          clear he
          go_wp2
          go_quiet (fail)
          go_wp2
          go_ret
          exact ⟨ret_bool (by simp [hne.out]), hdr.trans (Dr.of _ _)⟩
      · have hk2 : k = xs.length := by omega
        have heq := Lib.hid (show xs = ys by
          have h1 := ht.out
          rw [hk2, List.take_length, HL.out, List.take_length] at h1; exact h1)
        clear hk2
        go_wp2
        go_ret
        exact ⟨ret_bool (by simp [heq.out]), hdr⟩
  · have hl2 : (((xs.length : Nat) : Int) != ((ys.length : Nat) : Int)) = true := by simp; omega
    have hne := Lib.hid (show ¬ xs = ys from fun e => hlen (by rw [e]))
    clear hlen
    go_enter Tryd.func19, Tryd.ntmps19
    go_wp2
    go_ret
    exact ⟨ret_bool (by simp [hne.out]), Dr.refl _⟩
set_option maxHeartbeats 1000000 in
set_option maxRecDepth 100000 in
/-- two rows of rows with the same numbers are told equal -/
theorem vGrid_any (a b : Option Addr) (ca cb base base' : Nat) (rs ts : List Row2) (w : World) (hm : rs.length ≤ 1048576) (hs : ∀ r ∈ rs, r.zs.length ≤ 1048576) (he : zss rs = zss ts) (hx : Own2 w base (.slice a rs.length ca) rs) (hy : Own2 w base' (.slice b ts.length cb) ts) :
    Calls Tryd.prog 15 #[.slice a rs.length ca, .slice b ts.length cb] w fun e w' => e = .returned (.bool true) ∧ Dr w w' := by
  have hl : ts.length = rs.length := by have := congrArg List.length he; simpa [zss] using this.symm
  have HX := Lib.hid hx
  have HY := Lib.hid hy
  have HE : Hid (∀ k (h : k < rs.length) (h2 : k < ts.length), ts[k].zs = rs[k].zs) := Lib.hid (fun k h h2 => by
    have h3 : (zss rs)[k]? = (zss ts)[k]? := by rw [he]
    simp [zss, h, h2] at h3
    exact h3.symm)
  have HL := Lib.hid hl
  have HS := Lib.hid hs
  have hb0 : ((rs.length : Int) != (ts.length : Int)) = false := by simp; omega
  clear hx hy he hl hs
  go_enter Tryd.func15, Tryd.ntmps15
  go_wp2_with fail
  go_loopw [5] (fun i wr => ∃ k : Nat, k ≤ rs.length ∧ i = .int .i64 k ∧ Dr w wr) (fun i _ => rs.length - (intOf i).toNat)
  case atStart => exact ⟨0, Nat.zero_le _, rfl, Dr.refl _⟩
  case round =>
    obtain ⟨k, hk, rfl, hdr⟩ := hrel
    by_cases hlt : k < rs.length
    · have hlt2 : k < ts.length := by rw [HL.out]; exact hlt
      have hx := HX.out.dr hdr
      have hy := HY.out.dr hdr
      obtain ⟨g1, rfl, _, _⟩ := own_form hx.outer (by omega)
      obtain ⟨g2, rfl, _, _⟩ := own_form hy.outer (by omega)
      have c1 := hx.outer.cellAt k (by omega)
      rw [rows2_get hlt] at c1
      have c2 := hy.outer.cellAt k (by omega)
      rw [rows2_get hlt2] at c2
      have e2 := HE.out k hlt hlt2
      have i1 := own_reads (hx.inner k hlt)
      have i2 := own_reads (hy.inner k hlt2)
      have hsz := HS.out _ (List.getElem_mem hlt)
      obtain ⟨r, hr⟩ : ∃ r, r = rs[k] := ⟨_, rfl⟩
      obtain ⟨t, ht⟩ : ∃ t, t = ts[k] := ⟨_, rfl⟩
      rw [← hr] at c1 i1 e2 hsz
      rw [← ht] at c2 i2 e2
      obtain ⟨ra, rc, rz⟩ := r
      obtain ⟨ta, tc, tz⟩ := t
      simp only at e2 i1 i2 hsz
      subst e2
      have HQ : Hid (∀ n, Calls Tryd.prog 19 #[.slice ra tz.length rc, .slice ta tz.length tc] (wr.drewN n) fun e w' => e = .returned (.bool true) ∧ Dr (wr.drewN n) w') := Lib.hid (fun n => by
        have := vInts_any ra ta rc tc tz tz (wr.drewN n) (by unfold maxLen; omega) (by unfold maxLen; omega) (i1.dr (Dr.of _ _)) (i2.dr (Dr.of _ _))
        simpa using this)
      have HD := Lib.hid hdr
      clear hx hy i1 i2 hr ht hdr hsz
      go_wp2_with fail
      go_quiet ((go_at_call 19; exact quiet_dr (HQ.out _)))
      go_wp2_with fail
      go_roundw
      case rel => exact ⟨k + 1, by omega, by go_num, HD.out.trans (Dr.of _ _)⟩
      case measure => simp [intOf]; omega
    · obtain rfl : k = rs.length := by omega
      go_wp2_with fail
      go_ret
      exact ⟨rfl, hdr⟩
end Go.Proofs.YtoomjionojfjgaaDoor
