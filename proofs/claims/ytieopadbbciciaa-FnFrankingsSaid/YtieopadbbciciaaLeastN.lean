/- LeastOver: the program's side. -/
import Derived.Test.YtieopadbbciciaaLeastM
import Derived.Laws.EntriesVeiled
namespace Go.Proofs.Ytieopadbbciciaa
open Go.RowKit

theorem below_alloc3 (w : World) (o1 o2 o3 : Obj) : Below w.heap.size w (((w.alloc o1).alloc o2).alloc o3) := (Go.Joins.below_alloc2 w o1 o2).alloc (by simp; omega) o3
theorem reads_low {w : World} {a : Option Addr} {xs : List Value} (h : Reads w a xs) (hn : xs ≠ []) : ∀ q, a = some q → q.block < w.heap.size := by
  intro q hq
  rcases h with h0 | ⟨b, off, rfl, hb, _⟩
  · exact absurd h0 hn
  · injection hq with hq; subst hq; exact hb
theorem Fr.low {C : Nat → Prop} {w w1 w2 : World} (h : Below w.heap.size w w1) (hf : Fr C w1 w2) (hC : ∀ k, C k → w.heap.size ≤ k) : Below w.heap.size w w2 :=
  h.trans ⟨hf.os, hf.tape, hf.output, hf.size, fun k hk => hf.block k (Nat.lt_of_lt_of_le hk h.size) (fun hc => by have := hC k hc; omega)⟩
set_option maxRecDepth 100000 in
set_option maxHeartbeats 4000000 in
theorem implLeast_any (a : Option Addr) (cap : Nat) (zs : List StampT) (rate most : Int) (w : World) (hm : zs.length ≤ maxLen) (hr : Reads w a (stamps zs)) :
    Calls Try.prog 8 #[.slice a zs.length cap, .int .i64 rate, .int .i64 most] w (LeastRes w (leastR zs rate most)) := by
  have B0 := Lib.hid (below_alloc3 w (.cells #[.slice a zs.length cap] 27) (.cells #[.int .i64 rate] 3) (.cells #[.int .i64 most] 3))
  have HR0 := Lib.hid (hr.below B0.out)
  have hA := fun w hr => areStamps_any a cap zs w hm hr
  have hI := fun w => inRange_any rate 1 2000 w
  have hJ := fun w => inRange_any most 1 6 w
  have HR := Lib.hid hr
  have BX : Hid (RowIs (((w.alloc (.cells #[.slice a zs.length cap] 27)).alloc (.cells #[.int .i64 rate] 3)).alloc (.cells #[.int .i64 most] 3)) w.heap.size 27 [.slice a zs.length cap]) := Lib.hid (((RowIs.new w 27 [.slice a zs.length cap]).alloc _).alloc _)
  have BY := Lib.hid (three_new w (.cells #[.slice a zs.length cap] 27) (.int .i64 rate) (.int .i64 most) 3 3)
  clear hr hm
  cases e1 : stampsOk zs
  · have E1 := Lib.hid (leastR_no (zs := zs) (rate := rate) (most := most) (by rw [leastOk, e1]; rfl))
    rw [E1.out]
    rw [e1] at hA
    have HA := Lib.hid hA
    clear hA hI hJ e1
    go_enter Try.func8, Try.ntmps8
    go_wp2_with fail
    refine (HA.out _ HR0.out).mono ?_
    rintro e w1 ⟨rfl, hb⟩
    have HB1 := Lib.hid (B0.out.trans (hb.mono B0.out.size))
    clear hb
    go_wp2_with fail
    go_ret3
    exact ⟨none, 0, rfl, World.ownsRow_nil _ _ _ _, HB1.out⟩
  rw [e1] at hA
  have HA := Lib.hid hA
  have E0 := Lib.hid e1
  clear hA e1
  cases e2 : inB rate 1 2000
  · have E1 := Lib.hid (leastR_no (zs := zs) (rate := rate) (most := most) (by rw [leastOk, e2]; simp))
    rw [E1.out]
    rw [e2] at hI
    have HI := Lib.hid hI
    clear hI hJ e2
    go_enter Try.func8, Try.ntmps8
    go_wp2_with fail
    generalize ((w.alloc (.cells #[.slice a zs.length cap] 27)).alloc (.cells #[.int .i64 rate] 3)).alloc (.cells #[.int .i64 most] 3) = w0 at *
    refine (HA.out _ HR0.out).mono ?_
    rintro e w1 ⟨rfl, hb⟩
    have HB1 := Lib.hid (B0.out.trans (hb.mono B0.out.size))
    have y0 := (BY.out.1.below hb).cell (j := 0) rfl
    clear hb
    go_wp2_with (go_at_call 34; (with_reducible refine (HI.out _).mono ?_); rintro e w' ⟨rfl, rfl⟩)
    go_ret3
    exact ⟨none, 0, rfl, World.ownsRow_nil _ _ _ _, HB1.out⟩
  have E2 := Lib.hid e2
  rw [e2] at hI
  have HI := Lib.hid hI
  clear hI e2
  cases e3 : inB most 1 6
  · have E1 := Lib.hid (leastR_no (zs := zs) (rate := rate) (most := most) (by rw [leastOk, e3]; simp))
    rw [E1.out]
    rw [e3] at hJ
    have HJ := Lib.hid hJ
    clear hJ e3
    go_enter Try.func8, Try.ntmps8
    go_wp2_with fail
    generalize ((w.alloc (.cells #[.slice a zs.length cap] 27)).alloc (.cells #[.int .i64 rate] 3)).alloc (.cells #[.int .i64 most] 3) = w0 at *
    refine (HA.out _ HR0.out).mono ?_
    rintro e w1 ⟨rfl, hb⟩
    have HB1 := Lib.hid (B0.out.trans (hb.mono B0.out.size))
    have y0 := (BY.out.1.below hb).cell (j := 0) rfl
    have y1 := (BY.out.2.below hb).cell (j := 0) rfl
    clear hb
    go_wp2_with (first | (go_at_call 34; (with_reducible refine (HI.out _).mono ?_); rintro e w' ⟨rfl, rfl⟩) | (go_at_call 34; (with_reducible refine (HJ.out _).mono ?_); rintro e w' ⟨rfl, rfl⟩))
    go_ret3
    exact ⟨none, 0, rfl, World.ownsRow_nil _ _ _ _, HB1.out⟩
  obtain ⟨m1, m2⟩ := inB_true.1 e3
  obtain ⟨q1, q2⟩ := inB_true.1 E2.out
  obtain ⟨m, rfl⟩ : ∃ m : Nat, most = (m : Int) := ⟨most.toNat, by omega⟩
  have hL0 : leastR zs rate m = if (foldB (lv zs true rate m [] 0 0) none0).2 < 0 then (([], 0), false) else (foldB (lv zs true rate m [] 0 0) none0, true) := by
    rw [leastR, if_pos (by rw [leastOk, E0.out, E2.out, e3]; rfl)]; rfl
  rw [least_same E0.out] at hL0
  rw [e3] at hJ
  have HJ := Lib.hid hJ
  have HL := Lib.hid hL0
  have hl6 : m ≤ 6 := by omega
  have HEX := Lib.hid (fun c N st w' h1 h2 h3 => extend_any c N rate q1 q2 m hl6 a cap zs E0.out m 0 none 0 [] 0 none0 st w' (by simp) (by omega) (by omega) (fun _ => rfl) (by omega) (.inl ⟨rfl, rfl⟩) (by simp) (by simp) h1 h2 (World.ownsRow_nil _ _ _ _) (fun q e => by simp [Value.ownBlock] at e) h3)
  obtain ⟨⟨rs, ro⟩, hres⟩ : ∃ r, r = foldB (lv zs false rate m [] 0 0) none0 := ⟨_, rfl⟩
  rw [← hres] at HEX HL
  clear hJ e3 hL0 hres
  go_enter Try.func8, Try.ntmps8
  go_wp2_with fail
  generalize ((w.alloc (.cells #[.slice a zs.length cap] 27)).alloc (.cells #[.int .i64 rate] 3)).alloc (.cells #[.int .i64 (m : Int)] 3) = w0 at *
  refine (HA.out _ HR0.out).mono ?_
  rintro e w1 ⟨rfl, hb⟩
  have HB1 := Lib.hid (B0.out.trans (hb.mono B0.out.size))
  have HX1 := Lib.hid (BX.out.below hb)
  have HY1 := Lib.hid (BY.out.1.below hb)
  have HZ1 := Lib.hid (BY.out.2.below hb)
  have y0 := HY1.out.cell (j := 0) rfl
  have y1 := HZ1.out.cell (j := 0) rfl
  clear hb
  have hw1 : w.heap.size + 1 + 1 < w1.heap.size := HZ1.out.lt
  have hE := three_new w1 (.cells #[.slice none 0 0] 24) (.int .i64 (-1)) (.func (.func 35) #[] (Caps.ptrs ⟨w.heap.size + 1, w1.heap.size + 1, w1.heap.size, w.heap.size + 1 + 1, w.heap.size, w1.heap.size + 1 + 1⟩)) 3 56
  obtain ⟨w4, hw4⟩ : ∃ w4, w4 = ((w1.alloc (.cells #[.slice none 0 0] 24)).alloc (.cells #[.int .i64 (-1)] 3)).alloc (.cells #[(.func (.func 35) #[] (Caps.ptrs ⟨w.heap.size + 1, w1.heap.size + 1, w1.heap.size, w.heap.size + 1 + 1, w.heap.size, w1.heap.size + 1 + 1⟩))] 56) := ⟨_, rfl⟩
  have HW4 := Lib.hid hw4
  have hs4 : w4.heap.size = w1.heap.size + 1 + 1 + 1 := by rw [hw4]; simp
  have hb14 : Below w1.heap.size w1 w4 := by rw [hw4]; exact below_alloc3 w1 _ _ _
  have HB4 : Hid (Below w.heap.size w w4) := Lib.hid (HB1.out.trans (hb14.mono HB1.out.size))
  have HG : Hid (RowIs w4 w1.heap.size 24 [.slice none 0 0]) := Lib.hid (by rw [hw4]; exact ((RowIs.new w1 24 [.slice none 0 0]).alloc _).alloc _)
  rw [← hw4] at hE
  have HINV : Hid (OInv ⟨w.heap.size + 1, w1.heap.size + 1, w1.heap.size, w.heap.size + 1 + 1, w.heap.size, w1.heap.size + 1 + 1⟩ w4.heap.size rate m a cap zs (fun _ => False) none0 w4) := Lib.hid (by
    refine ⟨HY1.out.below hb14, HZ1.out.below hb14, HX1.out.below hb14, hE.2, hE.1, ?_, ?_, ⟨none, 0, HG.out, World.ownsRow_nil _ _ _ _, fun q e => by simp [Value.ownBlock] at e⟩, HR.out.below HB4.out, fun q hq hne => ?_⟩
    · rw [hs4]; refine ⟨?_, ?_, ?_, ?_, ?_, ?_⟩ <;> (dsimp only; omega)
    · refine ⟨?_, ?_, ?_, ?_, ?_, ?_, ?_, ?_, ?_⟩ <;> (dsimp only; omega)
    · have hne2 : stamps zs ≠ [] := fun e => by
        have := congrArg List.length e
        rw [stamps_length] at this
        exact hne (List.eq_nil_of_length_eq_zero (by simp at this; omega))
      have := reads_low HR.out hne2 q hq
      refine ⟨?_, ?_, ?_⟩
      · omega
      · show q.block ≠ w1.heap.size + 1; omega
      · show q.block ≠ w1.heap.size; omega)
  have HCALL := Lib.hid (HEX.out ⟨w.heap.size + 1, w1.heap.size + 1, w1.heap.size, w.heap.size + 1 + 1, w.heap.size, w1.heap.size + 1 + 1⟩ w4.heap.size (fun _ => False) w4 (Nat.le_refl _) HINV.out (fun k e => e.elim))
  rw [hw4] at HCALL
  clear hw4 hE hb14 HINV HEX hs4
  go_wp2_with (first | (go_at_call 34; (with_reducible refine (HI.out _).mono ?_); rintro e w' ⟨rfl, rfl⟩) | (go_at_call 34; (with_reducible refine (HJ.out _).mono ?_); rintro e w' ⟨rfl, rfl⟩))
  refine HCALL.out.mono ?_
  rintro e w5 ⟨rfl, hi, _, hf⟩
  rw [← HW4.out] at hi hf
  have HB5 := Lib.hid (Fr.low HB4.out hf (fun k hk => by
    rcases hk with h | h | h
    · omega
    · omega
    · simp [Value.ownBlock] at h))
  obtain ⟨ua, uc, b1, b2, _⟩ := hi.b
  simp only at b1 b2
  have c1 := hi.l.cell (j := 0) rfl
  have c2 := b1.cell (j := 0) rfl
  simp only at c1 c2
  have HO5 := Lib.hid (World.ownsRow.mono b2 HB4.out.size)
  clear hi hf b1 b2 HCALL
  by_cases hneg : ro < 0
  · have HF := Lib.hid (show leastR zs rate m = (([], 0), false) by rw [HL.out, if_pos hneg])
    have hd : decide (ro < 0) = true := by simpa using hneg
    go_wp2_with fail
    go_ret3
    rw [HF.out]
    exact ⟨none, 0, rfl, World.ownsRow_nil _ _ _ _, HB5.out⟩
  · have HF := Lib.hid (show leastR zs rate m = ((rs, ro), true) by rw [HL.out, if_neg hneg])
    have hd : decide (ro < 0) = false := by simpa using hneg
    go_wp2_with fail
    go_quiet (fail)
    go_wp2_with fail
    go_ret3
    rw [HF.out]
    exact ⟨_, _, rfl, own_dr HO5.out (Dr.of _ _), HB5.out.trans ((Dr.of _ _).below _)⟩
end Go.Proofs.Ytieopadbbciciaa
