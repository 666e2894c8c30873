/- Draws of FnTeeth. -/
import Derived.Test.YtidiecffahaojaaCurH
namespace Go.Proofs.Ytidiecffahaojaa
open Go.RowKit

theorem cur_belowH {w w0 w' : World} {g : Nat} (hb : Below w.heap.size w w0) (hg : w0.grownBy w' (some g)) (hl : w.heap.size ≤ g) : Below w.heap.size w w' := hb.grown hg hb.size (fun q hq => by injection hq with hq; omega)
theorem gauge5_any (g n : Nat) (w : World) (h : Cur w g n) (hn : n ≤ 1048500) : Calls Try.prog 58 #[.pointer (some ⟨g, 0, none⟩)] w (Drawn w g (n + 2) (fun t => 500 ≤ t ∧ t ≤ 2000)) := by
  have H := Lib.hid (among_lit g n [500, 1100, 1150, 1175, 1200, 1400, 2000] w h (by omega) (by simp) (by simp) #[.int .i64 500, .int .i64 1100, .int .i64 1150, .int .i64 1175, .int .i64 1200, .int .i64 1400, .int .i64 2000] rfl 7 rfl)
  clear h
  go_enter Try.func58, Try.ntmps58
  go_wp2_with fail
  refine H.out.mono ?_
  rintro e w1 ⟨y, rfl, hy, hc1, hg1⟩
  have y1 : 500 ≤ y ∧ y ≤ 2000 := by simp at hy; omega
  have HC := Lib.hid hc1
  have HG := Lib.hid hg1
  clear hc1 hg1 hy
  go_wp2_with fail
  go_ret
  exact ⟨y, rfl, y1, HC.out, HG.out⟩
theorem ask5_any (g n : Nat) (w : World) (h : Cur w g n) (hn : n ≤ 1048000) : Calls Try.prog 52 #[.pointer (some ⟨g, 0, none⟩)] w (Drawn w g (n + 6) (fun t => 0 ≤ t ∧ t ≤ 2100)) := by
  have HB1 := Lib.hid (one_any g n 8 w h (by omega) (by omega) (by omega))
  have HA1 := Lib.hid (fun w n h hn => among_lit g n [0, 0, 499, 2001] w h hn (by simp) (by simp) #[.int .i64 0, .int .i64 0, .int .i64 499, .int .i64 2001] rfl 4 rfl)
  have HA2 := Lib.hid (fun w n h hn => among_lit g n [0, 0, 10, 25, -25] w h hn (by simp) (by simp) #[.int .i64 0, .int .i64 0, .int .i64 10, .int .i64 25, .int .i64 (-25)] rfl 5 rfl)
  have HK := Lib.hid (fun w n h hn => gauge5_any g n w h hn)
  clear h
  go_enter Try.func52, Try.ntmps52
  go_wp2_with fail
  refine HB1.out.mono ?_
  rintro e w1 ⟨b, rfl, hc1, hg1⟩
  have HC1 := Lib.hid hc1
  have HG1 := Lib.hid hg1
  clear hc1 hg1
  cases b
  · go_wp2_with fail
    refine (HK.out _ _ HC1.out (by omega)).mono ?_
    rintro e w2 ⟨x, rfl, x1, hc2, hg2⟩
    have HC2 := Lib.hid hc2
    have HG2 := Lib.hid (grownBy_trans HG1.out hg2)
    clear hc2 hg2
    go_wp2_with fail
    refine (HA2.out _ _ HC2.out (by omega)).mono ?_
    rintro e w3 ⟨y, rfl, hy, hc3, hg3⟩
    have y1 : -25 ≤ y ∧ y ≤ 25 := by simp at hy; omega
    have HC3 := Lib.hid hc3
    have HG3 := Lib.hid (grownBy_trans HG2.out hg3)
    clear hc3 hg3 hy
    go_wp2_with fail
    go_ret
    exact ⟨_, rfl, ⟨by omega, by omega⟩, HC3.out, HG3.out⟩
  · go_wp2_with fail
    refine (HA1.out _ _ HC1.out (by omega)).mono ?_
    rintro e w3 ⟨y, rfl, hy, hc3, hg3⟩
    have y1 : 0 ≤ y ∧ y ≤ 2100 := by simp at hy; omega
    have HC3 := Lib.hid (hc3.mono (show n + 2 + 2 ≤ n + 6 by omega))
    have HG3 := Lib.hid (grownBy_trans HG1.out hg3)
    clear hc3 hg3 hy
    go_wp2_with fail
    go_ret
    exact ⟨y, rfl, y1, HC3.out, HG3.out⟩
/-- drawn holes, read in the world behind the draw -/
def HolesD (w : World) (ad : Option Addr) (zs : List Int) (w' : World) : Prop := HolesIn zs ∧ Reads w' ad (ints zs) ∧ Below w.heap.size w w'
set_option maxRecDepth 100000 in
theorem drawGaugeOf_any (a : Option Addr) (cap : Nat) (cs : List Int) (w : World) (hm : cs.length ≤ maxLen) (hr : Reads w a (bytesV cs)) (hz : ∀ z ∈ cs, 0 ≤ z ∧ z ≤ 255) :
    Calls Try.prog 15 #[.slice a cs.length cap] w fun e w' => ∃ (ad : Option Addr) (cp : Nat) (zs : List Int), e = .returned (.slice ad zs.length cp) ∧ HolesD w ad zs w' := by
  have HC := Lib.hid (cur_newT cap hm hr hz)
  have HS := Lib.hid (fun w g n h hn => holes5_any g n w h hn)
  have HB0 := Lib.hid (Go.Joins.below_alloc1 w (.cells #[.slice a cs.length cap, .int .i64 0, .int .u64 0] 64))
  clear hr hz
  go_enter Try.func15, Try.ntmps15
  go_wp2_with fail
  generalize w.alloc (.cells #[.slice a cs.length cap, .int .i64 0, .int .u64 0] 64) = w0 at *
  refine (HS.out _ _ 0 HC.out (by omega)).mono ?_
  rintro e w1 ⟨ad, cp, zs, rfl, hi, hrd, _, hc1, hg1⟩
  have HD := Lib.hid (show HolesD w ad zs w1 from ⟨hi, hrd, cur_belowH HB0.out hg1 (Nat.le_refl _)⟩)
  clear hi hrd hc1 hg1
  go_wp2_with fail
  go_ret
  exact ⟨ad, cp, zs, rfl, HD.out⟩
set_option maxRecDepth 100000 in
theorem drawMissing_any (a : Option Addr) (cap : Nat) (cs : List Int) (w : World) (hm : cs.length ≤ maxLen) (hr : Reads w a (bytesV cs)) (hz : ∀ z ∈ cs, 0 ≤ z ∧ z ≤ 255) :
    Calls Try.prog 23 #[.slice a cs.length cap] w fun e w' => ∃ (ad : Option Addr) (cp : Nat) (zs : List Int) (y : Int), e = .returned (.tuple #[.slice ad zs.length cp, .int .i64 y]) ∧ (0 ≤ y ∧ y ≤ 2100) ∧ HolesD w ad zs w' := by
  have HC := Lib.hid (cur_newT cap hm hr hz)
  have HS := Lib.hid (fun w g n h hn => holes5_any g n w h hn)
  have HA := Lib.hid (fun w g n h hn => ask5_any g n w h hn)
  have HB0 := Lib.hid (Go.Joins.below_alloc1 w (.cells #[.slice a cs.length cap, .int .i64 0, .int .u64 0] 64))
  have hlt := HC.out.lt
  clear hr hz
  go_enter Try.func23, Try.ntmps23
  go_wp2_with fail
  generalize w.alloc (.cells #[.slice a cs.length cap, .int .i64 0, .int .u64 0] 64) = w0 at *
  refine (HS.out _ _ 0 HC.out (by omega)).mono ?_
  rintro e w1 ⟨ad, cp, zs, rfl, hi, hrd, hfar, hc1, hg1⟩
  have HC1 := Lib.hid hc1
  have HB1 := Lib.hid (cur_belowH HB0.out hg1 (Nat.le_refl _))
  have HI := Lib.hid hi
  have HRD := Lib.hid hrd
  have HF := Lib.hid hfar
  clear hi hrd hfar hc1 hg1
  go_wp2_with fail
  refine (HA.out _ _ _ HC1.out (by omega)).mono ?_
  rintro e w2 ⟨y, rfl, y1, hc2, hg2⟩
  have HD := Lib.hid (show HolesD w ad zs w2 from ⟨HI.out, HRD.out.grown hg2 (fun q hq e => by have := HF.out q hq; injection e with e; omega), cur_belowH HB1.out hg2 (Nat.le_refl _)⟩)
  clear hc2 hg2
  go_wp2_with fail
  go_ret2
  exact ⟨ad, cp, zs, y, rfl, y1, HD.out⟩
end Go.Proofs.Ytidiecffahaojaa
