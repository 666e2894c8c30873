/- LayBlock: both sides return one sheet. -/
import Derived.Test.YtenedmkjbmbapaaPlaceW
import Derived.Test.YtenedmkjbmbapaaLayS
import Derived.Test.YtenedmkjbmbapaaRebP
namespace Go.Proofs.Ytenedmkjbmbapaa
open Go.RowKit

def okW (xs ys : List ByteArray) (r c : Int) : Bool := okP xs ys && fitsB xs ys r c
def layW (xs ys : List ByteArray) (r c : Int) : List ByteArray := if okW xs ys r c = true then layR xs ys r c else []
def LayOut (w : World) (zs : List ByteArray) (ok : Bool) (e : Ending) (w' : World) : Prop := ∃ ad cp, e = .returned (.tuple #[.slice ad zs.length cp, .bool ok]) ∧
  w'.ownsRow w.heap.size 9 1 (.slice ad zs.length cp) zs.length (strs zs) ∧ Below w.heap.size w w'
theorem own_newW (u : World) (B : Nat) (h : B ≤ u.heap.size) : (u.alloc (.cells #[] 9)).ownsRow B 9 1 (.slice (some ⟨u.heap.size, 0, none⟩) 0 0) 0 [] := RowIs.owns (RowIs.new u 9 ([] : List Value)) (n := 0) (sz := 1) rfl (by unfold maxLen; omega) h
theorem layW_of {xs ys : List ByteArray} {r c : Int} (h : okP xs ys = true) : layW xs ys r c = layR xs ys r c := by
  unfold layW okW
  rw [h, Bool.true_and]
  by_cases h2 : fitsB xs ys r c = true
  · rw [if_pos h2]
  · rw [if_neg h2, layR, if_neg h2]
theorem l4LayF_any (a b : Option Addr) (ca cb : Nat) (xs ys : List ByteArray) (r c : Int) (w : World) (gx : gridB xs 5 = true) (gy : gridB ys 3 = true) (hf : fitsB xs ys r c = true) (hx : Reads w a (strs xs)) (hy : Reads w b (strs ys)) :
    Calls Try.prog 79 #[.slice a xs.length ca, .agg #[.slice b ys.length cb], .int .i64 r, .int .i64 c] w fun e w' => ∃ ad cp, e = .returned (.slice ad (layR xs ys r c).length cp) ∧
      w'.ownsRow w.heap.size 9 1 (.slice ad (layR xs ys r c).length cp) (layR xs ys r c).length (strs (layR xs ys r c)) ∧ Below w.heap.size w w' := by
  obtain ⟨h0, h1, h4, h2, h3⟩ := fits_of hf
  obtain ⟨r, rfl⟩ : ∃ n : Nat, r = (n : Int) := ⟨r.toNat, by omega⟩
  obtain ⟨c, rfl⟩ : ∃ n : Nat, c = (n : Int) := ⟨c.toNat, by omega⟩
  rw [Int.toNat_natCast, Int.toNat_natCast] at h3
  refine (l4Lay_any a b ca cb xs ys r c w gx gy (by omega) (by omega) hx hy).mono ?_
  rintro e w' ⟨ad, cp, rfl, ho, hb⟩
  rw [layS_all gy h3] at ho
  have hl : (layF xs ys r c).length = xs.length := by rw [layF, layTo_len]
  exact ⟨ad, cp, by rw [layR_of hf, hl], by rw [layR_of hf, hl]; exact ho, hb⟩
set_option maxRecDepth 100000 in
set_option maxHeartbeats 4000000 in
theorem specLay_any (a b : Option Addr) (ca cb : Nat) (xs ys : List ByteArray) (r c : Int) (w : World) (r1 : -10 ≤ r) (r2 : r ≤ 10) (c1 : -10 ≤ c) (c2 : c ≤ 10) (hm : xs.length ≤ maxLen) (hm2 : ys.length ≤ maxLen) (hz : ∀ z ∈ xs, z.size ≤ maxLen) (hz2 : ∀ z ∈ ys, z.size ≤ maxLen) (hx : Reads w a (strs xs)) (hy : Reads w b (strs ys)) :
    Calls Try.prog 34 #[.slice a xs.length ca, .agg #[.slice b ys.length cb], .int .i64 r, .int .i64 c] w (LayOut w (layW xs ys r c) (okW xs ys r c)) := by
  have B0 := Lib.hid (Go.Joins.below_alloc1 w (.cells #[.slice b ys.length cb] 45))
  have BX := Lib.hid (RowIs.new w 45 [.slice b ys.length cb])
  have HX := Lib.hid (hx.below B0.out)
  have HY := Lib.hid (hy.below B0.out)
  have hA := fun w hr => specIsSheet_any a ca xs w hm hz hr
  have hB := fun w hr => specIsBlock_any b cb ys w hm2 hz2 hr
  clear hx hy hz hz2 hm hm2
  cases e1 : gridB xs 5
  · have hP := Lib.hid (show okW xs ys r c = false by rw [okW, okP, e1]; rfl)
    have hR := Lib.hid (show layW xs ys r c = [] by rw [layW, hP.out]; rfl)
    rw [hP.out, hR.out]
    rw [e1] at hA
    have HA := Lib.hid hA
    clear hA hB e1
    go_enter Try.func34, Try.ntmps34
    go_wp2_with fail
    generalize w.alloc (.cells #[.slice b ys.length cb] 45) = w0 at *
    refine (HA.out _ HX.out).mono ?_
    rintro e w1 ⟨rfl, hb⟩
    have HB1 := Lib.hid (B0.out.trans (hb.mono B0.out.size))
    clear hb
    go_wp2_with fail
    go_ret2
    exact ⟨_, _, rfl, own_newW w1 w.heap.size HB1.out.size, HB1.out.alloc HB1.out.size _⟩
  rw [e1] at hA
  have HA := Lib.hid hA
  have E1 := Lib.hid e1
  clear hA e1
  cases e2 : gridB ys 3
  · have hP := Lib.hid (show okW xs ys r c = false by rw [okW, okP, e2]; simp)
    have hR := Lib.hid (show layW xs ys r c = [] by rw [layW, hP.out]; rfl)
    rw [hP.out, hR.out]
    rw [e2] at hB
    have HBK := Lib.hid hB
    clear hB e2
    go_enter Try.func34, Try.ntmps34
    go_wp2_with fail
    generalize w.alloc (.cells #[.slice b ys.length cb] 45) = w0 at *
    refine (HA.out _ HX.out).mono ?_
    rintro e w1 ⟨rfl, hb⟩
    have HB1 := Lib.hid (B0.out.trans (hb.mono B0.out.size))
    have HY1 := Lib.hid (HY.out.below hb)
    have cX := (BX.out.below hb).cell (j := 0) rfl
    clear hb
    go_wp2_with fail
    refine (HBK.out _ HY1.out).mono ?_
    rintro e w2 ⟨rfl, hb⟩
    have HB2 := Lib.hid (HB1.out.trans (hb.mono HB1.out.size))
    clear hb cX
    go_wp2_with fail
    go_ret2
    exact ⟨_, _, rfl, own_newW w2 w.heap.size HB2.out.size, HB2.out.alloc HB2.out.size _⟩
  have E2 := Lib.hid e2
  rw [e2] at hB
  have HBK := Lib.hid hB
  clear hB e2
  have HPK := Lib.hid (show okP xs ys = true by rw [okP, E1.out, E2.out]; rfl)
  have hF := fun w hx hy => l4Fits_any a b ca cb xs ys r c w r1 r2 c1 c2 E1.out E2.out hx hy
  cases e3 : fitsB xs ys r c
  · have hP := Lib.hid (show okW xs ys r c = false by rw [okW, e3]; simp)
    have hR := Lib.hid (show layW xs ys r c = [] by rw [layW, hP.out]; rfl)
    rw [hP.out, hR.out]
    rw [e3] at hF
    have HF := Lib.hid hF
    clear hF e3
    go_enter Try.func34, Try.ntmps34
    go_wp2_with fail
    generalize w.alloc (.cells #[.slice b ys.length cb] 45) = w0 at *
    refine (HA.out _ HX.out).mono ?_
    rintro e w1 ⟨rfl, hb⟩
    have HB1 := Lib.hid (B0.out.trans (hb.mono B0.out.size))
    have HX1 := Lib.hid (HX.out.below hb)
    have HY1 := Lib.hid (HY.out.below hb)
    have BX1 := Lib.hid (BX.out.below hb)
    have cX := BX1.out.cell (j := 0) rfl
    clear hb
    go_wp2_with fail
    refine (HBK.out _ HY1.out).mono ?_
    rintro e w2 ⟨rfl, hb⟩
    have HB2 := Lib.hid (HB1.out.trans (hb.mono HB1.out.size))
    have HX2 := Lib.hid (HX1.out.below hb)
    have HY2 := Lib.hid (HY1.out.below hb)
    have BX2 := Lib.hid (BX1.out.below hb)
    clear cX
    have cX := BX2.out.cell (j := 0) rfl
    clear hb
    go_wp2_with fail
    refine (HF.out _ HX2.out HY2.out).mono ?_
    rintro e w3 ⟨rfl, hb⟩
    have HB3 := Lib.hid (HB2.out.trans (hb.mono HB2.out.size))
    have HX3 := Lib.hid (HX2.out.below hb)
    have HY3 := Lib.hid (HY2.out.below hb)
    clear cX
    have cX := (BX2.out.below hb).cell (j := 0) rfl
    clear hb
    go_wp2_with fail
    go_ret2
    exact ⟨_, _, rfl, own_newW w3 w.heap.size HB3.out.size, HB3.out.alloc HB3.out.size _⟩
  have hP := Lib.hid (show okW xs ys r c = true by rw [okW, HPK.out, e3]; rfl)
  have hR := Lib.hid (layW_of (r := r) (c := c) HPK.out)
  rw [hP.out, hR.out]
  have HL := Lib.hid (fun w hx hy => l4LayF_any a b ca cb xs ys r c w E1.out E2.out e3 hx hy)
  rw [e3] at hF
  have HF := Lib.hid hF
  clear hF e3
  generalize layR xs ys r c = lay at *
  go_enter Try.func34, Try.ntmps34
  go_wp2_with fail
  generalize w.alloc (.cells #[.slice b ys.length cb] 45) = w0 at *
  refine (HA.out _ HX.out).mono ?_
  rintro e w1 ⟨rfl, hb⟩
  have HB1 := Lib.hid (B0.out.trans (hb.mono B0.out.size))
  have HX1 := Lib.hid (HX.out.below hb)
  have HY1 := Lib.hid (HY.out.below hb)
  have BX1 := Lib.hid (BX.out.below hb)
  have cX := BX1.out.cell (j := 0) rfl
  clear hb
  go_wp2_with fail
  refine (HBK.out _ HY1.out).mono ?_
  rintro e w2 ⟨rfl, hb⟩
  have HB2 := Lib.hid (HB1.out.trans (hb.mono HB1.out.size))
  have HX2 := Lib.hid (HX1.out.below hb)
  have HY2 := Lib.hid (HY1.out.below hb)
  have BX2 := Lib.hid (BX1.out.below hb)
  clear cX
  have cX := BX2.out.cell (j := 0) rfl
  clear hb
  go_wp2_with fail
  refine (HF.out _ HX2.out HY2.out).mono ?_
  rintro e w3 ⟨rfl, hb⟩
  have HB3 := Lib.hid (HB2.out.trans (hb.mono HB2.out.size))
  have HX3 := Lib.hid (HX2.out.below hb)
  have HY3 := Lib.hid (HY2.out.below hb)
  clear cX
  have cX := (BX2.out.below hb).cell (j := 0) rfl
  clear hb
  go_wp2_with fail
  refine (HL.out _ HX3.out HY3.out).mono ?_
  rintro e w4 ⟨ad, cp, rfl, hown, hb⟩
  have HO4 := Lib.hid (World.ownsRow.mono hown HB3.out.size)
  have HB4 := Lib.hid (HB3.out.trans (hb.mono HB3.out.size))
  clear hb cX hown
  go_wp2_with fail
  go_ret2
  exact ⟨_, _, rfl, HO4.out, HB4.out⟩
set_option maxRecDepth 100000 in
set_option maxHeartbeats 4000000 in
theorem implLay_any (a b : Option Addr) (ca cb : Nat) (xs ys : List ByteArray) (r c : Int) (w : World) (r1 : -10 ≤ r) (r2 : r ≤ 10) (c1 : -10 ≤ c) (c2 : c ≤ 10) (hm : xs.length ≤ maxLen) (hm2 : ys.length ≤ maxLen) (hz : ∀ z ∈ xs, z.size ≤ maxLen) (hz2 : ∀ z ∈ ys, z.size ≤ maxLen) (hx : Reads w a (strs xs)) (hy : Reads w b (strs ys)) :
    Calls Try.prog 31 #[.slice a xs.length ca, .agg #[.slice b ys.length cb], .int .i64 r, .int .i64 c] w (LayOut w (layW xs ys r c) (okW xs ys r c)) := by
  have B0 := Lib.hid (Go.Joins.below_alloc1 w (.cells #[.slice b ys.length cb] 45))
  have BX := Lib.hid (RowIs.new w 45 [.slice b ys.length cb])
  have HX := Lib.hid (hx.below B0.out)
  have HY := Lib.hid (hy.below B0.out)
  have hA := fun w hr => ((isGrid_any a ca xs 5 w hm hz hr).mono fun e w' h => (show e = .returned (.bool (gridB xs 5)) ∧ Below w.heap.size w w' from ⟨h.1, h.2 ▸ Below.refl _ _⟩))
  have hB := fun w hr => isBlock_any b cb ys w hm2 hz2 hr
  clear hx hy hz hz2 hm hm2
  cases e1 : gridB xs 5
  · have hP := Lib.hid (show okW xs ys r c = false by rw [okW, okP, e1]; rfl)
    have hR := Lib.hid (show layW xs ys r c = [] by rw [layW, hP.out]; rfl)
    rw [hP.out, hR.out]
    rw [e1] at hA
    have HA := Lib.hid hA
    clear hA hB e1
    go_enter Try.func31, Try.ntmps31
    go_wp2_with fail
    generalize w.alloc (.cells #[.slice b ys.length cb] 45) = w0 at *
    refine (HA.out _ HX.out).mono ?_
    rintro e w1 ⟨rfl, hb⟩
    have HB1 := Lib.hid (B0.out.trans (hb.mono B0.out.size))
    clear hb
    go_wp2_with fail
    go_ret2
    exact ⟨none, 0, rfl, World.ownsRow_nil _ _ _ _, HB1.out⟩
  rw [e1] at hA
  have HA := Lib.hid hA
  have E1 := Lib.hid e1
  clear hA e1
  cases e2 : gridB ys 3
  · have hP := Lib.hid (show okW xs ys r c = false by rw [okW, okP, e2]; simp)
    have hR := Lib.hid (show layW xs ys r c = [] by rw [layW, hP.out]; rfl)
    rw [hP.out, hR.out]
    rw [e2] at hB
    have HBK := Lib.hid hB
    clear hB e2
    go_enter Try.func31, Try.ntmps31
    go_wp2_with fail
    generalize w.alloc (.cells #[.slice b ys.length cb] 45) = w0 at *
    refine (HA.out _ HX.out).mono ?_
    rintro e w1 ⟨rfl, hb⟩
    have HB1 := Lib.hid (B0.out.trans (hb.mono B0.out.size))
    have HY1 := Lib.hid (HY.out.below hb)
    have cX := (BX.out.below hb).cell (j := 0) rfl
    clear hb
    go_wp2_with fail
    refine (HBK.out _ HY1.out).mono ?_
    rintro e w2 ⟨rfl, hb⟩
    have HB2 := Lib.hid (HB1.out.trans (hb.mono HB1.out.size))
    clear hb cX
    go_wp2_with fail
    go_ret2
    exact ⟨none, 0, rfl, World.ownsRow_nil _ _ _ _, HB2.out⟩
  have E2 := Lib.hid e2
  rw [e2] at hB
  have HBK := Lib.hid hB
  clear hB e2
  have HPK := Lib.hid (show okP xs ys = true by rw [okP, E1.out, E2.out]; rfl)
  have hP := Lib.hid (show okW xs ys r c = fitsB xs ys r c by rw [okW, HPK.out, Bool.true_and])
  have hR := Lib.hid (layW_of (r := r) (c := c) HPK.out)
  rw [hP.out, hR.out]
  have HL := Lib.hid (fun w hx hy => layBlock_any a b ca cb xs ys r c w r1 r2 c1 c2 E1.out E2.out hx hy)
  generalize layR xs ys r c = lay at *
  generalize fitsB xs ys r c = fi at *
  go_enter Try.func31, Try.ntmps31
  go_wp2_with fail
  generalize w.alloc (.cells #[.slice b ys.length cb] 45) = w0 at *
  refine (HA.out _ HX.out).mono ?_
  rintro e w1 ⟨rfl, hb⟩
  have HB1 := Lib.hid (B0.out.trans (hb.mono B0.out.size))
  have HX1 := Lib.hid (HX.out.below hb)
  have HY1 := Lib.hid (HY.out.below hb)
  have BX1 := Lib.hid (BX.out.below hb)
  have cX := BX1.out.cell (j := 0) rfl
  clear hb
  go_wp2_with fail
  refine (HBK.out _ HY1.out).mono ?_
  rintro e w2 ⟨rfl, hb⟩
  have HB2 := Lib.hid (HB1.out.trans (hb.mono HB1.out.size))
  have HX2 := Lib.hid (HX1.out.below hb)
  have HY2 := Lib.hid (HY1.out.below hb)
  have BX2 := Lib.hid (BX1.out.below hb)
  clear cX
  have cX := BX2.out.cell (j := 0) rfl
  clear hb
  go_wp2_with fail
  refine (HL.out _ HX2.out HY2.out).mono ?_
  rintro e w4 ⟨ad, cp, rfl, hown, hb⟩
  have HO4 := Lib.hid (World.ownsRow.mono hown HB2.out.size)
  have HB4 := Lib.hid (HB2.out.trans (hb.mono HB2.out.size))
  clear hb cX hown
  go_wp2_with fail
  go_ret2
  exact ⟨_, _, rfl, HO4.out, HB4.out⟩
end Go.Proofs.Ytenedmkjbmbapaa
