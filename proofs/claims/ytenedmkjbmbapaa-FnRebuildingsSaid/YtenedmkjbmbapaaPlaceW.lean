/- PlacesFor: both sides return one list. -/
import Derived.Test.YtenedmkjbmbapaaPlaceI
namespace Go.Proofs.Ytenedmkjbmbapaa
open Go.RowKit

def okP (xs ys : List ByteArray) : Bool := gridB xs 5 && gridB ys 3
def plR (xs ys : List ByteArray) : List (Int × Int) := if okP xs ys = true then plF xs ys else []
theorem plF_len {xs ys : List ByteArray} (hx : gridB xs 5 = true) : (plF xs ys).length ≤ 30 := by
  obtain ⟨x1, x2, x3⟩ := gridB_bd hx
  rw [← plTo_all]
  exact plTo_len (x3 0 (by omega)).2.2 (by omega) x2
theorem plR_len (xs ys : List ByteArray) : (plR xs ys).length ≤ 30 := by
  unfold plR
  split
  · rename_i h
    simp only [okP, Bool.and_eq_true] at h
    exact plF_len h.1
  · simp
set_option maxRecDepth 100000 in
set_option maxHeartbeats 4000000 in
theorem specPlacesFor_any (a b : Option Addr) (ca cb : Nat) (xs ys : List ByteArray) (w : World) (hm : xs.length ≤ maxLen) (hm2 : ys.length ≤ maxLen) (hz : ∀ z ∈ xs, z.size ≤ maxLen) (hz2 : ∀ z ∈ ys, z.size ≤ maxLen) (hx : Reads w a (strs xs)) (hy : Reads w b (strs ys)) :
    Calls Try.prog 27 #[.slice a xs.length ca, .agg #[.slice b ys.length cb]] w fun e w' => ∃ ad cp, e = .returned (.tuple #[.slice ad (plR xs ys).length cp, .bool (okP xs ys)]) ∧
      w'.ownsRow w.heap.size 54 2 (.slice ad (plR xs ys).length cp) (plR xs ys).length (pairs (plR xs ys)) ∧ Below w.heap.size w w' := by
  have B0 := Lib.hid (Go.Joins.below_alloc1 w (.cells #[.slice b ys.length cb] 45))
  have BX := Lib.hid (RowIs.new w 45 [.slice b ys.length cb])
  have HX := Lib.hid (hx.below B0.out)
  have HY := Lib.hid (hy.below B0.out)
  have hA := fun w hr => specIsSheet_any a ca xs w hm hz hr
  have hB := fun w hr => specIsBlock_any b cb ys w hm2 hz2 hr
  clear hx hy hz hz2 hm hm2
  cases e1 : gridB xs 5
  · have hP := Lib.hid (show okP xs ys = false by rw [okP, e1]; rfl)
    have hR := Lib.hid (show plR xs ys = [] by rw [plR, hP.out]; rfl)
    rw [hP.out, hR.out]
    rw [e1] at hA
    have HA := Lib.hid hA
    clear hA hB e1
    have hown0 := Lib.hid (fun w => RowIs.owns (RowIs.new w 54 ([] : List Value)) (n := 0) (sz := 2) rfl (by unfold maxLen; omega) (Nat.le_refl _))
    go_enter Try.func27, Try.ntmps27
    go_wp2_with fail
    generalize w.alloc (.cells #[.slice b ys.length cb] 45) = w0 at *
    refine (HA.out _ HX.out).mono ?_
    rintro e w1 ⟨rfl, hb⟩
    have HB1 := Lib.hid (B0.out.trans (hb.mono B0.out.size))
    clear hb
    go_wp2_with fail
    go_ret2
    exact ⟨_, _, rfl, World.ownsRow.mono (hown0.out w1) HB1.out.size, HB1.out.alloc HB1.out.size _⟩
  rw [e1] at hA
  have HA := Lib.hid hA
  have E1 := Lib.hid e1
  clear hA e1
  cases e2 : gridB ys 3
  · have hP := Lib.hid (show okP xs ys = false by rw [okP, e2]; simp)
    have hR := Lib.hid (show plR xs ys = [] by rw [plR, hP.out]; rfl)
    rw [hP.out, hR.out]
    rw [e2] at hB
    have HBK := Lib.hid hB
    clear hB e2
    have hown0 := Lib.hid (fun w => RowIs.owns (RowIs.new w 54 ([] : List Value)) (n := 0) (sz := 2) rfl (by unfold maxLen; omega) (Nat.le_refl _))
    go_enter Try.func27, Try.ntmps27
    go_wp2_with fail
    generalize w.alloc (.cells #[.slice b ys.length cb] 45) = w0 at *
    refine (HA.out _ HX.out).mono ?_
    rintro e w1 ⟨rfl, hb⟩
    have HB1 := Lib.hid (B0.out.trans (hb.mono B0.out.size))
    have HY1 := Lib.hid (HY.out.below hb)
    have cX := (BX.out.below hb).cell (j := 0) rfl
    clear hb
    go_wp2_with fail
    refine (HBK.out _ HY1.out).mono ?_
    rintro e w2 ⟨rfl, hb⟩
    have HB2 := Lib.hid (HB1.out.trans (hb.mono HB1.out.size))
    clear hb cX
    go_wp2_with fail
    go_ret2
    exact ⟨_, _, rfl, World.ownsRow.mono (hown0.out w2) HB2.out.size, HB2.out.alloc HB2.out.size _⟩
  have E2 := Lib.hid e2
  have hP := Lib.hid (show okP xs ys = true by rw [okP, E1.out, E2.out]; rfl)
  have hR := Lib.hid (show plR xs ys = plF xs ys by rw [plR, hP.out]; rfl)
  rw [hP.out, hR.out]
  rw [e2] at hB
  have HBK := Lib.hid hB
  have HPL := Lib.hid (fun w hx hy => l4Places_any a b ca cb xs ys w E1.out E2.out hx hy)
  clear hB e2
  go_enter Try.func27, Try.ntmps27
  go_wp2_with fail
  generalize w.alloc (.cells #[.slice b ys.length cb] 45) = w0 at *
  refine (HA.out _ HX.out).mono ?_
  rintro e w1 ⟨rfl, hb⟩
  have HB1 := Lib.hid (B0.out.trans (hb.mono B0.out.size))
  have HX1 := Lib.hid (HX.out.below hb)
  have HY1 := Lib.hid (HY.out.below hb)
  have BX1 := Lib.hid (BX.out.below hb)
  have cX := BX1.out.cell (j := 0) rfl
  clear hb
  go_wp2_with fail
  refine (HBK.out _ HY1.out).mono ?_
  rintro e w2 ⟨rfl, hb⟩
  have HB2 := Lib.hid (HB1.out.trans (hb.mono HB1.out.size))
  have HX2 := Lib.hid (HX1.out.below hb)
  have HY2 := Lib.hid (HY1.out.below hb)
  clear cX
  have cX := (BX1.out.below hb).cell (j := 0) rfl
  clear hb
  go_wp2_with fail
  refine (HPL.out _ HX2.out HY2.out).mono ?_
  rintro e w3 ⟨ad, cp, rfl, hown, hb⟩
  have HO3 := Lib.hid (World.ownsRow.mono hown HB2.out.size)
  have HB3 := Lib.hid (HB2.out.trans (hb.mono HB2.out.size))
  clear hb cX hown
  go_wp2_with fail
  go_ret2
  exact ⟨_, _, rfl, HO3.out, HB3.out⟩
set_option maxRecDepth 100000 in
set_option maxHeartbeats 4000000 in
theorem implPlacesFor_any (a b : Option Addr) (ca cb : Nat) (xs ys : List ByteArray) (w : World) (hm : xs.length ≤ maxLen) (hm2 : ys.length ≤ maxLen) (hz : ∀ z ∈ xs, z.size ≤ maxLen) (hz2 : ∀ z ∈ ys, z.size ≤ maxLen) (hx : Reads w a (strs xs)) (hy : Reads w b (strs ys)) :
    Calls Try.prog 26 #[.slice a xs.length ca, .agg #[.slice b ys.length cb]] w fun e w' => ∃ ad cp, e = .returned (.tuple #[.slice ad (plR xs ys).length cp, .bool (okP xs ys)]) ∧
      w'.ownsRow w.heap.size 54 2 (.slice ad (plR xs ys).length cp) (plR xs ys).length (pairs (plR xs ys)) ∧ Below w.heap.size w w' := by
  have B0 := Lib.hid (Go.Joins.below_alloc1 w (.cells #[.slice b ys.length cb] 45))
  have BX := Lib.hid (RowIs.new w 45 [.slice b ys.length cb])
  have HX := Lib.hid (hx.below B0.out)
  have HY := Lib.hid (hy.below B0.out)
  have hA := fun w hr => ((isGrid_any a ca xs 5 w hm hz hr).mono fun e w' h => (show e = .returned (.bool (gridB xs 5)) ∧ Below w.heap.size w w' from ⟨h.1, h.2 ▸ Below.refl _ _⟩))
  have hB := fun w hr => isBlock_any b cb ys w hm2 hz2 hr
  clear hx hy hz hz2 hm hm2
  cases e1 : gridB xs 5
  · have hP := Lib.hid (show okP xs ys = false by rw [okP, e1]; rfl)
    have hR := Lib.hid (show plR xs ys = [] by rw [plR, hP.out]; rfl)
    rw [hP.out, hR.out]
    rw [e1] at hA
    have HA := Lib.hid hA
    clear hA hB e1
    go_enter Try.func26, Try.ntmps26
    go_wp2_with fail
    generalize w.alloc (.cells #[.slice b ys.length cb] 45) = w0 at *
    refine (HA.out _ HX.out).mono ?_
    rintro e w1 ⟨rfl, hb⟩
    have HB1 := Lib.hid (B0.out.trans (hb.mono B0.out.size))
    clear hb
    go_wp2_with fail
    go_ret2
    exact ⟨none, 0, rfl, World.ownsRow_nil _ _ _ _, HB1.out⟩
  rw [e1] at hA
  have HA := Lib.hid hA
  have E1 := Lib.hid e1
  clear hA e1
  cases e2 : gridB ys 3
  · have hP := Lib.hid (show okP xs ys = false by rw [okP, e2]; simp)
    have hR := Lib.hid (show plR xs ys = [] by rw [plR, hP.out]; rfl)
    rw [hP.out, hR.out]
    rw [e2] at hB
    have HBK := Lib.hid hB
    clear hB e2
    go_enter Try.func26, Try.ntmps26
    go_wp2_with fail
    generalize w.alloc (.cells #[.slice b ys.length cb] 45) = w0 at *
    refine (HA.out _ HX.out).mono ?_
    rintro e w1 ⟨rfl, hb⟩
    have HB1 := Lib.hid (B0.out.trans (hb.mono B0.out.size))
    have HY1 := Lib.hid (HY.out.below hb)
    have cX := (BX.out.below hb).cell (j := 0) rfl
    clear hb
    go_wp2_with fail
    refine (HBK.out _ HY1.out).mono ?_
    rintro e w2 ⟨rfl, hb⟩
    have HB2 := Lib.hid (HB1.out.trans (hb.mono HB1.out.size))
    clear hb cX
    go_wp2_with fail
    go_ret2
    exact ⟨none, 0, rfl, World.ownsRow_nil _ _ _ _, HB2.out⟩
  have E2 := Lib.hid e2
  have hP := Lib.hid (show okP xs ys = true by rw [okP, E1.out, E2.out]; rfl)
  have hR := Lib.hid (show plR xs ys = plF xs ys by rw [plR, hP.out]; rfl)
  rw [hP.out, hR.out]
  rw [e2] at hB
  have HBK := Lib.hid hB
  have HPL := Lib.hid (fun w hx hy => placesFor_any a b ca cb xs ys w E1.out E2.out hx hy)
  clear hB e2
  go_enter Try.func26, Try.ntmps26
  go_wp2_with fail
  generalize w.alloc (.cells #[.slice b ys.length cb] 45) = w0 at *
  refine (HA.out _ HX.out).mono ?_
  rintro e w1 ⟨rfl, hb⟩
  have HB1 := Lib.hid (B0.out.trans (hb.mono B0.out.size))
  have HX1 := Lib.hid (HX.out.below hb)
  have HY1 := Lib.hid (HY.out.below hb)
  have BX1 := Lib.hid (BX.out.below hb)
  have cX := BX1.out.cell (j := 0) rfl
  clear hb
  go_wp2_with fail
  refine (HBK.out _ HY1.out).mono ?_
  rintro e w2 ⟨rfl, hb⟩
  have HB2 := Lib.hid (HB1.out.trans (hb.mono HB1.out.size))
  have HX2 := Lib.hid (HX1.out.below hb)
  have HY2 := Lib.hid (HY1.out.below hb)
  clear cX
  have cX := (BX1.out.below hb).cell (j := 0) rfl
  clear hb
  go_wp2_with fail
  refine (HPL.out _ HX2.out HY2.out).mono ?_
  rintro e w3 ⟨ad, cp, rfl, hown, hb⟩
  have HO3 := Lib.hid (World.ownsRow.mono hown HB2.out.size)
  have HB3 := Lib.hid (HB2.out.trans (hb.mono HB2.out.size))
  clear hb cX hown
  go_wp2_with fail
  go_ret2
  exact ⟨_, _, rfl, HO3.out, HB3.out⟩
end Go.Proofs.Ytenedmkjbmbapaa
