/- LeastOver: both sides' contracts. -/
import Derived.Test.YtieopadbbciciaaLeastI
namespace Go.Proofs.Ytieopadbbciciaa
open Go.RowKit

def leastOk (zs : List StampT) (rate most : Int) : Bool := stampsOk zs && (inB rate 1 2000 && inB most 1 6)
def leastR (zs : List StampT) (rate most : Int) : Fk × Bool :=
  if leastOk zs rate most = true then (if (foldB (lv zs true rate most.toNat [] 0 0) none0).2 < 0 then (([], 0), false) else (foldB (lv zs true rate most.toNat [] 0 0) none0, true)) else (([], 0), false)
def LeastRes (w : World) (r : Fk × Bool) (e : Ending) (w' : World) : Prop := ∃ ra rc, e = .returned (.tuple #[.slice ra r.1.1.length rc, .int .i64 r.1.2, .bool r.2]) ∧
  w'.ownsRow w.heap.size 3 1 (.slice ra r.1.1.length rc) r.1.1.length (ints r.1.1) ∧ Below w.heap.size w w'
theorem leastR_no {zs : List StampT} {rate most : Int} (h : leastOk zs rate most = false) : leastR zs rate most = (([], 0), false) := by rw [leastR, h]; rfl
set_option maxRecDepth 100000 in
set_option maxHeartbeats 4000000 in
theorem specLeast_any (a : Option Addr) (cap : Nat) (zs : List StampT) (rate most : Int) (w : World) (hm : zs.length ≤ maxLen) (hr : Reads w a (stamps zs)) :
    Calls Try.prog 6 #[.slice a zs.length cap, .int .i64 rate, .int .i64 most] w (LeastRes w (leastR zs rate most)) := by
  have hA := l2Stamps_any a cap zs w hm hr
  have hI := fun w => l1In_any rate 1 2000 w
  have hJ := fun w => l1In_any most 1 6 w
  have HR := Lib.hid hr
  clear hr hm
  cases e1 : stampsOk zs
  · have E1 := Lib.hid (leastR_no (zs := zs) (rate := rate) (most := most) (by rw [leastOk, e1]; rfl))
    rw [E1.out]
    rw [e1] at hA
    have HA := Lib.hid hA
    clear hA hI hJ e1
    go_enter Try.func6, Try.ntmps6
    go_wp2_with fail
    refine HA.out.mono ?_
    rintro e w1 ⟨rfl, hb⟩
    have HB1 := Lib.hid hb
    clear hb
    go_wp2_with fail
    go_ret3
    exact ⟨_, _, rfl, own_newI w1 w.heap.size HB1.out.size, HB1.out.alloc HB1.out.size _⟩
  rw [e1] at hA
  have HA := Lib.hid hA
  have E0 := Lib.hid e1
  clear hA e1
  cases e2 : inB rate 1 2000
  · have E1 := Lib.hid (leastR_no (zs := zs) (rate := rate) (most := most) (by rw [leastOk, e2]; simp))
    rw [E1.out]
    rw [e2] at hI
    have HI := Lib.hid hI
    clear hI hJ e2
    go_enter Try.func6, Try.ntmps6
    go_wp2_with fail
    refine HA.out.mono ?_
    rintro e w1 ⟨rfl, hb⟩
    have HB1 := Lib.hid hb
    clear hb
    go_wp2_with (go_at_call 30; (with_reducible refine (HI.out _).mono ?_); rintro e w' ⟨rfl, rfl⟩)
    go_ret3
    exact ⟨_, _, rfl, own_newI w1 w.heap.size HB1.out.size, HB1.out.alloc HB1.out.size _⟩
  have E2 := Lib.hid e2
  rw [e2] at hI
  have HI := Lib.hid hI
  clear hI e2
  cases e3 : inB most 1 6
  · have E1 := Lib.hid (leastR_no (zs := zs) (rate := rate) (most := most) (by rw [leastOk, e3]; simp))
    rw [E1.out]
    rw [e3] at hJ
    have HJ := Lib.hid hJ
    clear hJ e3
    go_enter Try.func6, Try.ntmps6
    go_wp2_with fail
    refine HA.out.mono ?_
    rintro e w1 ⟨rfl, hb⟩
    have HB1 := Lib.hid hb
    clear hb
    go_wp2_with (first | (go_at_call 30; (with_reducible refine (HI.out _).mono ?_); rintro e w' ⟨rfl, rfl⟩) | (go_at_call 30; (with_reducible refine (HJ.out _).mono ?_); rintro e w' ⟨rfl, rfl⟩))
    go_ret3
    exact ⟨_, _, rfl, own_newI w1 w.heap.size HB1.out.size, HB1.out.alloc HB1.out.size _⟩
  obtain ⟨m1, m2⟩ := inB_true.1 e3
  obtain ⟨q1, q2⟩ := inB_true.1 E2.out
  obtain ⟨m, rfl⟩ : ∃ m : Nat, most = (m : Int) := ⟨most.toNat, by omega⟩
  have hL0 : leastR zs rate m = if (foldB (lv zs true rate m [] 0 0) none0).2 < 0 then (([], 0), false) else (foldB (lv zs true rate m [] 0 0) none0, true) := by
    rw [leastR, if_pos (by rw [leastOk, E0.out, E2.out, e3]; rfl)]; rfl
  rw [e3] at hJ
  have HJ := Lib.hid hJ
  have HL := Lib.hid hL0
  have hl6 : m ≤ 6 := by omega
  have HOV := Lib.hid (fun bg bc ua uc w' h1 h2 h3 h4 => l2Over_any w.heap.size a cap zs E0.out rate m hl6 m rate bg bc [] 0 ua uc none0 w' (by simp) (by omega) (by omega) (by omega) (by simp) (by simp) h1 h2 h3 h4)
  rw [show rate - rate = 0 by omega] at HOV
  obtain ⟨⟨rs, ro⟩, hres⟩ : ∃ r, r = foldB (lv zs true rate m [] 0 0) none0 := ⟨_, rfl⟩
  rw [← hres] at HOV HL
  clear hJ e3 hL0 hres
  go_enter Try.func6, Try.ntmps6
  go_wp2_with fail
  refine HA.out.mono ?_
  rintro e w1 ⟨rfl, hb⟩
  have HB1 := Lib.hid hb
  clear hb
  have HB2 : Hid (Below w.heap.size w ((w1.alloc (.cells #[] 3)).alloc (.cells #[] 3))) := Lib.hid ((HB1.out.alloc HB1.out.size _).alloc (by have := HB1.out.size; simp; omega) _)
  have HO1 : Hid (((w1.alloc (.cells #[] 3)).alloc (.cells #[] 3)).ownsRow w.heap.size 3 1 (.slice (some ⟨w1.heap.size, 0, none⟩) 0 0) 0 []) := Lib.hid ((own_newI w1 w.heap.size HB1.out.size).alloc _)
  have HO2 : Hid (((w1.alloc (.cells #[] 3)).alloc (.cells #[] 3)).ownsRow w.heap.size 3 1 (.slice (some ⟨w1.heap.size + 1, 0, none⟩) 0 0) 0 []) := Lib.hid (by have := own_newI (w1.alloc (.cells #[] 3)) w.heap.size (by have := HB1.out.size; simp; omega); simpa using this)
  go_wp2_with (first | (go_at_call 30; (with_reducible refine (HI.out _).mono ?_); rintro e w' ⟨rfl, rfl⟩) | (go_at_call 30; (with_reducible refine (HJ.out _).mono ?_); rintro e w' ⟨rfl, rfl⟩))
  refine (HOV.out w1.heap.size 0 (some ⟨w1.heap.size + 1, 0, none⟩) 0 _ HB2.out.size (HR.out.below HB2.out) HO1.out HO2.out).mono ?_
  rintro e w3 ⟨ra, rc, rfl, hs, hb⟩
  have HS := Lib.hid hs
  have HB3 := Lib.hid (HB2.out.trans (hb.mono HB2.out.size))
  clear hs hb
  by_cases hneg : ro < 0
  · have HF := Lib.hid (show leastR zs rate m = (([], 0), false) by rw [HL.out, if_pos hneg])
    have hd : decide (ro < 0) = true := by simpa using hneg
    go_wp2_with fail
    go_ret3
    rw [HF.out]
    exact ⟨_, _, rfl, own_newI w3 w.heap.size HB3.out.size, HB3.out.alloc HB3.out.size _⟩
  · have HF := Lib.hid (show leastR zs rate m = ((rs, ro), true) by rw [HL.out, if_neg hneg])
    have hd : decide (ro < 0) = false := by simpa using hneg
    go_wp2_with fail
    go_ret3
    rw [HF.out]
    exact ⟨_, _, rfl, HS.out, HB3.out⟩
end Go.Proofs.Ytieopadbbciciaa
