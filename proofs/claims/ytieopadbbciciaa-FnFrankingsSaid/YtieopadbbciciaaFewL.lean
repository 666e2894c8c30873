/- The law of FewestStamps, walked out of the contracts. -/
import Derived.Test.YtieopadbbciciaaStampA
import Derived.Test.YtieopadbbciciaaFewI
import Derived.Test.YtieopadbbciciaaOwn
namespace Go.Proofs.Ytieopadbbciciaa
open Go.ChangeShapes Go.WideShapes Go.ChangeAt Go.RowKit

set_option maxRecDepth 100000 in
set_option maxHeartbeats 4000000 in
theorem implFew_any (a : Option Addr) (cap : Nat) (zs : List StampT) (q yr : Int) (w : World) (hm : zs.length ≤ maxLen) (hr : Reads w a (stamps zs)) :
    Calls Try.prog 16 #[.slice a zs.length cap, .int .i64 q, .int .i64 yr] w fun e w' => ∃ ad cp, e = .returned (.tuple #[.slice ad (fewR zs q yr).length cp, .bool (fewOk zs q yr)]) ∧
      w'.ownsRow w.heap.size 3 1 (.slice ad (fewR zs q yr).length cp) (fewR zs q yr).length (ints (fewR zs q yr)) ∧ Below w.heap.size w w' := by
  have hA := fun w hr => areStamps_any a cap zs w hm hr
  have HR := Lib.hid hr
  clear hr
  by_cases hask : stampsOk zs = true ∧ inB q 1 2000 = true ∧ inB yr 1840 2100 = true
  rotate_left
  · have hok : fewOk zs q yr = false := by
      unfold fewOk
      cases h1 : stampsOk zs <;> cases h2 : inB q 1 2000 <;> cases h3 : inB yr 1840 2100 <;> simp [h1, h2, h3] at hask ⊢
    rw [fewR_no hok, hok]
    have hask2 : stampsOk zs = false ∨ (stampsOk zs = true ∧ inB q 1 2000 = false) ∨ (stampsOk zs = true ∧ inB q 1 2000 = true ∧ inB yr 1840 2100 = false) := by
      cases h1 : stampsOk zs <;> cases h2 : inB q 1 2000 <;> cases h3 : inB yr 1840 2100 <;> simp [h1, h2, h3] at hask ⊢
    have HI := Lib.hid (fun w => inRange_any q 1 2000 w)
    have HY := Lib.hid (fun w => inRange_any yr 1840 2100 w)
    clear hok hask
    unfold maxLen at hm
    rcases hask2 with h1 | ⟨h1, h2⟩ | ⟨h1, h2, h3⟩
    all_goals rw [h1] at hA
    all_goals try rw [h2] at HI
    all_goals try rw [h3] at HY
    all_goals have HA := Lib.hid hA
    all_goals clear hA
    all_goals go_enter Try.func16, Try.ntmps16
    all_goals go_wp2_with fail
    all_goals refine (HA.out _ HR.out).mono ?_
    all_goals rintro e w1 ⟨rfl, hb⟩
    all_goals have HB := Lib.hid hb
    all_goals clear hb
    all_goals go_wp2_with (first | (go_at_call 34; (with_reducible refine (HI.out _).mono ?_); rintro e w' ⟨rfl, rfl⟩) | (go_at_call 34; (with_reducible refine (HY.out _).mono ?_); rintro e w' ⟨rfl, rfl⟩))
    all_goals go_ret2
    all_goals exact ⟨none, 0, rfl, World.ownsRow_nil _ _ _ _, HB.out⟩
  obtain ⟨h1, h2, h3⟩ := hask
  obtain ⟨q1, q2⟩ := inB_true.1 h2
  obtain ⟨m, rfl⟩ : ∃ m : Nat, q = (m : Int) := ⟨q.toNat, by omega⟩
  have h12 := stampsOk_len h1
  have hzf : ∀ z ∈ zs, z.face ≤ 9999 := fun z hz => by
    obtain ⟨k, hk, rfl⟩ := List.getElem_of_mem hz
    exact (stampOk_bd (stampsOk_at h1 hk)).2.1.2
  have hok : fewOk zs m yr = decide (fewF yr zs m ≤ 40) := by simp [fewOk, h1, h2, h3]
  have hR : fewR zs m yr = (if fewF yr zs m ≤ 40 then frankF yr zs 0 m else []) := by
    unfold fewR
    rw [hok]
    by_cases h : fewF yr zs m ≤ 40 <;> simp [h]
  rw [hok, hR]
  have HN := Lib.hid (fun w hr => implFewest_any a cap zs m yr w h12 (by omega) (by omega) hzf hr)
  generalize (if fewF yr zs m ≤ 40 then frankF yr zs 0 m else []) = RR at HN
  generalize decide (fewF yr zs m ≤ 40) = bb at HN
  have HI := Lib.hid (fun w => inRange_any (m : Int) 1 2000 w)
  have HY := Lib.hid (fun w => inRange_any yr 1840 2100 w)
  rw [h1] at hA
  rw [h2] at HI
  rw [h3] at HY
  have HA := Lib.hid hA
  clear hA h1 h2 h3 q1 q2 hzf hok hR
  unfold maxLen at hm
  go_enter Try.func16, Try.ntmps16
  go_wp2_with fail
  refine (HA.out _ HR.out).mono ?_
  rintro e w1 ⟨rfl, hb⟩
  have HB1 := Lib.hid hb
  clear hb
  go_wp2_with (first | (go_at_call 34; (with_reducible refine (HI.out _).mono ?_); rintro e w' ⟨rfl, rfl⟩) | (go_at_call 34; (with_reducible refine (HY.out _).mono ?_); rintro e w' ⟨rfl, rfl⟩))
  refine (HN.out _ (HR.out.below HB1.out)).mono ?_
  rintro e w2 ⟨ad, cp, rfl, hown, hb⟩
  have HO := Lib.hid (own_low hown HB1.out.size)
  have HB2 := Lib.hid (HB1.out.trans (hb.mono HB1.out.size))
  clear hown hb
  go_wp2_with fail
  go_ret2
  exact ⟨ad, cp, rfl, HO.out, HB2.out⟩

end Go.Proofs.Ytieopadbbciciaa
