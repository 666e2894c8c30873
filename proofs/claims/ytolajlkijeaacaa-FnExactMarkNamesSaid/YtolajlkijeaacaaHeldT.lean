/- heldStringS: a row of texts read again. -/
import Derived.Test.YtolajlkijeaacaaMarkT
import Derived.Test.YtolajlkijeaacaaExt
namespace Go.Proofs.Ytolajlkijeaacaa
open Go.RowKit
set_option maxHeartbeats 1000000 in
theorem heldStringS_any (a : Option Addr) (n cap : Nat) (kk : Int) (k : Nat) (w : World) (hkk : kk = (k : Int)) (hk : 0 < k) (hk2 : k ≤ 549755813888) (hn : n ≤ 549755813888) (h : Reads w a (strs (mkTexts k n))) :
    Calls Try.prog 24 #[.slice a n cap, .int .i64 kk] w fun e w' => e = .returned (.int .i64 (kk + (n : Int))) ∧ Below w.heap.size w w' := by
  subst hkk
  have H := Lib.hid h
  clear h
  go_enter Try.func24, Try.ntmps24
  go_wp2
  go_loopw [1, 5] (fun q i wr => ∃ j : Nat, j ≤ n ∧ i = .int .i64 j ∧ q = .int .i64 ((k : Int) + (j : Int)) ∧ Below w.heap.size w wr) (fun _ i _ => n - (intOf i).toNat)
  case atStart => exact ⟨0, Nat.zero_le _, rfl, by go_num, Below.refl _ _⟩
  case round =>
    obtain ⟨j, hj, rfl, rfl, hbel⟩ := hrel
    by_cases hlt : j < n
    · rcases H.out.below hbel with h0 | ⟨b, off, rfl, hb2, hc⟩
      · have : (strs (mkTexts k n)).length = 0 := by rw [h0]; rfl
        simp [mkTexts_length] at this; omega
      have hc1 := hc j _ (mkTexts_get hlt)
      have hx : ∀ x : Ext wr, x.1.cell? ⟨b, off + j, none⟩ = some (.string (mkText (k + j))) := fun x => (x.cell hb2).trans hc1
      have HT := Lib.hid (fun w => markText_any (k + j) w (by omega) (by omega))
      have hT2 : Hid (∀ w, Calls Try.prog 37 #[.int .i64 ((k : Int) + (j : Int))] w fun e w' => e = .returned (.string (mkText (k + j))) ∧ Below w.heap.size w w') := by
        rw [show (k : Int) + (j : Int) = ((k + j : Nat) : Int) from by omega]; exact HT
      have HB := Lib.hid hbel
      have hbq : ((mkText (k + j)).toList == (mkText (k + j)).toList) = true := str_beq rfl
      clear hc hc1 HT hbel
      go_wp2_with fail
      refine wp_region_ext (by kernel_rfl) (by kernel_rfl) ?_
      repeat (go_big_quiet_step ((go_at_call 37; exact ext_call (hT2.out _))))
      refine wpQuiet_nil ?_
      rintro _ ⟨x, rfl⟩
      go_wp2_with fail
      go_roundw
      case rel => exact ⟨j + 1, by omega, by go_num, by go_num, HB.out.trans (x.2.mono HB.out.size)⟩
      case measure => simp [intOf]; omega
    · obtain rfl : j = n := by omega
      go_wp2
      go_ret
      exact ⟨rfl, hbel⟩
end Go.Proofs.Ytolajlkijeaacaa
