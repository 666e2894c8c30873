/- AppendChecksum: both sides compute one value. -/
import Derived.Test.YtbgfdhghhaoabaaDoorStr1
import Derived.Test.YtbgfdhghhaoabaaDoorJoinS
import Derived.Test.YtbgfdhghhaoabaaDoorNumC
namespace Go.Proofs.YtbgfdhghhaoabaaDoor
open Go.RowKit

abbrev hashB : ByteArray := ⟨#[35]⟩
def sealF (s : ByteArray) : ByteArray := s ++ hashB ++ numF (sumF s)
theorem sum_num (s : ByteArray) : (numF (sumF s)).size ≤ 10 := by
  obtain ⟨h1, h2⟩ := sumTo_bd s s.size
  exact numF_size (n := sumF s) (by unfold sumF; omega) (by unfold sumF; omega)
theorem sealF_size (s : ByteArray) : (sealF s).size = s.size + 1 + (numF (sumF s)).size := by
  simp [sealF, ByteArray.size_append]; rfl
def sealOk (s : ByteArray) : Bool := decide (s.size ≤ 4000) && !hasB s 35 && decide ((sealF s).size ≤ 4000)
def sealR (s : ByteArray) : ByteArray := if sealOk s = true then sealF s else .empty
set_option maxHeartbeats 400000 in
set_option maxRecDepth 100000 in
theorem l1Seal_any (s : ByteArray) (w : World) (hm : s.size ≤ 1048576) : Calls Tryd.prog 43 #[.string s] w fun e w' => e = .returned (.string (sealF s)) ∧ Dr w w' := by
  have H1 := Lib.hid (fun w => l1Sum_any s w (by unfold maxLen; omega))
  obtain ⟨b1, b2⟩ := sumTo_bd s s.size
  have H2 := Lib.hid (fun w => l1Num_any (sumF s) (by unfold sumF; omega) (by unfold sumF; omega) w)
  have hs := sum_num s
  have HF : Hid (sealF s = s ++ hashB ++ numF (sumF s)) := Lib.hid rfl
  clear b1 b2
  generalize sealF s = r at HF ⊢
  generalize numF (sumF s) = t at H2 hs HF
  generalize sumF s = z at H1 H2
  go_enter Tryd.func43, Tryd.ntmps43
  go_wp2_with (first | (go_at_call 57; refine (H1.out _).mono ?_; rintro e w' ⟨rfl, rfl⟩) | (go_at_call 36; refine (H2.out _).mono ?_; rintro e w' ⟨rfl, k, rfl⟩))
  go_ret
  exact ⟨congrArg (fun x => Ending.returned (.string x)) HF.out.symm, Dr.of _ _⟩
set_option maxHeartbeats 800000 in
set_option maxRecDepth 100000 in
theorem specAppend_any (s : ByteArray) (w : World) (hm : s.size ≤ 1048576) : Calls Tryd.prog 17 #[.string s] w fun e w' => e = .returned (.tuple #[.string (sealR s), .bool (sealOk s)]) ∧ Dr w w' := by
  have H1 := Lib.hid (fun w => l1Stands_any s 35 w (by unfold maxLen; omega))
  have H2 := Lib.hid (fun w => l1Seal_any s w hm)
  by_cases h1 : 4000 < s.size
  · have e1 : sealOk s = false := by simp [sealOk, show ¬ s.size ≤ 4000 by omega]
    have e2 : sealR s = .empty := by simp [sealR, e1]
    rw [e1, e2]
    clear e1 e2
    go_enter Tryd.func17, Tryd.ntmps17
    go_wp2_with fail
    go_ret2
    exact ⟨rfl, Dr.refl _⟩
  cases h2 : hasB s 35
  · rw [h2] at H1
    by_cases h3 : 4000 < (sealF s).size
    · have e1 : sealOk s = false := by simp [sealOk, show ¬ (sealF s).size ≤ 4000 by omega]
      have e2 : sealR s = .empty := by simp [sealR, e1]
      rw [e1, e2]
      clear e1 e2
      have h4 := sealF_size s
      have h5 := sum_num s
      have h6 : (sealF s).size ≤ 2000000 := by omega
      clear h4 h5 h2
      generalize sealF s = r at *
      go_enter Tryd.func17, Tryd.ntmps17
      go_wp2_with (first | (go_at_call 42; refine (H1.out _).mono ?_; rintro e w' ⟨rfl, rfl⟩) | (go_at_call 43; refine (H2.out _).mono ?_; rintro e w' ⟨rfl, k, rfl⟩))
      go_ret2
      exact ⟨rfl, Dr.of _ _⟩
    · have e1 : sealOk s = true := by simp [sealOk, show (sealF s).size ≤ 4000 by omega, show s.size ≤ 4000 by omega, h2]
      have e2 : sealR s = sealF s := by simp [sealR, e1]
      rw [e1, e2]
      clear e1 e2 h2
      generalize sealF s = r at *
      go_enter Tryd.func17, Tryd.ntmps17
      go_wp2_with (first | (go_at_call 42; refine (H1.out _).mono ?_; rintro e w' ⟨rfl, rfl⟩) | (go_at_call 43; refine (H2.out _).mono ?_; rintro e w' ⟨rfl, k, rfl⟩))
      go_ret2
      exact ⟨rfl, Dr.of _ _⟩
  · rw [h2] at H1
    have e1 : sealOk s = false := by simp [sealOk, h2]
    have e2 : sealR s = .empty := by simp [sealR, e1]
    rw [e1, e2]
    clear e1 e2 h2
    go_enter Tryd.func17, Tryd.ntmps17
    go_wp2_with (go_at_call 42; refine (H1.out _).mono ?_; rintro e w' ⟨rfl, rfl⟩)
    go_ret2
    exact ⟨rfl, Dr.refl _⟩
set_option maxHeartbeats 800000 in
set_option maxRecDepth 100000 in
theorem implAppend_any (s : ByteArray) (w : World) (hm : s.size ≤ 1048576) (htab : PowTab w) : Calls Tryd.prog 18 #[.string s] w fun e w' => e = .returned (.tuple #[.string (sealR s), .bool (sealOk s)]) ∧ Below w.heap.size w w' := by
  have H0 := Lib.hid (fun w => implChecksum_any s w (by unfold maxLen; omega))
  have H1 := Lib.hid (fun w => contains_any s hashB rfl (by decide) w)
  have hd : hashB[0]'(by decide) = 35 := rfl
  rw [hd] at H1
  obtain ⟨b1, b2⟩ := sumTo_bd s s.size
  have H2 := Lib.hid (itoa_any (sumF s) (by unfold sumF; omega) (by unfold sumF; omega) w htab)
  have hs := sum_num s
  have HF : Hid (s ++ hashB ++ numF (sumF s) = sealF s) := Lib.hid rfl
  have hz := sealF_size s
  clear b1 b2 htab hd
  by_cases h1 : 4000 < s.size
  · have e1 : sealOk s = false := by simp [sealOk, show ¬ s.size ≤ 4000 by omega]
    have e2 : sealR s = .empty := by simp [sealR, e1]
    rw [e1, e2]
    simp only [show ¬ s.size ≤ 4000 by omega, if_false, decide_false] at H0
    clear e1 e2 hz
    go_enter Tryd.func18, Tryd.ntmps18
    go_wp2_with (go_at_call 44; refine (H0.out _).mono ?_; rintro e w' ⟨rfl, rfl⟩)
    go_ret2
    exact ⟨rfl, Below.refl _ _⟩
  simp only [show s.size ≤ 4000 by omega, if_true, decide_true] at H0
  cases h2 : hasB s 35
  · rw [h2] at H1
    by_cases h3 : 4000 < s.size + 1 + (numF (sumF s)).size
    · have e1 : sealOk s = false := by simp [sealOk, show ¬ (sealF s).size ≤ 4000 by omega]
      have e2 : sealR s = .empty := by simp [sealR, e1]
      rw [e1, e2]
      clear e1 e2 hz HF h2
      generalize numF (sumF s) = t at *
      generalize sumF s = z at *
      go_enter Tryd.func18, Tryd.ntmps18
      go_wp2_with (first | (go_at_call 44; refine (H0.out _).mono ?_; rintro e w' ⟨rfl, rfl⟩) | (go_at_call 45; refine (H1.out _).mono ?_; rintro e w' ⟨rfl, rfl⟩) | (go_at_call 38; refine H2.out.mono ?_; rintro e w' ⟨rfl, hb⟩))
      go_ret2
      exact ⟨rfl, hb⟩
    · have e1 : sealOk s = true := by simp [sealOk, show (sealF s).size ≤ 4000 by omega, show s.size ≤ 4000 by omega, h2]
      have e2 : sealR s = sealF s := by simp [sealR, e1]
      rw [e1, e2]
      clear e1 e2 hz h2
      generalize sealF s = r at *
      generalize numF (sumF s) = t at *
      generalize sumF s = z at *
      go_enter Tryd.func18, Tryd.ntmps18
      go_wp2_with (first | (go_at_call 44; refine (H0.out _).mono ?_; rintro e w' ⟨rfl, rfl⟩) | (go_at_call 45; refine (H1.out _).mono ?_; rintro e w' ⟨rfl, rfl⟩) | (go_at_call 38; refine H2.out.mono ?_; rintro e w' ⟨rfl, hb⟩))
      go_ret2
      exact ⟨congrArg (fun x => Ending.returned (.tuple #[.string x, .bool true])) HF.out, hb⟩
  · rw [h2] at H1
    have e1 : sealOk s = false := by simp [sealOk, h2]
    have e2 : sealR s = .empty := by simp [sealR, e1]
    rw [e1, e2]
    clear e1 e2 h2 hz HF
    generalize sumF s = z at *
    go_enter Tryd.func18, Tryd.ntmps18
    go_wp2_with (first | (go_at_call 44; refine (H0.out _).mono ?_; rintro e w' ⟨rfl, rfl⟩) | (go_at_call 45; refine (H1.out _).mono ?_; rintro e w' ⟨rfl, rfl⟩))
    go_ret2
    exact ⟨rfl, Below.refl _ _⟩
set_option maxHeartbeats 400000 in
set_option maxRecDepth 100000 in
theorem FnExactAppendChecksum_walk {w : World} (HL : laidMet Tryd.prog Rows.fnExactAppendChecksumRow.laid w) (s : ByteArray) (hm : s.size ≤ maxLen) : Calls Tryd.prog 5 #[.string s] w fun e w' => e = .returned (.bool true) ∧ Below w.heap.size w w' := by
  have HT := Lib.hid (powTab_of HL)
  unfold maxLen at hm
  by_cases l1 : 1048576 < s.size
  · go_enter Tryd.func5, Tryd.ntmps5
    go_wp2_with fail
    go_ret
    exact ⟨rfl, Below.refl _ _⟩
  have HS := Lib.hid (specAppend_any s w (by omega))
  have HM : Hid (∀ w', Dr w w' → Calls Tryd.prog 18 #[.string s] w' fun e w'' => e = .returned (.tuple #[.string (sealR s), .bool (sealOk s)]) ∧ Below w'.heap.size w' w'') := Lib.hid (fun w' hd => implAppend_any s w' (by omega) (HT.out.dr hd))
  clear HL
  generalize sealR s = r at HS HM
  generalize sealOk s = b at HS HM
  go_enter Tryd.func5, Tryd.ntmps5
  go_wp2_with (first | (go_at_call 17; refine HS.out.mono ?_; rintro e w' ⟨rfl, hd⟩) | (go_at_call 18; refine (HM.out _ hd).mono ?_; rintro e w'' ⟨rfl, hb⟩))
  go_ret
  exact ⟨rfl, (hd.below _).trans (hb.mono (hd.below 0).size)⟩
end Go.Proofs.YtbgfdhghhaoabaaDoor
