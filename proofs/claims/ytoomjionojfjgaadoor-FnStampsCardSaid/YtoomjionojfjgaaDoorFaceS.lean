/- FaceText: both sides write one amount; the law. -/
import Derived.Test.YtoomjionojfjgaaDoorFaceM
import Derived.Test.YtoomjionojfjgaaDoorFrame
namespace Go.Proofs.YtoomjionojfjgaaDoor
open Go.RowKit

theorem l1NumN_any (u : Nat) (h : u ≤ 999999) (w : World) : Calls Tryd.prog 52 #[.int .i64 (u : Int)] w fun e w' => e = .returned (.string (decB u)) ∧ Dr w w' := l1NumPos_any (u + 1) u (by omega) (by omega) w
set_option maxHeartbeats 800000 in
set_option maxRecDepth 100000 in
theorem l2Face_any (u : Nat) (hu : u ≤ 9999) (w : World) : Calls Tryd.prog 46 #[.int .i64 (u : Int)] w fun e w' => e = .returned (.string (faceF u)) ∧ Dr w w' := by
  have t1 : (u : Int).tmod 10 = ((u % 10 : Nat) : Int) := by rw [Int.tmod_eq_emod_of_nonneg (by omega)]; rfl
  have t2 : ((u : Int) / 10).tmod 10 = ((u / 10 % 10 : Nat) : Int) := by rw [Int.tmod_eq_emod_of_nonneg (by omega)]; omega
  have t3 : IntKind.i64.wrap ((u : Int) / 10) = (u : Int) / 10 := IntWalk.i64_in _ (by omega)
  have t4 : IntKind.i64.wrap ((u : Int) / 100) = ((u / 100 : Nat) : Int) := by rw [IntWalk.i64_in _ (by omega)]; omega
  have t5 : (u : Int) / 100 = ((u / 100 : Nat) : Int) := by omega
  have A1 := Lib.hid (fun w => l1NumN_any (u / 100) (by omega) w)
  have A2 := Lib.hid (fun w => l1NumN_any (u / 10 % 10) (by omega) w)
  have A3 := Lib.hid (fun w => l1NumN_any (u % 10) (by omega) w)
  have B1 : Hid (∀ w, Calls Tryd.prog 52 #[.int .i64 (IntKind.i64.wrap ((u : Int) / 100))] w fun e w' => e = .returned (.string (decB (u / 100))) ∧ Dr w w') := Lib.hid (by rw [t4]; exact A1.out)
  have C1 : Hid (∀ w, Calls Tryd.prog 52 #[.int .i64 ((u : Int) / 100)] w fun e w' => e = .returned (.string (decB (u / 100))) ∧ Dr w w') := Lib.hid (by rw [t5]; exact A1.out)
  have B2 : Hid (∀ w, Calls Tryd.prog 52 #[.int .i64 ((IntKind.i64.wrap ((u : Int) / 10)).tmod 10)] w fun e w' => e = .returned (.string (decB (u / 10 % 10))) ∧ Dr w w') := Lib.hid (by rw [t3, t2]; exact A2.out)
  have C2 : Hid (∀ w, Calls Tryd.prog 52 #[.int .i64 (((u : Int) / 10).tmod 10)] w fun e w' => e = .returned (.string (decB (u / 10 % 10))) ∧ Dr w w') := Lib.hid (by rw [t2]; exact A2.out)
  have C3 : Hid (∀ w, Calls Tryd.prog 52 #[.int .i64 ((u : Int).tmod 10)] w fun e w' => e = .returned (.string (decB (u % 10))) ∧ Dr w w') := Lib.hid (by rw [t1]; exact A3.out)
  obtain ⟨z1, z2, z3, _, _⟩ := face_size hu
  have HF : Hid (decB (u / 100) ++ dotB ++ decB (u / 10 % 10) ++ decB (u % 10) = faceF u) := Lib.hid rfl
  clear t1 t2 t3 t4 t5 A1 A2 A3
  generalize decB (u / 100) = x1 at *
  generalize decB (u / 10 % 10) = x2 at *
  generalize decB (u % 10) = x3 at *
  go_enter Tryd.func46, Tryd.ntmps46
  go_wp2_with fail
  refine (C1.out _).mono ?_
  rintro e w1 ⟨rfl, hd1⟩
  go_wp2_with fail
  refine (C2.out _).mono ?_
  rintro e w2 ⟨rfl, hd2⟩
  go_wp2_with fail
  refine (C3.out _).mono ?_
  rintro e w3 ⟨rfl, hd3⟩
  go_wp2_with fail
  go_ret
  exact ⟨congrArg (fun x => Ending.returned (.string x)) HF.out, (hd1.trans hd2).trans hd3⟩
set_option maxHeartbeats 800000 in
set_option maxRecDepth 100000 in
theorem hundredths_any (u : Nat) (hu : u ≤ 9999) (w : World) (htab : PowTab w) : Calls Tryd.prog 44 #[.int .i64 (u : Int)] w fun e w' => e = .returned (.string (faceF u)) ∧ Below w.heap.size w w' := by
  have n1 : numF ((u : Int) / 100) = decB (u / 100) := by rw [show (u : Int) / 100 = ((u / 100 : Nat) : Int) by omega]; exact numF_nonneg _
  have n2 : numF ((u : Int) % 100) = decB (u % 100) := by rw [show (u : Int) % 100 = ((u % 100 : Nat) : Int) by omega]; exact numF_nonneg _
  have t1 : (u : Int).tmod 100 = (u : Int) % 100 := Int.tmod_eq_emod_of_nonneg (by omega)
  have H1 := Lib.hid (itoa_any ((u : Int) / 100) (by omega) (by omega) w htab)
  have H2 : Hid (∀ w', Below w.heap.size w w' → Calls Tryd.prog 47 #[.int .i64 ((u : Int).tmod 100)] w' fun e w'' => e = .returned (.string (decB (u % 100))) ∧ Below w'.heap.size w' w'') := Lib.hid (fun w' hb => by
    have := itoa_any ((u : Int) % 100) (by omega) (by omega) w' (htab.stays hb (Nat.le_refl _))
    rwa [n2, ← t1] at this)
  rw [n1] at H1
  obtain ⟨z1, _, _, z4, _⟩ := face_size hu
  have HLO := Lib.hid (fun h => face_lo (u := u) h)
  have HHI := Lib.hid (fun h => face_hi (u := u) h)
  by_cases h : u % 100 < 10
  · have HF := Lib.hid (HLO.out h)
    have d1 : decide ((u : Int).tmod 100 < 10) = true := by rw [t1]; simp; omega
    have d2 : (u : Int).tmod 100 < 10 := by rw [t1]; omega
    clear n1 n2 t1 htab HLO HHI
    generalize decB (u / 100) = x1 at *
    generalize decB (u % 100) = x2 at *
    go_enter Tryd.func44, Tryd.ntmps44
    go_wp2_with fail
    refine H1.out.mono ?_
    rintro e w1 ⟨rfl, hb⟩
    have HB := Lib.hid hb
    clear hb
    go_wp2_with (go_at_call 47; refine (H2.out _ HB.out).mono ?_; rintro e w2 ⟨rfl, hb2⟩)
    go_ret
    exact ⟨congrArg (fun x => Ending.returned (.string x)) HF.out, HB.out.trans (hb2.mono HB.out.size)⟩
  · have HF := Lib.hid (HHI.out (by omega))
    have d1 : decide ((u : Int).tmod 100 < 10) = false := by rw [t1]; simp; omega
    have d2 : ¬ (u : Int).tmod 100 < 10 := by rw [t1]; omega
    clear n1 n2 t1 htab HLO HHI
    generalize decB (u / 100) = x1 at *
    generalize decB (u % 100) = x2 at *
    go_enter Tryd.func44, Tryd.ntmps44
    go_wp2_with fail
    refine H1.out.mono ?_
    rintro e w1 ⟨rfl, hb⟩
    have HB := Lib.hid hb
    clear hb
    go_wp2_with (go_at_call 47; refine (H2.out _ HB.out).mono ?_; rintro e w2 ⟨rfl, hb2⟩)
    go_ret
    exact ⟨congrArg (fun x => Ending.returned (.string x)) HF.out, HB.out.trans (hb2.mono HB.out.size)⟩
set_option maxHeartbeats 400000 in
theorem specFace_any (n : Int) (w : World) : Calls Tryd.prog 22 #[.int .i64 n] w fun e w' => e = .returned (.tuple #[.string (if inB n 0 9999 then faceF n.toNat else .empty), .bool (inB n 0 9999)]) ∧ Dr w w' := by
  have HI := Lib.hid (fun w => l1In_any n 0 9999 w)
  cases h : inB n 0 9999
  · rw [h] at HI
    simp only [Bool.false_eq_true, if_false]
    clear h
    go_enter Tryd.func22, Tryd.ntmps22
    go_wp2_with (go_at_call 45; refine (HI.out _).mono ?_; rintro e w' ⟨rfl, rfl⟩)
    go_ret2
    exact ⟨rfl, Dr.refl _⟩
  · obtain ⟨l1, l2⟩ := inB_true.1 h
    have hl := fun w => l2Face_any n.toNat (by omega) w
    rw [show ((n.toNat : Nat) : Int) = n by omega] at hl
    have HN := Lib.hid hl
    rw [h] at HI
    simp only [if_true]
    clear h hl
    go_enter Tryd.func22, Tryd.ntmps22
    go_wp2_with (first | (go_at_call 45; refine (HI.out _).mono ?_; rintro e w' ⟨rfl, rfl⟩) | (go_at_call 46; refine (HN.out _).mono ?_; rintro e w' ⟨rfl, k, rfl⟩))
    go_ret2
    exact ⟨rfl, Dr.of _ _⟩
set_option maxHeartbeats 400000 in
set_option maxRecDepth 100000 in
theorem implFace_any (n : Int) (w : World) (htab : PowTab w) : Calls Tryd.prog 21 #[.int .i64 n] w fun e w' => e = .returned (.tuple #[.string (if inB n 0 9999 then faceF n.toNat else .empty), .bool (inB n 0 9999)]) ∧ Below w.heap.size w w' := by
  have HI := Lib.hid (fun w => inRange_any n 0 9999 w)
  cases h : inB n 0 9999
  · rw [h] at HI
    simp only [Bool.false_eq_true, if_false]
    clear h htab
    go_enter Tryd.func21, Tryd.ntmps21
    go_wp2_with (go_at_call 42; refine (HI.out _).mono ?_; rintro e w' ⟨rfl, rfl⟩)
    go_ret2
    exact ⟨rfl, Below.refl _ _⟩
  · obtain ⟨l1, l2⟩ := inB_true.1 h
    have hl := hundredths_any n.toNat (by omega) w htab
    rw [show ((n.toNat : Nat) : Int) = n by omega] at hl
    have HN := Lib.hid hl
    rw [h] at HI
    simp only [if_true]
    clear h htab hl
    go_enter Tryd.func21, Tryd.ntmps21
    go_wp2_with (first | (go_at_call 42; refine (HI.out _).mono ?_; rintro e w' ⟨rfl, rfl⟩) | (go_at_call 44; refine HN.out.mono ?_; rintro e w' ⟨rfl, hb⟩))
    go_ret2
    exact ⟨rfl, hb⟩
end Go.Proofs.YtoomjionojfjgaaDoor
