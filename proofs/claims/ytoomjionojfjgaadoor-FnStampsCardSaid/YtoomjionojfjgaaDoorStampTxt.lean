/- StampText: both sides write one text; the law. -/
import Derived.Test.YtoomjionojfjgaaDoorFaceS
import Derived.Test.YtoomjionojfjgaaDoorStampA
import Derived.Test.YtoomjionojfjgaaDoorStampG
import Derived.Test.YtoomjionojfjgaaDoorRowX
namespace Go.Proofs.YtoomjionojfjgaaDoor
open Go.ChangeShapes Go.WideShapes Go.ChangeAt Go.RowKit

abbrev colonB : ByteArray := ⟨#[58, 32]⟩
abbrev colorB : ByteArray := ⟨#[32, 99, 111, 108, 111, 114, 32]⟩
abbrev blankB : ByteArray := ⟨#[32]⟩
def textF (c : StampT) : ByteArray := numF c.id ++ colonB ++ faceF c.face.toNat ++ colorB ++ numF c.color ++ blankB ++ numF c.year
structure TextIn (c : StampT) : Prop where
  i : 1 ≤ c.id ∧ c.id ≤ 999
  f : 0 ≤ c.face ∧ c.face ≤ 9999
  k : 0 ≤ c.color ∧ c.color ≤ 99
  y : 1840 ≤ c.year ∧ c.year ≤ 2100
theorem textIn_of {c : StampT} (h : stampOk c = true) : TextIn c := by
  simp only [stampOk, Bool.and_eq_true, inB_true] at h
  exact ⟨h.1.1.1, h.1.1.2, h.1.2, h.2⟩
set_option maxHeartbeats 1000000 in
set_option maxRecDepth 100000 in
theorem l2Text_any (c : StampT) (hok : stampOk c = true) (w : World) : Calls Tryd.prog 31 #[c.val] w fun e w' => e = .returned (.string (textF c)) ∧ Below w.heap.size w w' := by
  obtain ⟨⟨i1, i2⟩, ⟨f1, f2⟩, ⟨k1, k2⟩, y1, y2⟩ := textIn_of hok
  have H1 := Lib.hid (fun w => l1Num_any c.id (by omega) (by omega) w)
  have hf := fun w => l2Face_any c.face.toNat (by omega) w
  rw [show ((c.face.toNat : Nat) : Int) = c.face by omega] at hf
  have H2 := Lib.hid hf
  have H3 := Lib.hid (fun w => l1Num_any c.color (by omega) (by omega) w)
  have H4 := Lib.hid (fun w => l1Num_any c.year (by omega) (by omega) w)
  have z1 := numF_size (n := c.id) (by omega) (by omega)
  have z2 := (face_size (u := c.face.toNat) (by omega)).2.2.2.2
  have z3 := numF_size (n := c.color) (by omega) (by omega)
  have z4 := numF_size (n := c.year) (by omega) (by omega)
  have HF : Hid (numF c.id ++ colonB ++ faceF c.face.toNat ++ colorB ++ numF c.color ++ blankB ++ numF c.year = textF c) := Lib.hid rfl
  have BX := Lib.hid (RowIs.new w 25 c.cells)
  have B0 := Lib.hid (Go.Joins.below_alloc1 w (.cells c.cells.toArray 25))
  clear hf hok i1 i2 f1 f2 k1 k2 y1 y2
  generalize numF c.id = x1 at *
  generalize faceF c.face.toNat = x2 at *
  generalize numF c.color = x3 at *
  generalize numF c.year = x4 at *
  have e0 : (w.alloc (.cells c.cells.toArray 25)) = w.alloc (.cells #[.int .i64 c.id, .int .i64 c.face, .int .i64 c.color, .int .i64 c.year] 25) := rfl
  rw [e0] at BX B0
  clear e0
  go_enter Tryd.func31, Tryd.ntmps31
  go_wp2_with fail
  generalize w.alloc (.cells #[.int .i64 c.id, .int .i64 c.face, .int .i64 c.color, .int .i64 c.year] 25) = w0 at *
  have c0 := BX.out.cell (j := 0) rfl
  have c1 := BX.out.cell (j := 1) rfl
  have c2 := BX.out.cell (j := 2) rfl
  have c3 := BX.out.cell (j := 3) rfl
  go_quiet ((first | (go_at_call 52; first | (with_reducible exact quiet_dr (H1.out _)) | (with_reducible exact quiet_dr (H3.out _)) | (with_reducible exact quiet_dr (H4.out _))) | (go_at_call 46; exact quiet_dr (H2.out _))))
  go_wp2_with fail
  go_ret
  exact ⟨congrArg (fun x => Ending.returned (.string x)) HF.out, B0.out.trans ((Dr.of _ _).below _)⟩
set_option maxHeartbeats 1000000 in
set_option maxRecDepth 100000 in
theorem stampText_any (c : StampT) (hok : stampOk c = true) (w : World) (htab : PowTab w) : Calls Tryd.prog 25 #[c.val] w fun e w' => e = .returned (.string (textF c)) ∧ Below w.heap.size w w' := by
  obtain ⟨⟨i1, i2⟩, ⟨f1, f2⟩, ⟨k1, k2⟩, y1, y2⟩ := textIn_of hok
  have BX := Lib.hid (RowIs.new w 25 c.cells)
  have B0 := Lib.hid (Go.Joins.below_alloc1 w (.cells c.cells.toArray 25))
  have e0 : (w.alloc (.cells c.cells.toArray 25)) = w.alloc (.cells #[.int .i64 c.id, .int .i64 c.face, .int .i64 c.color, .int .i64 c.year] 25) := rfl
  rw [e0] at BX B0
  clear e0
  have hT := htab.stays B0.out (Nat.le_refl _)
  have hf := fun w ht => hundredths_any c.face.toNat (by omega) w ht
  rw [show ((c.face.toNat : Nat) : Int) = c.face by omega] at hf
  have H0 := Lib.hid (fun w ht => itoa_any c.id (by omega) (by omega) w ht)
  have H2 := Lib.hid hf
  have H3 := Lib.hid (fun w ht => itoa_any c.color (by omega) (by omega) w ht)
  have H4 := Lib.hid (fun w ht => itoa_any c.year (by omega) (by omega) w ht)
  have z1 := numF_size (n := c.id) (by omega) (by omega)
  have z2 := (face_size (u := c.face.toNat) (by omega)).2.2.2.2
  have z3 := numF_size (n := c.color) (by omega) (by omega)
  have z4 := numF_size (n := c.year) (by omega) (by omega)
  have HF : Hid (numF c.id ++ colonB ++ faceF c.face.toNat ++ colorB ++ numF c.color ++ blankB ++ numF c.year = textF c) := Lib.hid rfl
  clear hf hok i1 i2 f1 f2 k1 k2 y1 y2 htab
  generalize numF c.id = x1 at *
  generalize faceF c.face.toNat = x2 at *
  generalize numF c.color = x3 at *
  generalize numF c.year = x4 at *
  have HT := Lib.hid hT
  clear hT
  go_enter Tryd.func25, Tryd.ntmps25
  go_wp2_with fail
  generalize w.alloc (.cells #[.int .i64 c.id, .int .i64 c.face, .int .i64 c.color, .int .i64 c.year] 25) = w0 at *
  have hg : w.heap.size < w0.heap.size := BX.out.lt
  have c0 : ∀ x : Ext w0, x.1.cell? ⟨w.heap.size, 0, none⟩ = some (.int .i64 c.id) := fun x => (x.cell hg).trans (BX.out.cell (j := 0) rfl)
  have c1 : ∀ x : Ext w0, x.1.cell? ⟨w.heap.size, 1, none⟩ = some (.int .i64 c.face) := fun x => (x.cell hg).trans (BX.out.cell (j := 1) rfl)
  have c2 : ∀ x : Ext w0, x.1.cell? ⟨w.heap.size, 2, none⟩ = some (.int .i64 c.color) := fun x => (x.cell hg).trans (BX.out.cell (j := 2) rfl)
  have c3 : ∀ x : Ext w0, x.1.cell? ⟨w.heap.size, 3, none⟩ = some (.int .i64 c.year) := fun x => (x.cell hg).trans (BX.out.cell (j := 3) rfl)
  have PT : Hid (∀ x : Ext w0, PowTab x.1) := Lib.hid (fun x => HT.out.stays x.2 (Nat.le_refl _))
  refine wp_region_ext (by kernel_rfl) (by kernel_rfl) ?_
  repeat (go_big_quiet_step ((first | (go_at_call 47; first | (with_reducible exact ext_call (H0.out _ (PT.out _))) | (with_reducible exact ext_call (H3.out _ (PT.out _))) | (with_reducible exact ext_call (H4.out _ (PT.out _)))) | (go_at_call 44; exact ext_call (H2.out _ (PT.out _))))))
  refine wpQuiet_nil ?_
  rintro _ ⟨x, rfl⟩
  go_wp2_with fail
  go_ret
  exact ⟨congrArg (fun x => Ending.returned (.string x)) HF.out, B0.out.trans (x.2.mono B0.out.size)⟩
set_option maxHeartbeats 800000 in
set_option maxRecDepth 100000 in
theorem specStampText_any (c : StampT) (w : World) : Calls Tryd.prog 8 #[c.val] w fun e w' => e = .returned (.tuple #[.string (if stampOk c = true then textF c else .empty), .bool (stampOk c)]) ∧ Below w.heap.size w w' := by
  have BX := Lib.hid (RowIs.new w 25 c.cells)
  have B0 := Lib.hid (Go.Joins.below_alloc1 w (.cells c.cells.toArray 25))
  have e0 : (w.alloc (.cells c.cells.toArray 25)) = w.alloc (.cells #[.int .i64 c.id, .int .i64 c.face, .int .i64 c.color, .int .i64 c.year] 25) := rfl
  rw [e0] at BX B0
  clear e0
  have hA := fun w => l2Stamp_any c w
  cases hok : stampOk c
  · rw [hok] at hA
    simp only [Bool.false_eq_true, if_false]
    have HA := Lib.hid hA
    clear hA hok
    go_enter Tryd.func8, Tryd.ntmps8
    go_wp2_with fail
    refine (HA.out _).mono ?_
    rintro e w1 ⟨rfl, hb⟩
    have HB := Lib.hid hb
    clear hb
    go_wp2_with fail
    go_ret2
    exact ⟨rfl, B0.out.trans (HB.out.mono B0.out.size)⟩
  · have HX := Lib.hid (fun w => l2Text_any c hok w)
    rw [hok] at hA
    simp only [if_true]
    have HA := Lib.hid hA
    clear hA hok
    go_enter Tryd.func8, Tryd.ntmps8
    go_wp2_with fail
    refine (HA.out _).mono ?_
    rintro e w1 ⟨rfl, hb⟩
    have HB := Lib.hid hb
    clear hb
    generalize w.alloc (.cells #[.int .i64 c.id, .int .i64 c.face, .int .i64 c.color, .int .i64 c.year] 25) = w0 at *
    have c0 := (BX.out.below HB.out).cell (j := 0) rfl
    have c1 := (BX.out.below HB.out).cell (j := 1) rfl
    have c2 := (BX.out.below HB.out).cell (j := 2) rfl
    have c3 := (BX.out.below HB.out).cell (j := 3) rfl
    go_wp2_with fail
    refine (HX.out _).mono ?_
    rintro e w2 ⟨rfl, hb2⟩
    have HB2 := Lib.hid (HB.out.trans (hb2.mono HB.out.size))
    clear hb2
    go_wp2_with fail
    go_ret2
    exact ⟨rfl, B0.out.trans (HB2.out.mono B0.out.size)⟩
set_option maxHeartbeats 800000 in
set_option maxRecDepth 100000 in
theorem implStampText_any (c : StampT) (w : World) (htab : PowTab w) : Calls Tryd.prog 6 #[c.val] w fun e w' => e = .returned (.tuple #[.string (if stampOk c = true then textF c else .empty), .bool (stampOk c)]) ∧ Below w.heap.size w w' := by
  have BX := Lib.hid (RowIs.new w 25 c.cells)
  have B0 := Lib.hid (Go.Joins.below_alloc1 w (.cells c.cells.toArray 25))
  have e0 : (w.alloc (.cells c.cells.toArray 25)) = w.alloc (.cells #[.int .i64 c.id, .int .i64 c.face, .int .i64 c.color, .int .i64 c.year] 25) := rfl
  rw [e0] at BX B0
  clear e0
  have hA := fun w => isStamp_any c w
  have HT := Lib.hid (htab.stays B0.out (Nat.le_refl _))
  clear htab
  cases hok : stampOk c
  · rw [hok] at hA
    simp only [Bool.false_eq_true, if_false]
    have HA := Lib.hid hA
    clear hA hok
    go_enter Tryd.func6, Tryd.ntmps6
    go_wp2_with fail
    refine (HA.out _).mono ?_
    rintro e w1 ⟨rfl, hb⟩
    have HB := Lib.hid hb
    clear hb
    go_wp2_with fail
    go_ret2
    exact ⟨rfl, B0.out.trans (HB.out.mono B0.out.size)⟩
  · have HX := Lib.hid (fun w ht => stampText_any c hok w ht)
    rw [hok] at hA
    simp only [if_true]
    have HA := Lib.hid hA
    clear hA hok
    go_enter Tryd.func6, Tryd.ntmps6
    go_wp2_with fail
    refine (HA.out _).mono ?_
    rintro e w1 ⟨rfl, hb⟩
    have HB := Lib.hid hb
    clear hb
    generalize w.alloc (.cells #[.int .i64 c.id, .int .i64 c.face, .int .i64 c.color, .int .i64 c.year] 25) = w0 at *
    have c0 := (BX.out.below HB.out).cell (j := 0) rfl
    have c1 := (BX.out.below HB.out).cell (j := 1) rfl
    have c2 := (BX.out.below HB.out).cell (j := 2) rfl
    have c3 := (BX.out.below HB.out).cell (j := 3) rfl
    go_wp2_with fail
    refine (HX.out _ (HT.out.stays HB.out (Nat.le_refl _))).mono ?_
    rintro e w2 ⟨rfl, hb2⟩
    have HB2 := Lib.hid (HB.out.trans (hb2.mono HB.out.size))
    clear hb2
    go_wp2_with fail
    go_ret2
    exact ⟨rfl, B0.out.trans (HB2.out.mono B0.out.size)⟩
end Go.Proofs.YtoomjionojfjgaaDoor
