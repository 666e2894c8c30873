/- PaperText: both sides write one text; the law. -/
import Derived.Test.YtmnlkcclcnnhmaaGreatDoorNumC
import Derived.Test.YtmnlkcclcnnhmaaGreatDoorPaperL
import Derived.Test.YtmnlkcclcnnhmaaGreatDoorRowX
namespace Go.Proofs.YtmnlkcclcnnhmaaGreatDoor
open Go.ChangeShapes Go.WideShapes Go.ChangeAt Go.RowKit

abbrev spB : ByteArray := ⟨#[32]⟩
abbrev umB : ByteArray := ⟨#[117, 109, 32, 116]⟩
abbrev laidB : ByteArray := ⟨#[32, 108, 97, 105, 100]⟩
abbrev wmkB : ByteArray := ⟨#[32, 119, 109, 107, 32]⟩
def pt1 (c : PaperT) : ByteArray := numF c.id ++ spB ++ numF c.thick ++ umB ++ numF c.tint
def pt2 (c : PaperT) : ByteArray := if c.laid = true then pt1 c ++ laidB else pt1 c
def pt3 (c : PaperT) : ByteArray := if c.mark.toList.isEmpty = true then pt2 c else pt2 c ++ wmkB ++ c.mark
theorem papp_assoc (a b c : ByteArray) : a ++ b ++ c = a ++ (b ++ c) := by
  apply ByteArray.ext; simp [ByteArray.data_append, Array.append_assoc]
structure PTextIn (c : PaperT) : Prop where
  i : 1 ≤ c.id ∧ c.id ≤ 99
  f : 1 ≤ c.thick ∧ c.thick ≤ 300
  k : 0 ≤ c.tint ∧ c.tint ≤ 9
  m : c.mark.toList.isEmpty = true ∨ c.mark.size ≤ 10
theorem ptextIn_of {c : PaperT} (h : paperOk c = true) : PTextIn c := by
  simp only [paperOk, Bool.and_eq_true, Bool.or_eq_true, inB_true] at h
  refine ⟨h.1.1.1, h.1.1.2, h.1.2, ?_⟩
  rcases h.2 with h2 | h2
  · left; simpa [emptyB] using h2
  · right
    simp only [wordB, Bool.and_eq_true, inB_true] at h2
    omega
set_option maxHeartbeats 2000000 in
set_option maxRecDepth 100000 in
theorem l3Text_any (c : PaperT) (hok : paperOk c = true) (w : World) : Calls Tryz.prog 32 #[c.val] w fun e w' => e = .returned (.string (pt3 c)) ∧ Below w.heap.size w w' := by
  obtain ⟨⟨i1, i2⟩, ⟨f1, f2⟩, ⟨k1, k2⟩, hmk⟩ := ptextIn_of hok
  have BX := Lib.hid (RowIs.new w 25 c.cells)
  have B0 := Lib.hid (Go.Joins.below_alloc1 w (.cells c.cells.toArray 25))
  have e0 : (w.alloc (.cells c.cells.toArray 25)) = w.alloc (.cells #[.int .i64 c.id, .int .i64 c.thick, .int .i64 c.tint, .string c.mark, .bool c.laid] 25) := rfl
  rw [e0] at BX B0
  clear e0
  have H1 := Lib.hid (fun w => l1Num_any c.id (by omega) (by omega) w)
  have H2 := Lib.hid (fun w => l1Num_any c.thick (by omega) (by omega) w)
  have H3 := Lib.hid (fun w => l1Num_any c.tint (by omega) (by omega) w)
  have z1 := numF_size (n := c.id) (by omega) (by omega)
  have z2 := numF_size (n := c.thick) (by omega) (by omega)
  have z3 := numF_size (n := c.tint) (by omega) (by omega)
  have HF : Hid (pt3 c = if c.mark.toList.isEmpty = true then (if c.laid = true then numF c.id ++ spB ++ numF c.thick ++ umB ++ numF c.tint ++ laidB else numF c.id ++ spB ++ numF c.thick ++ umB ++ numF c.tint) else (if c.laid = true then numF c.id ++ spB ++ numF c.thick ++ umB ++ numF c.tint ++ laidB else numF c.id ++ spB ++ numF c.thick ++ umB ++ numF c.tint) ++ wmkB ++ c.mark) := Lib.hid rfl
  have HAS := Lib.hid (fun a => papp_assoc a wmkB c.mark)
  obtain ⟨ci, ct, cn, cm, cl⟩ := c
  simp only at *
  clear hok i1 i2 f1 f2 k1 k2
  generalize numF ci = x1 at *
  generalize numF ct = x2 at *
  generalize numF cn = x3 at *
  generalize pt3 ⟨ci, ct, cn, cm, cl⟩ = R at *
  cases em : cm.toList.isEmpty
  · have HF2 := Lib.hid HF.out; rw [em, if_neg (by simp)] at HF2
    have hms : cm.size ≤ 10 := hmk.elim (fun h => absurd h (by rw [em]; simp)) id
    cases cl
    · simp only [Bool.false_eq_true, if_false] at HF2
      clear HF hmk
      go_enter Tryz.func32, Tryz.ntmps32
      go_wp2_with fail
      generalize w.alloc (.cells #[.int .i64 ci, .int .i64 ct, .int .i64 cn, .string cm, .bool false] 25) = w0 at *
      have c0 := BX.out.cell (j := 0) rfl
      have c1 := BX.out.cell (j := 1) rfl
      have c2 := BX.out.cell (j := 2) rfl
      have c3 : w0.cell? ⟨w.heap.size, 3, none⟩ = some (.string cm) := BX.out.cell (j := 3) rfl
      have c4 : w0.cell? ⟨w.heap.size, 4, none⟩ = some (.bool false) := BX.out.cell (j := 4) rfl
      go_quiet ((go_at_call 59; first | (with_reducible exact quiet_dr (H1.out _)) | (with_reducible exact quiet_dr (H2.out _)) | (with_reducible exact quiet_dr (H3.out _))))
      have c3 : (w0.drewN nq).cell? ⟨w.heap.size, 3, none⟩ = some (.string cm) := c3
      have c4 : (w0.drewN nq).cell? ⟨w.heap.size, 4, none⟩ = some (.bool false) := c4
      have HD := Lib.hid ((Dr.of w0 nq).below w.heap.size)
      generalize w0.drewN nq = w1 at *
      go_wp2_with fail
      go_ret
      exact ⟨congrArg (fun x => Ending.returned (.string x)) HF2.out.symm, B0.out.trans HD.out⟩
    · simp only [if_true] at HF2
      clear HF hmk
      go_enter Tryz.func32, Tryz.ntmps32
      go_wp2_with fail
      generalize w.alloc (.cells #[.int .i64 ci, .int .i64 ct, .int .i64 cn, .string cm, .bool true] 25) = w0 at *
      have c0 := BX.out.cell (j := 0) rfl
      have c1 := BX.out.cell (j := 1) rfl
      have c2 := BX.out.cell (j := 2) rfl
      have c3 : w0.cell? ⟨w.heap.size, 3, none⟩ = some (.string cm) := BX.out.cell (j := 3) rfl
      have c4 : w0.cell? ⟨w.heap.size, 4, none⟩ = some (.bool true) := BX.out.cell (j := 4) rfl
      go_quiet ((go_at_call 59; first | (with_reducible exact quiet_dr (H1.out _)) | (with_reducible exact quiet_dr (H2.out _)) | (with_reducible exact quiet_dr (H3.out _))))
      have c3 : (w0.drewN nq).cell? ⟨w.heap.size, 3, none⟩ = some (.string cm) := c3
      have c4 : (w0.drewN nq).cell? ⟨w.heap.size, 4, none⟩ = some (.bool true) := c4
      have HD := Lib.hid ((Dr.of w0 nq).below w.heap.size)
      generalize w0.drewN nq = w1 at *
      go_wp2_with fail
      go_ret
      exact ⟨congrArg (fun x => Ending.returned (.string x)) HF2.out.symm, B0.out.trans HD.out⟩
  · have HF2 := Lib.hid HF.out; rw [em, if_pos rfl] at HF2
    have hms : cm.size = cm.size := rfl
    cases cl
    · simp only [Bool.false_eq_true, if_false] at HF2
      clear HF hmk
      go_enter Tryz.func32, Tryz.ntmps32
      go_wp2_with fail
      generalize w.alloc (.cells #[.int .i64 ci, .int .i64 ct, .int .i64 cn, .string cm, .bool false] 25) = w0 at *
      have c0 := BX.out.cell (j := 0) rfl
      have c1 := BX.out.cell (j := 1) rfl
      have c2 := BX.out.cell (j := 2) rfl
      have c3 : w0.cell? ⟨w.heap.size, 3, none⟩ = some (.string cm) := BX.out.cell (j := 3) rfl
      have c4 : w0.cell? ⟨w.heap.size, 4, none⟩ = some (.bool false) := BX.out.cell (j := 4) rfl
      go_quiet ((go_at_call 59; first | (with_reducible exact quiet_dr (H1.out _)) | (with_reducible exact quiet_dr (H2.out _)) | (with_reducible exact quiet_dr (H3.out _))))
      have c3 : (w0.drewN nq).cell? ⟨w.heap.size, 3, none⟩ = some (.string cm) := c3
      have c4 : (w0.drewN nq).cell? ⟨w.heap.size, 4, none⟩ = some (.bool false) := c4
      have HD := Lib.hid ((Dr.of w0 nq).below w.heap.size)
      generalize w0.drewN nq = w1 at *
      go_wp2_with fail
      go_ret
      exact ⟨congrArg (fun x => Ending.returned (.string x)) HF2.out.symm, B0.out.trans HD.out⟩
    · simp only [if_true] at HF2
      clear HF hmk
      go_enter Tryz.func32, Tryz.ntmps32
      go_wp2_with fail
      generalize w.alloc (.cells #[.int .i64 ci, .int .i64 ct, .int .i64 cn, .string cm, .bool true] 25) = w0 at *
      have c0 := BX.out.cell (j := 0) rfl
      have c1 := BX.out.cell (j := 1) rfl
      have c2 := BX.out.cell (j := 2) rfl
      have c3 : w0.cell? ⟨w.heap.size, 3, none⟩ = some (.string cm) := BX.out.cell (j := 3) rfl
      have c4 : w0.cell? ⟨w.heap.size, 4, none⟩ = some (.bool true) := BX.out.cell (j := 4) rfl
      go_quiet ((go_at_call 59; first | (with_reducible exact quiet_dr (H1.out _)) | (with_reducible exact quiet_dr (H2.out _)) | (with_reducible exact quiet_dr (H3.out _))))
      have c3 : (w0.drewN nq).cell? ⟨w.heap.size, 3, none⟩ = some (.string cm) := c3
      have c4 : (w0.drewN nq).cell? ⟨w.heap.size, 4, none⟩ = some (.bool true) := c4
      have HD := Lib.hid ((Dr.of w0 nq).below w.heap.size)
      generalize w0.drewN nq = w1 at *
      go_wp2_with fail
      go_ret
      exact ⟨congrArg (fun x => Ending.returned (.string x)) HF2.out.symm, B0.out.trans HD.out⟩
set_option maxHeartbeats 2000000 in
set_option maxRecDepth 100000 in
theorem paperText_any (c : PaperT) (hok : paperOk c = true) (w : World) (htab : PowTab w) : Calls Tryz.prog 30 #[c.val] w fun e w' => e = .returned (.string (pt3 c)) ∧ Below w.heap.size w w' := by
  obtain ⟨⟨i1, i2⟩, ⟨f1, f2⟩, ⟨k1, k2⟩, hmk⟩ := ptextIn_of hok
  have BX := Lib.hid (RowIs.new w 25 c.cells)
  have B0 := Lib.hid (Go.Joins.below_alloc1 w (.cells c.cells.toArray 25))
  have e0 : (w.alloc (.cells c.cells.toArray 25)) = w.alloc (.cells #[.int .i64 c.id, .int .i64 c.thick, .int .i64 c.tint, .string c.mark, .bool c.laid] 25) := rfl
  rw [e0] at BX B0
  clear e0
  have HT := Lib.hid (htab.stays B0.out (Nat.le_refl _))
  have H1 := Lib.hid (fun w ht => itoa_any c.id (by omega) (by omega) w ht)
  have H2 := Lib.hid (fun w ht => itoa_any c.thick (by omega) (by omega) w ht)
  have H3 := Lib.hid (fun w ht => itoa_any c.tint (by omega) (by omega) w ht)
  clear htab
  have z1 := numF_size (n := c.id) (by omega) (by omega)
  have z2 := numF_size (n := c.thick) (by omega) (by omega)
  have z3 := numF_size (n := c.tint) (by omega) (by omega)
  have HF : Hid (pt3 c = if c.mark.toList.isEmpty = true then (if c.laid = true then numF c.id ++ spB ++ numF c.thick ++ umB ++ numF c.tint ++ laidB else numF c.id ++ spB ++ numF c.thick ++ umB ++ numF c.tint) else (if c.laid = true then numF c.id ++ spB ++ numF c.thick ++ umB ++ numF c.tint ++ laidB else numF c.id ++ spB ++ numF c.thick ++ umB ++ numF c.tint) ++ wmkB ++ c.mark) := Lib.hid rfl
  have HAS := Lib.hid (fun a => papp_assoc a wmkB c.mark)
  obtain ⟨ci, ct, cn, cm, cl⟩ := c
  simp only at *
  clear hok i1 i2 f1 f2 k1 k2
  generalize numF ci = x1 at *
  generalize numF ct = x2 at *
  generalize numF cn = x3 at *
  generalize pt3 ⟨ci, ct, cn, cm, cl⟩ = R at *
  cases em : cm.toList.isEmpty
  · have HF2 := Lib.hid HF.out; rw [em, if_neg (by simp)] at HF2
    have hms : cm.size ≤ 10 := hmk.elim (fun h => absurd h (by rw [em]; simp)) id
    cases cl
    · simp only [Bool.false_eq_true, if_false] at HF2
      clear HF hmk
      go_enter Tryz.func30, Tryz.ntmps30
      go_wp2_with fail
      generalize w.alloc (.cells #[.int .i64 ci, .int .i64 ct, .int .i64 cn, .string cm, .bool false] 25) = w0 at *
      have hg : w.heap.size < w0.heap.size := BX.out.lt
      have PT : Hid (∀ x : Ext w0, PowTab x.1) := Lib.hid (fun x => HT.out.stays x.2 (Nat.le_refl _))
      have CA : Hid (∀ x : Ext w0, x.1.cell? ⟨w.heap.size, 3, none⟩ = some (.string cm) ∧ x.1.cell? ⟨w.heap.size, 4, none⟩ = some (.bool false)) := Lib.hid (fun x => ⟨(x.cell hg).trans (BX.out.cell (j := 3) rfl), (x.cell hg).trans (BX.out.cell (j := 4) rfl)⟩)
      have c0 : ∀ x : Ext w0, x.1.cell? ⟨w.heap.size, 0, none⟩ = some (.int .i64 ci) := fun x => (x.cell hg).trans (BX.out.cell (j := 0) rfl)
      have c1 : ∀ x : Ext w0, x.1.cell? ⟨w.heap.size, 1, none⟩ = some (.int .i64 ct) := fun x => (x.cell hg).trans (BX.out.cell (j := 1) rfl)
      have c2 : ∀ x : Ext w0, x.1.cell? ⟨w.heap.size, 2, none⟩ = some (.int .i64 cn) := fun x => (x.cell hg).trans (BX.out.cell (j := 2) rfl)
      refine wp_region_ext (by kernel_rfl) (by kernel_rfl) ?_
      repeat (go_big_quiet_step ((go_at_call 58; first | (with_reducible exact ext_call (H1.out _ (PT.out _))) | (with_reducible exact ext_call (H2.out _ (PT.out _))) | (with_reducible exact ext_call (H3.out _ (PT.out _))))))
      refine wpQuiet_nil ?_
      rintro _ ⟨x, rfl⟩
      have c3 := (CA.out x).1
      have c4 := (CA.out x).2
      clear c0 c1 c2
      go_wp2_with fail
      go_ret
      exact ⟨congrArg (fun x => Ending.returned (.string x)) ((HAS.out _).symm.trans HF2.out.symm), B0.out.trans (x.2.mono B0.out.size)⟩
    · simp only [if_true] at HF2
      clear HF hmk
      go_enter Tryz.func30, Tryz.ntmps30
      go_wp2_with fail
      generalize w.alloc (.cells #[.int .i64 ci, .int .i64 ct, .int .i64 cn, .string cm, .bool true] 25) = w0 at *
      have hg : w.heap.size < w0.heap.size := BX.out.lt
      have PT : Hid (∀ x : Ext w0, PowTab x.1) := Lib.hid (fun x => HT.out.stays x.2 (Nat.le_refl _))
      have CA : Hid (∀ x : Ext w0, x.1.cell? ⟨w.heap.size, 3, none⟩ = some (.string cm) ∧ x.1.cell? ⟨w.heap.size, 4, none⟩ = some (.bool true)) := Lib.hid (fun x => ⟨(x.cell hg).trans (BX.out.cell (j := 3) rfl), (x.cell hg).trans (BX.out.cell (j := 4) rfl)⟩)
      have c0 : ∀ x : Ext w0, x.1.cell? ⟨w.heap.size, 0, none⟩ = some (.int .i64 ci) := fun x => (x.cell hg).trans (BX.out.cell (j := 0) rfl)
      have c1 : ∀ x : Ext w0, x.1.cell? ⟨w.heap.size, 1, none⟩ = some (.int .i64 ct) := fun x => (x.cell hg).trans (BX.out.cell (j := 1) rfl)
      have c2 : ∀ x : Ext w0, x.1.cell? ⟨w.heap.size, 2, none⟩ = some (.int .i64 cn) := fun x => (x.cell hg).trans (BX.out.cell (j := 2) rfl)
      refine wp_region_ext (by kernel_rfl) (by kernel_rfl) ?_
      repeat (go_big_quiet_step ((go_at_call 58; first | (with_reducible exact ext_call (H1.out _ (PT.out _))) | (with_reducible exact ext_call (H2.out _ (PT.out _))) | (with_reducible exact ext_call (H3.out _ (PT.out _))))))
      refine wpQuiet_nil ?_
      rintro _ ⟨x, rfl⟩
      have c3 := (CA.out x).1
      have c4 := (CA.out x).2
      clear c0 c1 c2
      go_wp2_with fail
      go_ret
      exact ⟨congrArg (fun x => Ending.returned (.string x)) ((HAS.out _).symm.trans HF2.out.symm), B0.out.trans (x.2.mono B0.out.size)⟩
  · have HF2 := Lib.hid HF.out; rw [em, if_pos rfl] at HF2
    have hms : cm.size = cm.size := rfl
    cases cl
    · simp only [Bool.false_eq_true, if_false] at HF2
      clear HF hmk
      go_enter Tryz.func30, Tryz.ntmps30
      go_wp2_with fail
      generalize w.alloc (.cells #[.int .i64 ci, .int .i64 ct, .int .i64 cn, .string cm, .bool false] 25) = w0 at *
      have hg : w.heap.size < w0.heap.size := BX.out.lt
      have PT : Hid (∀ x : Ext w0, PowTab x.1) := Lib.hid (fun x => HT.out.stays x.2 (Nat.le_refl _))
      have CA : Hid (∀ x : Ext w0, x.1.cell? ⟨w.heap.size, 3, none⟩ = some (.string cm) ∧ x.1.cell? ⟨w.heap.size, 4, none⟩ = some (.bool false)) := Lib.hid (fun x => ⟨(x.cell hg).trans (BX.out.cell (j := 3) rfl), (x.cell hg).trans (BX.out.cell (j := 4) rfl)⟩)
      have c0 : ∀ x : Ext w0, x.1.cell? ⟨w.heap.size, 0, none⟩ = some (.int .i64 ci) := fun x => (x.cell hg).trans (BX.out.cell (j := 0) rfl)
      have c1 : ∀ x : Ext w0, x.1.cell? ⟨w.heap.size, 1, none⟩ = some (.int .i64 ct) := fun x => (x.cell hg).trans (BX.out.cell (j := 1) rfl)
      have c2 : ∀ x : Ext w0, x.1.cell? ⟨w.heap.size, 2, none⟩ = some (.int .i64 cn) := fun x => (x.cell hg).trans (BX.out.cell (j := 2) rfl)
      refine wp_region_ext (by kernel_rfl) (by kernel_rfl) ?_
      repeat (go_big_quiet_step ((go_at_call 58; first | (with_reducible exact ext_call (H1.out _ (PT.out _))) | (with_reducible exact ext_call (H2.out _ (PT.out _))) | (with_reducible exact ext_call (H3.out _ (PT.out _))))))
      refine wpQuiet_nil ?_
      rintro _ ⟨x, rfl⟩
      have c3 := (CA.out x).1
      have c4 := (CA.out x).2
      clear c0 c1 c2
      go_wp2_with fail
      go_ret
      exact ⟨congrArg (fun x => Ending.returned (.string x)) HF2.out.symm, B0.out.trans (x.2.mono B0.out.size)⟩
    · simp only [if_true] at HF2
      clear HF hmk
      go_enter Tryz.func30, Tryz.ntmps30
      go_wp2_with fail
      generalize w.alloc (.cells #[.int .i64 ci, .int .i64 ct, .int .i64 cn, .string cm, .bool true] 25) = w0 at *
      have hg : w.heap.size < w0.heap.size := BX.out.lt
      have PT : Hid (∀ x : Ext w0, PowTab x.1) := Lib.hid (fun x => HT.out.stays x.2 (Nat.le_refl _))
      have CA : Hid (∀ x : Ext w0, x.1.cell? ⟨w.heap.size, 3, none⟩ = some (.string cm) ∧ x.1.cell? ⟨w.heap.size, 4, none⟩ = some (.bool true)) := Lib.hid (fun x => ⟨(x.cell hg).trans (BX.out.cell (j := 3) rfl), (x.cell hg).trans (BX.out.cell (j := 4) rfl)⟩)
      have c0 : ∀ x : Ext w0, x.1.cell? ⟨w.heap.size, 0, none⟩ = some (.int .i64 ci) := fun x => (x.cell hg).trans (BX.out.cell (j := 0) rfl)
      have c1 : ∀ x : Ext w0, x.1.cell? ⟨w.heap.size, 1, none⟩ = some (.int .i64 ct) := fun x => (x.cell hg).trans (BX.out.cell (j := 1) rfl)
      have c2 : ∀ x : Ext w0, x.1.cell? ⟨w.heap.size, 2, none⟩ = some (.int .i64 cn) := fun x => (x.cell hg).trans (BX.out.cell (j := 2) rfl)
      refine wp_region_ext (by kernel_rfl) (by kernel_rfl) ?_
      repeat (go_big_quiet_step ((go_at_call 58; first | (with_reducible exact ext_call (H1.out _ (PT.out _))) | (with_reducible exact ext_call (H2.out _ (PT.out _))) | (with_reducible exact ext_call (H3.out _ (PT.out _))))))
      refine wpQuiet_nil ?_
      rintro _ ⟨x, rfl⟩
      have c3 := (CA.out x).1
      have c4 := (CA.out x).2
      clear c0 c1 c2
      go_wp2_with fail
      go_ret
      exact ⟨congrArg (fun x => Ending.returned (.string x)) HF2.out.symm, B0.out.trans (x.2.mono B0.out.size)⟩
set_option maxHeartbeats 800000 in
set_option maxRecDepth 100000 in
theorem specPaperText_any (c : PaperT) (w : World) (hm : c.mark.size ≤ maxLen) : Calls Tryz.prog 7 #[c.val] w fun e w' => e = .returned (.tuple #[.string (if paperOk c = true then pt3 c else .empty), .bool (paperOk c)]) ∧ Below w.heap.size w w' := by
  have BX := Lib.hid (RowIs.new w 25 c.cells)
  have B0 := Lib.hid (Go.Joins.below_alloc1 w (.cells c.cells.toArray 25))
  have e0 : (w.alloc (.cells c.cells.toArray 25)) = w.alloc (.cells #[.int .i64 c.id, .int .i64 c.thick, .int .i64 c.tint, .string c.mark, .bool c.laid] 25) := rfl
  rw [e0] at BX B0
  clear e0
  have hA := fun w => l3One_any c w hm
  clear hm
  cases hok : paperOk c
  · rw [hok] at hA
    simp only [Bool.false_eq_true, if_false]
    have HA := Lib.hid hA
    clear hA hok
    go_enter Tryz.func7, Tryz.ntmps7
    go_wp2_with fail
    refine (HA.out _).mono ?_
    rintro e w1 ⟨rfl, hb⟩
    have HB := Lib.hid hb
    clear hb
    go_wp2_with fail
    go_ret2
    exact ⟨rfl, B0.out.trans (HB.out.mono B0.out.size)⟩
  · have HX := Lib.hid (fun w => l3Text_any c hok w)
    rw [hok] at hA
    simp only [if_true]
    have HA := Lib.hid hA
    clear hA hok
    go_enter Tryz.func7, Tryz.ntmps7
    go_wp2_with fail
    refine (HA.out _).mono ?_
    rintro e w1 ⟨rfl, hb⟩
    have HB := Lib.hid hb
    clear hb
    generalize w.alloc (.cells #[.int .i64 c.id, .int .i64 c.thick, .int .i64 c.tint, .string c.mark, .bool c.laid] 25) = w0 at *
    have c0 := (BX.out.below HB.out).cell (j := 0) rfl
    have c1 := (BX.out.below HB.out).cell (j := 1) rfl
    have c2 := (BX.out.below HB.out).cell (j := 2) rfl
    have c3 := (BX.out.below HB.out).cell (j := 3) rfl
    have c4 := (BX.out.below HB.out).cell (j := 4) rfl
    go_wp2_with fail
    refine (HX.out _).mono ?_
    rintro e w2 ⟨rfl, hb2⟩
    have HB2 := Lib.hid (HB.out.trans (hb2.mono HB.out.size))
    clear hb2
    go_wp2_with fail
    go_ret2
    exact ⟨rfl, B0.out.trans (HB2.out.mono B0.out.size)⟩
set_option maxHeartbeats 800000 in
set_option maxRecDepth 100000 in
theorem implPaperText_any (c : PaperT) (w : World) (hm : c.mark.size ≤ maxLen) (htab : PowTab w) : Calls Tryz.prog 6 #[c.val] w fun e w' => e = .returned (.tuple #[.string (if paperOk c = true then pt3 c else .empty), .bool (paperOk c)]) ∧ Below w.heap.size w w' := by
  have BX := Lib.hid (RowIs.new w 25 c.cells)
  have B0 := Lib.hid (Go.Joins.below_alloc1 w (.cells c.cells.toArray 25))
  have e0 : (w.alloc (.cells c.cells.toArray 25)) = w.alloc (.cells #[.int .i64 c.id, .int .i64 c.thick, .int .i64 c.tint, .string c.mark, .bool c.laid] 25) := rfl
  rw [e0] at BX B0
  clear e0
  have hA := fun w => isPaper_any c w hm
  have HT := Lib.hid (htab.stays B0.out (Nat.le_refl _))
  clear htab
  clear hm
  cases hok : paperOk c
  · rw [hok] at hA
    simp only [Bool.false_eq_true, if_false]
    have HA := Lib.hid hA
    clear hA hok
    go_enter Tryz.func6, Tryz.ntmps6
    go_wp2_with fail
    refine (HA.out _).mono ?_
    rintro e w1 ⟨rfl, hb⟩
    have HB := Lib.hid hb
    clear hb
    go_wp2_with fail
    go_ret2
    exact ⟨rfl, B0.out.trans (HB.out.mono B0.out.size)⟩
  · have HX := Lib.hid (fun w ht => paperText_any c hok w ht)
    rw [hok] at hA
    simp only [if_true]
    have HA := Lib.hid hA
    clear hA hok
    go_enter Tryz.func6, Tryz.ntmps6
    go_wp2_with fail
    refine (HA.out _).mono ?_
    rintro e w1 ⟨rfl, hb⟩
    have HB := Lib.hid hb
    clear hb
    generalize w.alloc (.cells #[.int .i64 c.id, .int .i64 c.thick, .int .i64 c.tint, .string c.mark, .bool c.laid] 25) = w0 at *
    have c0 := (BX.out.below HB.out).cell (j := 0) rfl
    have c1 := (BX.out.below HB.out).cell (j := 1) rfl
    have c2 := (BX.out.below HB.out).cell (j := 2) rfl
    have c3 := (BX.out.below HB.out).cell (j := 3) rfl
    have c4 := (BX.out.below HB.out).cell (j := 4) rfl
    go_wp2_with fail
    refine (HX.out _ (HT.out.stays HB.out (Nat.le_refl _))).mono ?_
    rintro e w2 ⟨rfl, hb2⟩
    have HB2 := Lib.hid (HB.out.trans (hb2.mono HB.out.size))
    clear hb2
    go_wp2_with fail
    go_ret2
    exact ⟨rfl, B0.out.trans (HB2.out.mono B0.out.size)⟩
end Go.Proofs.YtmnlkcclcnnhmaaGreatDoor
