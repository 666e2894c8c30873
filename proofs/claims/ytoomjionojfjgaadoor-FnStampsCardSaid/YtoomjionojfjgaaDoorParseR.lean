/- ParseStamp: the reference's walk. -/
import Derived.Test.YtoomjionojfjgaaDoorParseS
import Derived.Test.YtoomjionojfjgaaDoorQBox
namespace Go.Proofs.YtoomjionojfjgaaDoor
open Go.RowKit

def specL : List ByteArray → Option StampT
  | [z0, z1, _, z3, z4] => if z0.size < 2 ∨ z1.size < 4 then none else some ⟨numR (z0.extract 0 (z0.size - 1)), 100 * numR (z1.extract 0 (z1.size - 3)) + 10 * numR (z1.extract (z1.size - 2) (z1.size - 1)) + numR (z1.extract (z1.size - 1) z1.size), numR z3, numR z4⟩
  | _ => none
theorem specC_L (s : ByteArray) : specC s = specL (splitF s 32) := rfl
theorem specL_no {l : List ByteArray} (h : l.length ≠ 5) : specL l = none := by
  unfold specL
  split
  · exact absurd rfl h
  · rfl
set_option maxHeartbeats 4000000 in
set_option maxRecDepth 100000 in
theorem specParseStamp_any (s : ByteArray) (w : World) (hm : s.size ≤ 1048576) : Calls Tryd.prog 11 #[.string s] w fun e w' => e = .returned (.tuple #[(finC s (specC s)).1.val, .bool (finC s (specC s)).2]) ∧ Below w.heap.size w w' := by
  have BX := Lib.hid (RowIs.new w 25 stamp0.cells)
  have B0 := Lib.hid (below_new w (.cells stamp0.cells.toArray 25))
  have hg : w.heap.size < (w.alloc (.cells stamp0.cells.toArray 25)).heap.size := BX.out.lt
  have e0 : (w.alloc (.cells stamp0.cells.toArray 25)) = w.alloc (.cells #[.int .i64 0, .int .i64 0, .int .i64 0, .int .i64 0] 25) := rfl
  rw [e0] at BX B0 hg
  have hS := fun w => l1Split_any s 32 w hm
  obtain ⟨ps, hps⟩ : ∃ ps, ps = splitF s 32 := ⟨_, rfl⟩
  have hspec : specC s = specL ps := by rw [hps]; rfl
  rw [← hps] at hS
  have HPS := Lib.hid hps
  clear hps e0
  by_cases h5 : ps.length = 5
  rotate_left
  · have hfin : Hid (finC s (specC s) = (stamp0, false)) := Lib.hid (by rw [hspec, specL_no h5]; rfl)
    have hb5 : ((ps.length : Int) != 5) = true := by simp; omega
    have HS := Lib.hid hS
    clear hS hspec h5
    go_enter Tryd.func11, Tryd.ntmps11
    go_wp2_with fail
    generalize w.alloc (.cells #[.int .i64 0, .int .i64 0, .int .i64 0, .int .i64 0] 25) = w0 at *
    refine (HS.out _).mono ?_
    rintro e w1 ⟨ad, cp, rfl, _, hb⟩
    have HB1 := Lib.hid hb
    have hz := BX.out.below HB1.out
    have c0 := hz.cell (j := 0) rfl
    have c1 := hz.cell (j := 1) rfl
    have c2 := hz.cell (j := 2) rfl
    have c3 := hz.cell (j := 3) rfl
    have f0 := hz.free 0
    have f1 := hz.free 1
    have f2 := hz.free 2
    have f3 := hz.free 3
    have HZ := Lib.hid hz
    clear hz hb
    go_wp2_with fail
    have hz4 := stored4 HZ.out rfl (stamp0 : StampT)
    have hb4 := below4 (B0.out.trans (HB1.out.mono B0.out.size)) (Nat.le_refl _) (.int .i64 0) (.int .i64 0) (.int .i64 0) (.int .i64 0)
    clear c0 c1 c2 c3 f0 f1 f2 f3
    simp only [stamp0] at hz4
    generalize (((w1.setCell ⟨w.heap.size, 0, none⟩ (.int .i64 0)).setCell ⟨w.heap.size, 1, none⟩ (.int .i64 0)).setCell ⟨w.heap.size, 2, none⟩ (.int .i64 0)).setCell ⟨w.heap.size, 3, none⟩ (.int .i64 0) = w99 at *
    have d0 := hz4.cell (j := 0) rfl
    have d1 := hz4.cell (j := 1) rfl
    have d2 := hz4.cell (j := 2) rfl
    have d3 := hz4.cell (j := 3) rfl
    exact bodyPost_ret (v := .tuple #[(stamp0 : StampT).val, .bool false]) (by simp [results, Tryd.results11, go_sem, d0, d1, d2, d3, stamp0]) rfl ⟨by rw [hfin.out], hb4⟩
  obtain ⟨z0, z1, z2, z3, z4, rfl⟩ := cut5 h5
  simp only [specL] at hspec
  have y0 : z0.size ≤ 1048576 := by have := sz_split (z := z0) (s := s) (c := 32) (by rw [← HPS.out]; simp); omega
  have y1 : z1.size ≤ 1048576 := by have := sz_split (z := z1) (s := s) (c := 32) (by rw [← HPS.out]; simp); omega
  have y3 : z3.size ≤ 1048576 := by have := sz_split (z := z3) (s := s) (c := 32) (by rw [← HPS.out]; simp); omega
  have y4 : z4.size ≤ 1048576 := by have := sz_split (z := z4) (s := s) (c := 32) (by rw [← HPS.out]; simp); omega
  by_cases hshort : z0.size < 2 ∨ z1.size < 4
  · have hfin : Hid (finC s (specC s) = (stamp0, false)) := Lib.hid (by rw [hspec, if_pos hshort]; rfl)
    have HS := Lib.hid hS
    have hsh2 : z0.size < 2 ∨ (¬ z0.size < 2 ∧ z1.size < 4) := by omega
    clear hS hspec h5 hshort
    rcases hsh2 with hs0 | ⟨hs0, hs1⟩
    all_goals
      go_enter Tryd.func11, Tryd.ntmps11
      go_wp2_with fail
      generalize w.alloc (.cells #[.int .i64 0, .int .i64 0, .int .i64 0, .int .i64 0] 25) = w0 at *
      refine (HS.out _).mono ?_
      rintro e w1 ⟨ad, cp, rfl, hown, hb⟩
      obtain ⟨g, rfl, hgb, hgg⟩ := own_form hown (by simp)
      have k0 := hown.cellAt 0 (by simp)
      have k1 := hown.cellAt 1 (by simp)
      simp only [strs, List.map_cons, List.getElem?_cons_zero, List.getElem?_cons_succ] at k0 k1
      have HB1 := Lib.hid hb
      have hz := BX.out.below HB1.out
      have c0 := hz.cell (j := 0) rfl
      have c1 := hz.cell (j := 1) rfl
      have c2 := hz.cell (j := 2) rfl
      have c3 := hz.cell (j := 3) rfl
      have f0 := hz.free 0
      have f1 := hz.free 1
      have f2 := hz.free 2
      have f3 := hz.free 3
      have HZ := Lib.hid hz
      clear hz hb hown
      simp only [List.length_cons, List.length_nil]
      go_wp2_with fail
      have hz4 := stored4 HZ.out rfl (stamp0 : StampT)
      have hb4 := below4 (B0.out.trans (HB1.out.mono B0.out.size)) (Nat.le_refl _) (.int .i64 0) (.int .i64 0) (.int .i64 0) (.int .i64 0)
      clear c0 c1 c2 c3 f0 f1 f2 f3 k0 k1
      simp only [stamp0] at hz4
      generalize (((w1.setCell ⟨w.heap.size, 0, none⟩ (.int .i64 0)).setCell ⟨w.heap.size, 1, none⟩ (.int .i64 0)).setCell ⟨w.heap.size, 2, none⟩ (.int .i64 0)).setCell ⟨w.heap.size, 3, none⟩ (.int .i64 0) = w99 at *
      have d0 := hz4.cell (j := 0) rfl
      have d1 := hz4.cell (j := 1) rfl
      have d2 := hz4.cell (j := 2) rfl
      have d3 := hz4.cell (j := 3) rfl
      exact bodyPost_ret (v := .tuple #[(stamp0 : StampT).val, .bool false]) (by simp [results, Tryd.results11, go_sem, d0, d1, d2, d3, stamp0]) rfl ⟨by rw [hfin.out], hb4⟩
  rw [if_neg hshort] at hspec
  have s0 : 2 ≤ z0.size := by omega
  have s1 : 4 ≤ z1.size := by omega
  have HN := Lib.hid (fun s h w => l2Number_any s w h)
  have HS := Lib.hid hS
  clear hshort hS h5
  go_enter Tryd.func11, Tryd.ntmps11
  go_wp2_with fail
  generalize w.alloc (.cells #[.int .i64 0, .int .i64 0, .int .i64 0, .int .i64 0] 25) = w0 at *
  refine (HS.out _).mono ?_
  rintro e w1 ⟨ad, cp, rfl, hown, hb⟩
  obtain ⟨g, rfl, hgb, hgg⟩ := own_form hown (by simp)
  have k0 := hown.cellAt 0 (by simp)
  have k1 := hown.cellAt 1 (by simp)
  have k3 := hown.cellAt 3 (by simp)
  have k4 := hown.cellAt 4 (by simp)
  simp only [strs, List.map_cons, List.getElem?_cons_zero, List.getElem?_cons_succ] at k0 k1 k3 k4
  have HB1 := Lib.hid hb
  have hg1 := (hown.lt g rfl).2
  clear hb hown
  simp only [List.length_cons, List.length_nil]
  go_wp2_with fail
  have t1 : IntKind.i64.wrap ((z0.size : Int) - 1) = (z0.size : Int) - 1 := IntWalk.i64_in _ (by omega)
  have t2 : (0 : Int) ≤ (z0.size : Int) - 1 := by omega
  have t3 : (z0.size : Int) - 1 ≤ (z0.size : Int) := by omega
  have t4 : ((z0.size : Int) - 1).toNat = z0.size - 1 := by omega
  have t5 : 1 ≤ (z0.size : Int) := by omega
  have t6 : z0.size - 1 ≤ z0.size := by omega
  obtain ⟨W, hW0, hW1⟩ : ∃ W : Bool → World, W false = w1 ∧ W true = w1.alloc (.cells #[.int .i64 0, .int .i64 0, .int .i64 0, .int .i64 0] 25) := ⟨fun f => if f then w1.alloc (.cells #[.int .i64 0, .int .i64 0, .int .i64 0, .int .i64 0] 25) else w1, rfl, rfl⟩
  have HW : ∀ f (b o : Nat), b < w1.heap.size → (W f).cell? ⟨b, o, none⟩ = w1.cell? ⟨b, o, none⟩ := fun f b o h => by
    cases f
    · rw [hW0]
    · rw [hW1]; exact (below_new w1 _).cell (p := ⟨b, o, none⟩) h
  have m0 : ∀ f, (W f).cell? ⟨g, 0, none⟩ = some (.string z0) := fun f => (HW f _ _ hg1).trans k0
  have m3 : ∀ f, (W f).cell? ⟨g, 3, none⟩ = some (.string z3) := fun f => (HW f _ _ hg1).trans k3
  have m4 : ∀ f, (W f).cell? ⟨g, 4, none⟩ = some (.string z4) := fun f => (HW f _ _ hg1).trans k4
  have HW0 := Lib.hid hW0
  have HW1 := Lib.hid hW1
  have HQ : Hid (∀ (f : Bool) (n : Nat) (t : ByteArray), t.size ≤ 1048576 → Calls Tryd.prog 37 #[.string t] ((W f).drewN n) fun e w' => e = .returned (.int .i64 (numR t)) ∧ ∃ m, w' = (W f).drewN m) := Lib.hid (fun f n t ht => (HN.out t ht _).mono fun _ _ ⟨he, m, hm⟩ => ⟨he, n + m, by rw [hm, World.drewN_drewN]⟩)
  clear hW0 hW1 HW k0 k3 k4
  refine wp_region_box 20 19 W HW0.out (by omega) (by kernel_rfl) (by kernel_rfl) ?_
  simp only [List.take_succ_cons, List.take_zero, List.drop_succ_cons, List.drop_zero]
  repeat (refine wpBox_step (by decide) rfl (fun K hK => ?_); go_simp; first | (refine hK _ ?_; clear hK K) | (apply Exists.intro; refine ⟨⟨fun _ => ?_, fun _ => ?_⟩, hK _ ?_⟩; (first | exact HQ.out _ _ _ (by assumption) | exact HQ.out _ _ _ (by simp; omega)); (first | exact HQ.out _ _ _ (by assumption) | exact HQ.out _ _ _ (by simp; omega)); clear hK K))
  refine wpBox_new (v := .pointer (some ⟨w1.heap.size, 0, none⟩)) rfl rfl (fun n => ?_) ?_
  · rw [HW0.out, HW1.out]
    go_simp
    rfl
  refine wpBox_nil ?_
  intro m
  rw [HW1.out]
  have hx := RowIs.new w1 25 stamp0.cells
  have hx2 : RowIs ((w1.alloc (.cells #[.int .i64 0, .int .i64 0, .int .i64 0, .int .i64 0] 25)).drewN m) w1.heap.size 25 stamp0.cells := hx
  have HB2 : Hid (Below w0.heap.size w0 ((w1.alloc (.cells #[.int .i64 0, .int .i64 0, .int .i64 0, .int .i64 0] 25)).drewN m)) := Lib.hid ((HB1.out.alloc HB1.out.size _).trans ((Dr.of _ m).below _))
  have k1b : ((w1.alloc (.cells #[.int .i64 0, .int .i64 0, .int .i64 0, .int .i64 0] 25)).drewN m).cell? ⟨g, 1, none⟩ = some (.string z1) := (((below_new w1 _).trans ((Dr.of _ m).below _)).cell (p := ⟨g, 1, none⟩) hg1).trans k1
  clear k1 hx m0 m3 m4 t1 t2 t3 t4 t5 t6 HQ HW0 HW1
  generalize (w1.alloc (.cells #[.int .i64 0, .int .i64 0, .int .i64 0, .int .i64 0] 25)).drewN m = w2 at *
  have c0 := hx2.cell (j := 0) rfl
  have c1 := hx2.cell (j := 1) rfl
  have c2 := hx2.cell (j := 2) rfl
  have c3 := hx2.cell (j := 3) rfl
  have f0 := hx2.free 0
  have f1 := hx2.free 1
  have f2 := hx2.free 2
  have f3 := hx2.free 3
  obtain ⟨n0, hn0⟩ : ∃ n0, n0 = numR (z0.extract 0 (z0.size - 1)) := ⟨_, rfl⟩
  obtain ⟨n3, hn3⟩ : ∃ n3, n3 = numR z3 := ⟨_, rfl⟩
  obtain ⟨n4, hn4⟩ : ∃ n4, n4 = numR z4 := ⟨_, rfl⟩
  rw [← hn0, ← hn3, ← hn4] at hspec
  rw [← hn0, ← hn3, ← hn4]
  have HX2 := Lib.hid hx2
  have HN034 := Lib.hid (show numR (z0.extract 0 (z0.size - 1)) = n0 ∧ numR z3 = n3 ∧ numR z4 = n4 from ⟨hn0.symm, hn3.symm, hn4.symm⟩)
  have HSP := Lib.hid hspec
  clear hx2 hn0 hn3 hn4 hspec
  go_wp2_with fail
  have hz2 := BX.out.below HB2.out
  have hne : w.heap.size ≠ w1.heap.size := by omega
  have hs4 := stored4 HX2.out rfl (⟨n0, 0, n3, n4⟩ : StampT)
  have hz3 : RowIs ((((w2.setCell ⟨w1.heap.size, 0, none⟩ (.int .i64 n0)).setCell ⟨w1.heap.size, 1, none⟩ (.int .i64 0)).setCell ⟨w1.heap.size, 2, none⟩ (.int .i64 n3)).setCell ⟨w1.heap.size, 3, none⟩ (.int .i64 n4)) w.heap.size 25 stamp0.cells := (((hz2.far (p := ⟨w1.heap.size, 0, none⟩) hne _).far (p := ⟨w1.heap.size, 1, none⟩) hne _).far (p := ⟨w1.heap.size, 2, none⟩) hne _).far (p := ⟨w1.heap.size, 3, none⟩) hne _
  have hb3 := below4 (g := w1.heap.size) (B0.out.trans (HB2.out.mono B0.out.size)) (by have := B0.out.size; have := HB1.out.size; omega) (.int .i64 n0) (.int .i64 0) (.int .i64 n3) (.int .i64 n4)
  clear c0 c1 c2 c3 f0 f1 f2 f3 hz2 k1b
  simp only at hs4
  generalize (((w2.setCell ⟨w1.heap.size, 0, none⟩ (.int .i64 n0)).setCell ⟨w1.heap.size, 1, none⟩ (.int .i64 0)).setCell ⟨w1.heap.size, 2, none⟩ (.int .i64 n3)).setCell ⟨w1.heap.size, 3, none⟩ (.int .i64 n4) = w3 at *
  have HS3 := Lib.hid hs4
  have HZ3 := Lib.hid hz3
  have HB3 := Lib.hid hb3
  have hgx : w1.heap.size < w3.heap.size := hs4.lt
  clear hs4 hz3 hb3
  have bA := numR_bd (z1.extract 0 (z1.size - 3))
  have bB := numR_bd (z1.extract (z1.size - 2) (z1.size - 1))
  have bD := numR_bd (z1.extract (z1.size - 1) z1.size)
  have qA := fun w => HN.out (z1.extract 0 (z1.size - 3)) (by simp; omega) w
  have qB := fun w => HN.out (z1.extract (z1.size - 2) (z1.size - 1)) (by simp; omega) w
  have qD := fun w => HN.out (z1.extract (z1.size - 1) z1.size) (by simp; omega) w
  obtain ⟨a, ha⟩ : ∃ a, a = numR (z1.extract 0 (z1.size - 3)) := ⟨_, rfl⟩
  obtain ⟨b, hb'⟩ : ∃ b, b = numR (z1.extract (z1.size - 2) (z1.size - 1)) := ⟨_, rfl⟩
  obtain ⟨d, hd'⟩ : ∃ d, d = numR (z1.extract (z1.size - 1) z1.size) := ⟨_, rfl⟩
  have hsp2 : specC s = some ⟨n0, 100 * a + 10 * b + d, n3, n4⟩ := by rw [HSP.out, ha, hb', hd']
  have HSP2 := Lib.hid hsp2
  rw [← ha] at bA qA
  rw [← hb'] at bB qB
  rw [← hd'] at bD qD
  have QA := Lib.hid qA
  have QB := Lib.hid qB
  have QD := Lib.hid qD
  clear ha hb' hd' hsp2 qA qB qD
  have t1 : IntKind.i64.wrap ((z1.size : Int) - 3) = (z1.size : Int) - 3 := IntWalk.i64_in _ (by omega)
  have t2 : IntKind.i64.wrap ((z1.size : Int) - 2) = (z1.size : Int) - 2 := IntWalk.i64_in _ (by omega)
  have t3 : IntKind.i64.wrap ((z1.size : Int) - 1) = (z1.size : Int) - 1 := IntWalk.i64_in _ (by omega)
  have u1 : ((z1.size : Int) - 3).toNat = z1.size - 3 := by omega
  have u2 : ((z1.size : Int) - 2).toNat = z1.size - 2 := by omega
  have u3 : ((z1.size : Int) - 1).toNat = z1.size - 1 := by omega
  have v1 : (0 : Int) ≤ (z1.size : Int) - 3 := by omega
  have v2 : (0 : Int) ≤ (z1.size : Int) - 2 := by omega
  have v3 : (0 : Int) ≤ (z1.size : Int) - 1 := by omega
  have v4 : 3 ≤ (z1.size : Int) := by omega
  have v5 : 2 ≤ (z1.size : Int) := by omega
  have v6 : 1 ≤ (z1.size : Int) := by omega
  have r1 : z1.size - 3 ≤ z1.size := by omega
  have r2 : z1.size - 2 ≤ z1.size - 1 := by omega
  have r3 : z1.size - 1 ≤ z1.size := by omega
  have y1' : IntKind.i64.wrap (100 * a) = 100 * a := IntWalk.i64_in _ (by omega)
  have y2' : IntKind.i64.wrap (10 * b) = 10 * b := IntWalk.i64_in _ (by omega)
  have y3' : IntKind.i64.wrap (100 * a + 10 * b) = 100 * a + 10 * b := IntWalk.i64_in _ (by omega)
  have y4' : IntKind.i64.wrap (100 * a + 10 * b + d) = 100 * a + 10 * b + d := IntWalk.i64_in _ (by omega)
  refine wp_region_ext_tail 21 (by kernel_rfl) (by kernel_rfl) ?_
  simp only [List.take_succ_cons, List.take_zero, List.drop_succ_cons, List.drop_zero]
  repeat (go_big_quiet_step ((first | (go_at_call 37; first | (with_reducible exact ext_dr (QA.out _)) | (with_reducible exact ext_dr (QB.out _)) | (with_reducible exact ext_dr (QD.out _))))))
  refine wpQuiet_nil ?_
  rintro _ ⟨x, rfl⟩
  have hz5 := HZ3.out.below x.2
  have hs5 := HS3.out.below x.2
  have hb5 := HB3.out.trans (x.2.mono HB3.out.size)
  obtain ⟨w5, hw5⟩ : ∃ w5, w5 = x.1 := ⟨_, rfl⟩
  rw [← hw5] at hz5 hs5 hb5
  rw [← hw5]
  clear hw5
  have c1 := hs5.cell (j := 1) rfl
  have f1 := hs5.free 1
  have HZ5 := Lib.hid hz5
  have HS5 := Lib.hid hs5
  have HB5 := Lib.hid hb5
  clear hz5 hs5 hb5 t1 t2 t3 u1 u2 u3 v1 v2 v3 v4 v5 v6 r1 r2 r3 y1' y2' y3' y4'
  obtain ⟨fc, hfc⟩ : ∃ fc, fc = 100 * a + 10 * b + d := ⟨_, rfl⟩
  rw [← hfc] at HSP2
  rw [← hfc]
  have hI := fun w => l2Stamp_any ⟨n0, fc, n3, n4⟩ w
  have HBX : Hid (RowIs (w5.setCell ⟨w1.heap.size, 1, none⟩ (.int .i64 fc)) w1.heap.size 25 (⟨n0, fc, n3, n4⟩ : StampT).cells) := Lib.hid (HS5.out.set 1 (.int .i64 fc))
  have HZB : Hid (RowIs (w5.setCell ⟨w1.heap.size, 1, none⟩ (.int .i64 fc)) w.heap.size 25 stamp0.cells) := Lib.hid (HZ5.out.far (p := ⟨w1.heap.size, 1, none⟩) hne _)
  have HBB : Hid (Below w.heap.size w (w5.setCell ⟨w1.heap.size, 1, none⟩ (.int .i64 fc))) := Lib.hid (HB5.out.setCell (p := ⟨w1.heap.size, 1, none⟩) (by have := B0.out.size; have := HB1.out.size; show w.heap.size ≤ w1.heap.size; omega) _)
  have e0' := HBX.out.cell (j := 0) rfl
  have e1' := HBX.out.cell (j := 1) rfl
  have e2' := HBX.out.cell (j := 2) rfl
  have e3' := HBX.out.cell (j := 3) rfl
  clear hfc bA bB bD
  cases hst : stampOk ⟨n0, fc, n3, n4⟩
  · rw [hst] at hI
    have HI := Lib.hid hI
    have HF : Hid (finC s (specC s) = (stamp0, false)) := Lib.hid (by rw [HSP2.out, finC, if_neg (by rw [hst]; simp)])
    clear hI hst
    go_wp2_with fail
    generalize w5.setCell ⟨w1.heap.size, 1, none⟩ (.int .i64 fc) = wb at *
    refine (HI.out _).mono ?_
    rintro e w8 ⟨rfl, hb⟩
    have HZ8 := Lib.hid (HZB.out.below hb)
    have HX8 := Lib.hid (HBX.out.below hb)
    have HB8 := Lib.hid (HBB.out.trans (hb.mono HBB.out.size))
    clear hb e0' e1' e2' e3'
    have c0 := HZ8.out.cell (j := 0) rfl
    have c1 := HZ8.out.cell (j := 1) rfl
    have c2 := HZ8.out.cell (j := 2) rfl
    have c3 := HZ8.out.cell (j := 3) rfl
    have f0 := HZ8.out.free 0
    have f1 := HZ8.out.free 1
    have f2 := HZ8.out.free 2
    have f3 := HZ8.out.free 3
    have x0' := HX8.out.cell (j := 0) rfl
    have x1' := HX8.out.cell (j := 1) rfl
    have x2' := HX8.out.cell (j := 2) rfl
    have x3' := HX8.out.cell (j := 3) rfl
    go_wp2_with fail
    have hz4 := stored4 (HZ8.out) rfl (stamp0 : StampT)
    have hb4 := below4 (HB8.out) (Nat.le_refl _) (.int .i64 0) (.int .i64 0) (.int .i64 0) (.int .i64 0)
    clear c0 c1 c2 c3 f0 f1 f2 f3
    simp only [stamp0] at hz4
    generalize ((((w8).setCell ⟨w.heap.size, 0, none⟩ (.int .i64 0)).setCell ⟨w.heap.size, 1, none⟩ (.int .i64 0)).setCell ⟨w.heap.size, 2, none⟩ (.int .i64 0)).setCell ⟨w.heap.size, 3, none⟩ (.int .i64 0) = w99 at *
    have d0 := hz4.cell (j := 0) rfl
    have d1 := hz4.cell (j := 1) rfl
    have d2 := hz4.cell (j := 2) rfl
    have d3 := hz4.cell (j := 3) rfl
    exact bodyPost_ret (v := .tuple #[(stamp0 : StampT).val, .bool false]) (by simp [results, Tryd.results11, go_sem, d0, d1, d2, d3, stamp0]) rfl ⟨by rw [HF.out], hb4⟩
  · have hX := fun w => l2Text_any ⟨n0, fc, n3, n4⟩ hst w
    rw [hst] at hI
    have HI := Lib.hid hI
    have HX := Lib.hid hX
    by_cases hts : textF ⟨n0, fc, n3, n4⟩ = s
    · have HF : Hid (finC s (specC s) = (⟨n0, fc, n3, n4⟩, true)) := Lib.hid (by rw [HSP2.out, finC, if_pos ⟨hst, hts⟩])
      have hbq := str_beq hts
      clear hI hX hst hts
      generalize textF ⟨n0, fc, n3, n4⟩ = tx at *
      go_wp2_with fail
      generalize w5.setCell ⟨w1.heap.size, 1, none⟩ (.int .i64 fc) = wb at *
      refine (HI.out _).mono ?_
      rintro e w8 ⟨rfl, hb⟩
      have HZ8 := Lib.hid (HZB.out.below hb)
      have HX8 := Lib.hid (HBX.out.below hb)
      have HB8 := Lib.hid (HBB.out.trans (hb.mono HBB.out.size))
      clear hb e0' e1' e2' e3'
      have c0 := HZ8.out.cell (j := 0) rfl
      have c1 := HZ8.out.cell (j := 1) rfl
      have c2 := HZ8.out.cell (j := 2) rfl
      have c3 := HZ8.out.cell (j := 3) rfl
      have f0 := HZ8.out.free 0
      have f1 := HZ8.out.free 1
      have f2 := HZ8.out.free 2
      have f3 := HZ8.out.free 3
      have x0' := HX8.out.cell (j := 0) rfl
      have x1' := HX8.out.cell (j := 1) rfl
      have x2' := HX8.out.cell (j := 2) rfl
      have x3' := HX8.out.cell (j := 3) rfl
      go_wp2_with fail
      refine (HX.out _).mono ?_
      rintro e w10 ⟨rfl, hb⟩
      have HZ10 := Lib.hid (HZ8.out.below hb)
      have HX10 := Lib.hid (HX8.out.below hb)
      have HB10 := Lib.hid (HB8.out.trans (hb.mono HB8.out.size))
      clear hb c0 c1 c2 c3 f0 f1 f2 f3 x0' x1' x2' x3'
      have c0 := HZ10.out.cell (j := 0) rfl
      have c1 := HZ10.out.cell (j := 1) rfl
      have c2 := HZ10.out.cell (j := 2) rfl
      have c3 := HZ10.out.cell (j := 3) rfl
      have f0 := HZ10.out.free 0
      have f1 := HZ10.out.free 1
      have f2 := HZ10.out.free 2
      have f3 := HZ10.out.free 3
      have x0' := HX10.out.cell (j := 0) rfl
      have x1' := HX10.out.cell (j := 1) rfl
      have x2' := HX10.out.cell (j := 2) rfl
      have x3' := HX10.out.cell (j := 3) rfl
      go_wp2_with fail
      have hz4 := stored4 (HZ10.out) rfl (⟨n0, fc, n3, n4⟩ : StampT)
      have hb4 := below4 (HB10.out) (Nat.le_refl _) (.int .i64 n0) (.int .i64 fc) (.int .i64 n3) (.int .i64 n4)
      clear c0 c1 c2 c3 f0 f1 f2 f3
      generalize ((((w10).setCell ⟨w.heap.size, 0, none⟩ (.int .i64 n0)).setCell ⟨w.heap.size, 1, none⟩ (.int .i64 fc)).setCell ⟨w.heap.size, 2, none⟩ (.int .i64 n3)).setCell ⟨w.heap.size, 3, none⟩ (.int .i64 n4) = w99 at *
      have d0 := hz4.cell (j := 0) rfl
      have d1 := hz4.cell (j := 1) rfl
      have d2 := hz4.cell (j := 2) rfl
      have d3 := hz4.cell (j := 3) rfl
      exact bodyPost_ret (v := .tuple #[(⟨n0, fc, n3, n4⟩ : StampT).val, .bool true]) (by simp [results, Tryd.results11, go_sem, d0, d1, d2, d3]) rfl ⟨by rw [HF.out], hb4⟩
    · have HF : Hid (finC s (specC s) = (stamp0, false)) := Lib.hid (by rw [HSP2.out, finC, if_neg (fun h => hts h.2)])
      have hbq := str_bne hts
      clear hI hX hst hts
      generalize textF ⟨n0, fc, n3, n4⟩ = tx at *
      go_wp2_with fail
      generalize w5.setCell ⟨w1.heap.size, 1, none⟩ (.int .i64 fc) = wb at *
      refine (HI.out _).mono ?_
      rintro e w8 ⟨rfl, hb⟩
      have HZ8 := Lib.hid (HZB.out.below hb)
      have HX8 := Lib.hid (HBX.out.below hb)
      have HB8 := Lib.hid (HBB.out.trans (hb.mono HBB.out.size))
      clear hb e0' e1' e2' e3'
      have c0 := HZ8.out.cell (j := 0) rfl
      have c1 := HZ8.out.cell (j := 1) rfl
      have c2 := HZ8.out.cell (j := 2) rfl
      have c3 := HZ8.out.cell (j := 3) rfl
      have f0 := HZ8.out.free 0
      have f1 := HZ8.out.free 1
      have f2 := HZ8.out.free 2
      have f3 := HZ8.out.free 3
      have x0' := HX8.out.cell (j := 0) rfl
      have x1' := HX8.out.cell (j := 1) rfl
      have x2' := HX8.out.cell (j := 2) rfl
      have x3' := HX8.out.cell (j := 3) rfl
      go_wp2_with fail
      refine (HX.out _).mono ?_
      rintro e w10 ⟨rfl, hb⟩
      have HZ10 := Lib.hid (HZ8.out.below hb)
      have HX10 := Lib.hid (HX8.out.below hb)
      have HB10 := Lib.hid (HB8.out.trans (hb.mono HB8.out.size))
      clear hb c0 c1 c2 c3 f0 f1 f2 f3 x0' x1' x2' x3'
      have c0 := HZ10.out.cell (j := 0) rfl
      have c1 := HZ10.out.cell (j := 1) rfl
      have c2 := HZ10.out.cell (j := 2) rfl
      have c3 := HZ10.out.cell (j := 3) rfl
      have f0 := HZ10.out.free 0
      have f1 := HZ10.out.free 1
      have f2 := HZ10.out.free 2
      have f3 := HZ10.out.free 3
      have x0' := HX10.out.cell (j := 0) rfl
      have x1' := HX10.out.cell (j := 1) rfl
      have x2' := HX10.out.cell (j := 2) rfl
      have x3' := HX10.out.cell (j := 3) rfl
      go_wp2_with fail
      have hz4 := stored4 (HZ10.out) rfl (stamp0 : StampT)
      have hb4 := below4 (HB10.out) (Nat.le_refl _) (.int .i64 0) (.int .i64 0) (.int .i64 0) (.int .i64 0)
      clear c0 c1 c2 c3 f0 f1 f2 f3
      simp only [stamp0] at hz4
      generalize ((((w10).setCell ⟨w.heap.size, 0, none⟩ (.int .i64 0)).setCell ⟨w.heap.size, 1, none⟩ (.int .i64 0)).setCell ⟨w.heap.size, 2, none⟩ (.int .i64 0)).setCell ⟨w.heap.size, 3, none⟩ (.int .i64 0) = w99 at *
      have d0 := hz4.cell (j := 0) rfl
      have d1 := hz4.cell (j := 1) rfl
      have d2 := hz4.cell (j := 2) rfl
      have d3 := hz4.cell (j := 3) rfl
      exact bodyPost_ret (v := .tuple #[(stamp0 : StampT).val, .bool false]) (by simp [results, Tryd.results11, go_sem, d0, d1, d2, d3, stamp0]) rfl ⟨by rw [HF.out], hb4⟩
end Go.Proofs.YtoomjionojfjgaaDoor
