/- LeastOver: the program's function that goes on with a franking. -/
import Derived.Test.YtieopadbbciciaaLeastC
import Derived.Test.YtieopadbbciciaaQTail
import Derived.Shelf.Abstract
namespace Go.Proofs.Ytieopadbbciciaa
open Go.RowKit

theorem cloneI_any (va : Option Addr) (vc : Nat) (f : List Int) (B : Nat) (w : World) (hl : f.length ≤ 1048576) (h0 : 0 < f.length) (hr : w.ownsRow B 3 1 (.slice va f.length vc) f.length (ints f)) :
    Calls Try.prog 39 #[.slice va f.length vc] w fun e w' => ∃ ua uc, e = .returned (.slice ua f.length uc) ∧ w'.ownsRow w.heap.size 3 1 (.slice ua f.length uc) f.length (ints f) ∧ Below w.heap.size w w' := by
  obtain ⟨i0, hi, hz0, hz1, hz2⟩ := info_parts info_int
  obtain ⟨g, rfl, _, _⟩ := own_form hr h0
  have HO := Lib.hid (own_newI w w.heap.size (Nat.le_refl _))
  have HBA := Lib.hid (Go.Joins.below_alloc1 w (.cells #[] 3))
  have HN : Hid (∀ j u, (ints f)[j]? = some u → (w.alloc (.cells #[] 3)).cell? ((⟨g, 0, none⟩ : Addr).add j) = some u) := Lib.hid (fun j u hu => (own_below hr HBA.out).cells (g := g) rfl j u hu)
  have hsn : ∀ W a l c, (binOp .eql 24 (.slice (some a) l c) (.slice none 0 0)).run Try.prog W = .ok (.bool false) W := fun W a l c => Lib.run_eql_slice_some_nil W a l c Try.underlying24
  clear hr
  go_enter Try.func39, Try.ntmps39
  go_wp2_with (at_builtin; go_must (refine wpList_append_own _ rfl _ _ 24 rfl w.heap.size 3 i0 _ 1 8 Try.underlying24 hi hz0 hz1 hz2 rfl (by decide) _ _ _ rfl HO.out ⟨g, 0, none⟩ f.length vc (ints f) rfl (by simp [ints]) HN.out (by simp [ints, Value.oneCell']) (by unfold maxLen; omega) (by omega) (by simp) ?_))
  intro v' w1 hown hgrow _
  have hb := HBA.out.grown hgrow (by simp) (fun q hq => by simp [Value.ownBlock] at hq; omega)
  have hown : w1.ownsRow w.heap.size 3 1 v' f.length (ints f) := by simpa using hown
  obtain ⟨va, vc, rfl⟩ : ∃ va vc, v' = .slice va f.length vc := by
    rcases hown.2 with ⟨h1, h0⟩ | ⟨g, c, cur, h1, _⟩
    · exact ⟨none, 0, by rw [h1, h0]⟩
    · exact ⟨_, _, h1⟩
  have HO2 := Lib.hid hown
  have HB2 := Lib.hid hb
  clear hown hgrow hb
  go_wp2_with fail
  go_ret
  exact ⟨va, vc, rfl, HO2.out, HB2.out⟩
/-- where the program's variables lie -/
structure Caps where
  gr : Nat
  gl : Nat
  gb : Nat
  gm : Nat
  gz : Nat
  ge : Nat
abbrev Caps.ptrs (c : Caps) : Array Value := #[.pointer (some ⟨c.gr, 0, none⟩), .pointer (some ⟨c.gl, 0, none⟩), .pointer (some ⟨c.gb, 0, none⟩), .pointer (some ⟨c.gm, 0, none⟩), .pointer (some ⟨c.gz, 0, none⟩), .pointer (some ⟨c.ge, 0, none⟩)]
structure OInv (c : Caps) (N : Nat) (rate : Int) (m : Nat) (a : Option Addr) (cap : Nat) (zs : List StampT) (K : Nat → Prop) (st : Fk) (w : World) : Prop where
  r : RowIs w c.gr 3 [.int .i64 rate]
  m : RowIs w c.gm 3 [.int .i64 (m : Int)]
  z : RowIs w c.gz 27 [.slice a zs.length cap]
  e : RowIs w c.ge 56 [.func (.func 35) #[] c.ptrs]
  l : RowIs w c.gl 3 [.int .i64 st.2]
  low : c.gr < N ∧ c.gm < N ∧ c.gz < N ∧ c.ge < N ∧ c.gl < N ∧ c.gb < N
  ne : c.gl ≠ c.gr ∧ c.gl ≠ c.gm ∧ c.gl ≠ c.gz ∧ c.gl ≠ c.ge ∧ c.gl ≠ c.gb ∧ c.gb ≠ c.gr ∧ c.gb ≠ c.gm ∧ c.gb ≠ c.gz ∧ c.gb ≠ c.ge
  b : ∃ ua uc, RowIs w c.gb 24 [.slice ua st.1.length uc] ∧ w.ownsRow N 3 1 (.slice ua st.1.length uc) st.1.length (ints st.1) ∧ ∀ q, (Value.slice ua st.1.length uc).ownBlock = some q → ¬ K q
  zr : Reads w a (stamps zs)
  zl : ∀ q, a = some q → zs ≠ [] → q.block < N ∧ q.block ≠ c.gl ∧ q.block ≠ c.gb
theorem OInv.kept {c : Caps} {N : Nat} {rate : Int} {m : Nat} {a : Option Addr} {cap : Nat} {zs : List StampT} {K : Nat → Prop} {st : Fk} {w w' : World} (h : OInv c N rate m a cap zs K st w) {D : Nat → Prop} (hf : Fr D w w') (hD : ∀ k, D k → N ≤ k ∧ K k) : OInv c N rate m a cap zs K st w' := by
  have ne : ∀ k, k < N → ¬ D k := fun k hk e => by have := (hD k e).1; omega
  obtain ⟨l1, l2, l3, l4, l5, l6⟩ := h.low
  obtain ⟨ua, uc, b1, b2, b3⟩ := h.b
  refine ⟨hf.row h.r (ne _ l1), hf.row h.m (ne _ l2), hf.row h.z (ne _ l3), hf.row h.e (ne _ l4), hf.row h.l (ne _ l5), h.low, h.ne, ⟨ua, uc, hf.row b1 (ne _ l6), hf.own b2 (fun q hq e => b3 q hq (hD q e).2), b3⟩, ?_, h.zl⟩
  by_cases e : zs = []
  · subst e; exact .inl rfl
  · exact hf.reads h.zr (fun q hq e2 => by have := (h.zl q hq e).1; have := (hD _ e2).1; omega)
theorem OInv.below {c : Caps} {N : Nat} {rate : Int} {m : Nat} {a : Option Addr} {cap : Nat} {zs : List StampT} {K : Nat → Prop} {st : Fk} {w w' : World} (h : OInv c N rate m a cap zs K st w) (hb : Below w.heap.size w w') : OInv c N rate m a cap zs K st w' :=
  h.kept (Fr.of_below hb (fun _ => False)) (fun _ e => e.elim)
theorem OInv.weak {c : Caps} {N : Nat} {rate : Int} {m : Nat} {a : Option Addr} {cap : Nat} {zs : List StampT} {K K' : Nat → Prop} {st : Fk} {w : World} (h : OInv c N rate m a cap zs K st w) (hk : ∀ k, k < w.heap.size → K' k → K k) : OInv c N rate m a cap zs K' st w := by
  obtain ⟨ua, uc, b1, b2, b3⟩ := h.b
  exact ⟨h.r, h.m, h.z, h.e, h.l, h.low, h.ne, ⟨ua, uc, b1, b2, fun q hq e => b3 q hq (hk q (b2.lt q hq).2 e)⟩, h.zr, h.zl⟩
/-- the last stamp of a franking, or none -/
def lastI (f : List Int) (i : Nat) : Prop := (f = [] ∧ i = 0) ∨ ∃ g, f = g ++ [(i : Int)]
theorem eg35 : ∀ args w, (callFunc 35 args).run Try.prog w = .ok (.enter 35 args) w := enters_of Try.func35 (by kernel_rfl) rfl
theorem lastI_get {f : List Int} {i : Nat} (h : lastI f i) (h0 : 0 < f.length) : f[f.length - 1]'(by omega) = (i : Int) := by
  rcases h with ⟨rfl, _⟩ | ⟨g, rfl⟩
  · simp at h0
  · simp
/-- what is stored when a franking is the best so far -/
theorem OInv.put {c : Caps} {N : Nat} {rate : Int} {m : Nat} {a : Option Addr} {cap : Nat} {zs : List StampT} {K : Nat → Prop} {st : Fk} {w w2 : World} (h : OInv c N rate m a cap zs K st w) (hN : N ≤ w.heap.size) (hKw : ∀ k, K k → k < w.heap.size) (hb : Below w.heap.size w w2) {ua : Option Addr} {uc : Nat} {f : List Int} {o : Int}
    (ho : w2.ownsRow w.heap.size 3 1 (.slice ua f.length uc) f.length (ints f)) :
    OInv c N rate m a cap zs K (f, o) ((w2.setCell ⟨c.gb, 0, none⟩ (.slice ua f.length uc)).setCell ⟨c.gl, 0, none⟩ (.int .i64 o)) ∧ Fr (fun k => k = c.gl ∨ k = c.gb) w ((w2.setCell ⟨c.gb, 0, none⟩ (.slice ua f.length uc)).setCell ⟨c.gl, 0, none⟩ (.int .i64 o)) := by
  have h2 := h.below hb
  obtain ⟨l1, l2, l3, l4, l5, l6⟩ := h.low
  obtain ⟨n1, n2, n3, n4, n5, n6, n7, n8, n9⟩ := h.ne
  obtain ⟨xa, xc, b1, b2, b3⟩ := h2.b
  have hf : Fr (fun k => k = c.gl ∨ k = c.gb) w2 ((w2.setCell ⟨c.gb, 0, none⟩ (.slice ua f.length uc)).setCell ⟨c.gl, 0, none⟩ (.int .i64 o)) :=
    ((Fr.of_grown (grownBy_setCell w2 _ _)).mono (fun k _ h => .inr (Option.some.inj h).symm)).trans ((Fr.of_grown (grownBy_setCell _ _ _)).mono (fun k _ h => .inl (Option.some.inj h).symm))
  have hno : ∀ k, k ≠ c.gl → k ≠ c.gb → ¬ (k = c.gl ∨ k = c.gb) := fun k h1 h2 h3 => by rcases h3 with h3 | h3; exact h1 h3; exact h2 h3
  have ho2 : ((w2.setCell ⟨c.gb, 0, none⟩ (.slice ua f.length uc)).setCell ⟨c.gl, 0, none⟩ (.int .i64 o)).ownsRow w.heap.size 3 1 (.slice ua f.length uc) f.length (ints f) := hf.own ho (fun q hq e => by
    have := (ho.lt q hq).1
    rcases e with e | e <;> omega)
  refine ⟨⟨hf.row h2.r (hno _ n1.symm n6.symm), hf.row h2.m (hno _ n2.symm n7.symm), hf.row h2.z (hno _ n3.symm n8.symm), hf.row h2.e (hno _ n4.symm n9.symm), ?_, h.low, h.ne, ⟨ua, uc, ?_, World.ownsRow.mono ho2 hN, fun q hq e => by have := (ho.lt q hq).1; have := hKw q e; omega⟩, ?_, h.zl⟩, (Fr.of_below hb _).trans hf⟩
  · exact (h2.l.far (p := ⟨c.gb, 0, none⟩) n5 _).set 0 _
  · exact (b1.set 0 _).far (p := ⟨c.gl, 0, none⟩) n5.symm _
  · by_cases e : zs = []
    · subst e; exact .inl rfl
    · exact hf.reads h2.zr (fun q hq e2 => by
        have := h.zl q hq e
        rcases e2 with e2 | e2
        · exact this.2.1 e2
        · exact this.2.2 e2)
set_option maxRecDepth 100000 in
set_option maxHeartbeats 4000000 in
theorem extend_leaf (c : Caps) (N : Nat) (rate : Int) (_ : 1 ≤ rate) (_ : rate ≤ 2000) (m : Nat) (a : Option Addr) (cap : Nat) (zs : List StampT) (val : Int) (va : Option Addr) (vc : Nat) (f : List Int) (st : Fk) (K : Nat → Prop) (w : World)
    (hv : rate ≤ val) (hv1 : val ≤ rate + 10000) (h0 : 0 < f.length) (hl6 : st.1.length ≤ 6) (hf6 : f.length ≤ 6) (ho : -1 ≤ st.2 ∧ st.2 ≤ 100000) (hN : N ≤ w.heap.size) (hI : OInv c N rate m a cap zs K st w) (hf : w.ownsRow N 3 1 (.slice va f.length vc) f.length (ints f)) (hKw : ∀ k, K k → k < w.heap.size) :
    Calls Try.prog 35 (#[.slice va f.length vc, .int .i64 val] ++ c.ptrs) w fun e w' => e = .returned (.tuple #[]) ∧ OInv c N rate m a cap zs K (updF st (f, val - rate)) w' ∧ Fr (fun k => k = c.gl ∨ k = c.gb) w w' := by
  obtain ⟨us, uo⟩ := st
  simp only at hl6 ho
  obtain ⟨ua, uc, hb1, hb2, hb3⟩ := hI.b
  simp only at hb1 hb2 hb3
  have HI := Lib.hid hI
  have HF := Lib.hid hf
  have HU := Lib.hid hb2
  have HKW := Lib.hid hKw
  have HNN := Lib.hid hN
  have HBR := Lib.hid hb1
  have cr := hI.r.cell (j := 0) rfl
  have cl := hI.l.cell (j := 0) rfl
  have cb := hb1.cell (j := 0) rfl
  simp only at cl
  have hd0 : decide (rate ≤ val) = true := by simpa using hv
  have hw0 : IntKind.i64.wrap (val - rate) = val - rate := small_in2 (by omega) (by omega)
  have HCL := Lib.hid (fun (wx : World) (h : Below w.heap.size w wx) => cloneI_any va vc f N wx (by omega) h0 (own_below HF.out h))
  have HPUT := Lib.hid (fun (w2 : World) (xa : Option Addr) (xc : Nat) (hb : Below w.heap.size w w2) (hx : w2.ownsRow w.heap.size 3 1 (.slice xa f.length xc) f.length (ints f)) => HI.out.put HNN.out HKW.out hb (o := (val - rate)) hx)
  have HLR := Lib.hid (fun (w2 : World) (hb : Below w.heap.size w w2) => HI.out.l.below hb)
  have HNE := Lib.hid (show c.gl ≠ c.gb ∧ c.gb ≠ c.gl from ⟨hI.ne.2.2.2.2.1, hI.ne.2.2.2.2.1.symm⟩)
  clear hb1 hb2 hb3 hf hKw hN
  have xl : ∀ x : Ext w, x.1.cell? ⟨c.gl, 0, none⟩ = some (.int .i64 uo) := fun x => (x.cell hI.l.lt).trans cl
  have xb : ∀ x : Ext w, x.1.cell? ⟨c.gb, 0, none⟩ = some (.slice ua us.length uc) := fun x => (x.cell HBR.out.lt).trans cb
  clear hI
  by_cases hneg : uo < 0
  · have hd1 : decide (uo < 0) = true := by simpa using hneg
    have HT := Lib.hid (show updF (us, uo) (f, (val - rate)) = (f, (val - rate)) by simp [updF, betF, hneg])
    rw [HT.out]
    go_enter Try.func35, Try.ntmps35
    go_wp2_with fail
    refine wp_region_ext_tail 14 (by kernel_rfl) (by kernel_rfl) ?_
    simp only [List.take_succ_cons, List.take_zero, List.drop_succ_cons, List.drop_zero]
    repeat (go_big_quiet_step (fail))
    refine wpQuiet_nil ?_
    rintro _ ⟨x, rfl⟩
    have HB5 := Lib.hid x.2
    obtain ⟨w5, hw5⟩ : ∃ w5, w5 = x.1 := ⟨_, rfl⟩
    rw [← hw5] at HB5 ⊢
    clear hw5 xl xb
    go_wp2_with fail
    refine (HCL.out _ HB5.out).mono ?_
    rintro e w6 ⟨xa, xc, rfl, hox, hbx⟩
    have HB6 := Lib.hid (HB5.out.trans (hbx.mono HB5.out.size))
    have HX6 := Lib.hid (World.ownsRow.mono hox HB5.out.size)
    have HR6 := Lib.hid (HBR.out.below HB6.out)
    have HL6 := Lib.hid (HLR.out _ HB6.out)
    have a1 := HR6.out.cell (j := 0) rfl
    have a2 := HL6.out.cell (j := 0) rfl
    have f1 := HR6.out.free 0
    have f2 := HL6.out.free 0
    have g1 := HNE.out.1
    have g2 := HNE.out.2
    try simp only at a2
    clear hox hbx
    go_wp2_with fail
    obtain ⟨r1, r2⟩ := HPUT.out w6 xa xc HB6.out HX6.out
    (try simp only [Exit.inBlock, Exit.then])
    exact bodyPost_ret (results_none rfl _ _ _) rfl ⟨rfl, r1, r2⟩
  · have hd1 : decide (uo < 0) = false := by simpa using hneg
    have HC1 := Lib.hid (fun w => compare_any (val - rate) uo w)
    have HC2 := Lib.hid (fun w => compare_any (f.length : Int) (us.length : Int) w)
    have HCS := Lib.hid (fun (x : Ext w) => compareS_any va ua vc uc f us x.1 (by omega) (by omega) ((own_reads HF.out).below x.2) ((own_reads HU.out).below x.2))
    have hob := or_bet (f := f) (o := (val - rate)) (st := (us, uo)) (by simp only; omega)
    simp only at hob
    obtain ⟨c1, h1⟩ : ∃ c, c = cmpI (val - rate) uo := ⟨_, rfl⟩
    obtain ⟨c2, h2⟩ : ∃ c, c = cmpI (f.length : Int) (us.length : Int) := ⟨_, rfl⟩
    obtain ⟨c3, h3⟩ : ∃ c, c = cmpL f us := ⟨_, rfl⟩
    rw [← h1] at HC1 hob
    rw [← h2] at HC2 hob
    rw [← h3] at HCS hob
    have HOR := Lib.hid (fun (w5 : World) => or_any w5.heap.size c1 c2 c3 (w5.alloc (.cells #[.int .i64 c1, .int .i64 c2, .int .i64 c3] 3)) (RowIs.new w5 3 [.int .i64 c1, .int .i64 c2, .int .i64 c3]))
    obtain ⟨oc, hoc⟩ : ∃ o, o = orI c1 c2 c3 := ⟨_, rfl⟩
    rw [← hoc] at HOR hob
    clear h1 h2 h3 hoc
    cases hbt : betF (f, (val - rate)) (us, uo)
    · rw [hbt] at hob
      have HT := Lib.hid (show updF (us, uo) (f, (val - rate)) = (us, uo) by simp [updF, hbt])
      rw [HT.out]
      clear hbt
      go_enter Try.func35, Try.ntmps35
      go_wp2_with fail
      refine wp_region_ext_tail 14 (by kernel_rfl) (by kernel_rfl) ?_
      simp only [List.take_succ_cons, List.take_zero, List.drop_succ_cons, List.drop_zero]
      repeat (go_big_quiet_step ((first | (go_at_call 37; first | (with_reducible exact ext_same (HC1.out _)) | (with_reducible exact ext_same (HC2.out _))) | (go_at_call 38; exact ext_same (HCS.out _)))))
      refine wpQuiet_nil ?_
      rintro _ ⟨x, rfl⟩
      have HB5 := Lib.hid x.2
      obtain ⟨w5, hw5⟩ : ∃ w5, w5 = x.1 := ⟨_, rfl⟩
      rw [← hw5] at HB5 ⊢
      clear hw5 xl xb
      go_wp2_with fail
      refine (HOR.out _).mono ?_
      rintro e _ ⟨rfl, rfl⟩
      have HB6 := Lib.hid (HB5.out.trans ((Go.Joins.below_alloc1 w5 (.cells #[.int .i64 c1, .int .i64 c2, .int .i64 c3] 3)).mono HB5.out.size))
      go_wp2_with fail
      (try simp only [Exit.inBlock, Exit.then])
      exact bodyPost_ret (results_none rfl _ _ _) rfl ⟨rfl, HI.out.below HB6.out, Fr.of_below HB6.out _⟩
    · rw [hbt] at hob
      have HT := Lib.hid (show updF (us, uo) (f, (val - rate)) = (f, (val - rate)) by simp [updF, hbt])
      rw [HT.out]
      clear hbt
      go_enter Try.func35, Try.ntmps35
      go_wp2_with fail
      refine wp_region_ext_tail 14 (by kernel_rfl) (by kernel_rfl) ?_
      simp only [List.take_succ_cons, List.take_zero, List.drop_succ_cons, List.drop_zero]
      repeat (go_big_quiet_step ((first | (go_at_call 37; first | (with_reducible exact ext_same (HC1.out _)) | (with_reducible exact ext_same (HC2.out _))) | (go_at_call 38; exact ext_same (HCS.out _)))))
      refine wpQuiet_nil ?_
      rintro _ ⟨x, rfl⟩
      have HB4 := Lib.hid x.2
      obtain ⟨w4, hw5⟩ : ∃ w5, w5 = x.1 := ⟨_, rfl⟩
      rw [← hw5] at HB4 ⊢
      clear hw5 xl xb
      go_wp2_with fail
      refine (HOR.out _).mono ?_
      rintro e _ ⟨rfl, rfl⟩
      have HB5 := Lib.hid (HB4.out.trans ((Go.Joins.below_alloc1 w4 (.cells #[.int .i64 c1, .int .i64 c2, .int .i64 c3] 3)).mono HB4.out.size))
      go_wp2_with fail
      refine (HCL.out _ HB5.out).mono ?_
      rintro e w6 ⟨xa, xc, rfl, hox, hbx⟩
      have HB6 := Lib.hid (HB5.out.trans (hbx.mono HB5.out.size))
      have HX6 := Lib.hid (World.ownsRow.mono hox HB5.out.size)
      have HR6 := Lib.hid (HBR.out.below HB6.out)
      have HL6 := Lib.hid (HLR.out _ HB6.out)
      have a1 := HR6.out.cell (j := 0) rfl
      have a2 := HL6.out.cell (j := 0) rfl
      have f1 := HR6.out.free 0
      have f2 := HL6.out.free 0
      have g1 := HNE.out.1
      have g2 := HNE.out.2
      try simp only at a2
      clear hox hbx
      go_wp2_with fail
      obtain ⟨r1, r2⟩ := HPUT.out w6 xa xc HB6.out HX6.out
      (try simp only [Exit.inBlock, Exit.then])
      exact bodyPost_ret (results_none rfl _ _ _) rfl ⟨rfl, r1, r2⟩
set_option maxRecDepth 100000 in
set_option maxHeartbeats 8000000 in
theorem extend_any (c : Caps) (N : Nat) (rate : Int) (hr0 : 1 ≤ rate) (hr2 : rate ≤ 2000) (m : Nat) (hm6 : m ≤ 6) (a : Option Addr) (cap : Nat) (zs : List StampT) (hz : stampsOk zs = true) : ∀ (n : Nat) (val : Int) (va : Option Addr) (vc : Nat) (f : List Int) (i : Nat) (st : Fk) (K : Nat → Prop) (w : World),
    f.length + n = m → 0 ≤ val → val ≤ rate + 10000 → (f = [] → val = 0) → i ≤ zs.length → lastI f i → st.1.length ≤ 6 → -1 ≤ st.2 ∧ st.2 ≤ 100000 → N ≤ w.heap.size → OInv c N rate m a cap zs K st w → w.ownsRow N 3 1 (.slice va f.length vc) f.length (ints f) → (∀ q, (Value.slice va f.length vc).ownBlock = some q → K q) → (∀ k, K k → k < w.heap.size) →
    Calls Try.prog 35 (#[.slice va f.length vc, .int .i64 val] ++ c.ptrs) w fun e w' => e = .returned (.tuple #[]) ∧ OInv c N rate m a cap zs K (foldB (lv zs false rate n f i val) st) w' ∧ w'.ownsRow N 3 1 (.slice va f.length vc) f.length (ints f) ∧ Fr (fun k => k = c.gl ∨ k = c.gb ∨ (Value.slice va f.length vc).ownBlock = some k) w w' := by
  intro n
  induction n with
  | zero =>
    intro val va vc f i st K w hfm hv0 hv1 hfe hi hla hl6 ho hN hI hf hK hKw
    by_cases hle : rate ≤ val
    · have h0 : 0 < f.length := by
        rcases Nat.eq_zero_or_pos f.length with h | h
        · have := hfe (List.eq_nil_of_length_eq_zero h); omega
        · exact h
      have HL : foldB (lv zs false rate 0 f i val) st = updF st (f, val - rate) := by rw [lv_leaf hle]; rfl
      refine (extend_leaf c N rate hr0 hr2 m a cap zs val va vc f st K w hle hv1 h0 hl6 (by omega) ho hN hI hf hKw).mono ?_
      rintro e w' ⟨he, hi2, hf2⟩
      rw [HL]
      refine ⟨he, hi2, hf2.own hf (fun q hq e => ?_), hf2.mono (fun k _ h => by rcases h with h | h; exact .inl h; exact .inr (.inl h))⟩
      have := (hf.lt q hq).1
      have := hI.low
      rcases e with e | e <;> omega
    · have HL : foldB (lv zs false rate 0 f i val) st = st := by rw [lv_zero hle]; rfl
      rw [HL]
      have HI := Lib.hid hI
      have HF := Lib.hid hf
      have cr := hI.r.cell (j := 0) rfl
      have cm := hI.m.cell (j := 0) rfl
      have hd0 : decide (rate ≤ val) = false := by simpa using hle
      have hmf : f.length = m := by omega
      have hd1 : ((f.length : Int) == (m : Int)) = true := by simp; omega
      clear hI hf hK hKw hfm hmf
      go_enter Try.func35, Try.ntmps35
      go_wp2_with fail
      (try simp only [Exit.inBlock, Exit.then])
      exact bodyPost_ret (results_none rfl _ _ _) rfl ⟨rfl, HI.out, HF.out, Fr.refl _ _⟩
  | succ n ih =>
    intro val va vc f i st K w hfm hv0 hv1 hfe hi hla hl6 ho hN hI hf hK hKw
    by_cases hle : rate ≤ val
    · have h0 : 0 < f.length := by
        rcases Nat.eq_zero_or_pos f.length with h | h
        · have := hfe (List.eq_nil_of_length_eq_zero h); omega
        · exact h
      have HL : foldB (lv zs false rate (n + 1) f i val) st = updF st (f, val - rate) := by rw [lv_leaf hle]; rfl
      refine (extend_leaf c N rate hr0 hr2 m a cap zs val va vc f st K w hle hv1 h0 hl6 (by omega) ho hN hI hf hKw).mono ?_
      rintro e w' ⟨he, hi2, hf2⟩
      rw [HL]
      refine ⟨he, hi2, hf2.own hf (fun q hq e => ?_), hf2.mono (fun k _ h => by rcases h with h | h; exact .inl h; exact .inr (.inl h))⟩
      have := (hf.lt q hq).1
      have := hI.low
      rcases e with e | e <;> omega
    · obtain ⟨ti, qi, qz0, qz1, qz2⟩ := info_parts info_int
      have HIH := Lib.hid ih
      have HI := Lib.hid hI
      have HF := Lib.hid hf
      have HKK := Lib.hid hK
      have HKW := Lib.hid hKw
      have HNN := Lib.hid hN
      have HFM := Lib.hid hfm
      have HALL := Lib.hid (lvTo_all (zs := zs) (z := false) (n := n) (f := f) (from0 := i) hle)
      have cr := hI.r.cell (j := 0) rfl
      have cm := hI.m.cell (j := 0) rfl
      have cz := hI.z.cell (j := 0) rfl
      have hd0 : decide (rate ≤ val) = false := by simpa using hle
      have hd1 : ((f.length : Int) == (m : Int)) = false := by simp; omega
      have hfl : f.length ≤ 5 := by omega
      have hzl := stampsOk_len hz
      have HSTART : Hid (f = [] ∧ i = 0 ∨ ∃ g, va = some ⟨g, 0, none⟩ ∧ 0 < f.length ∧ w.cell? ⟨g, f.length - 1, none⟩ = some (.int .i64 (i : Int))) := Lib.hid (by
        rcases Nat.eq_zero_or_pos f.length with h | h
        · rcases hla with h2 | ⟨g, rfl⟩
          · exact .inl h2
          · simp at h
        · obtain ⟨g, rfl, _, _⟩ := own_form hf h
          rcases own_reads hf with h0 | ⟨b, off, e, _, hc⟩
          · exfalso; simp [ints] at h0; rw [h0] at h; simp at h
          · injection e with e
            injection e with e1 e2
            subst e1; subst e2
            have hc2 := hc (f.length - 1) _ (ints_get (k := f.length - 1) (by omega))
            rw [lastI_get hla h, Nat.zero_add] at hc2
            exact .inr ⟨g, rfl, h, hc2⟩)
      clear ih hI hf hK hKw hN hfm hla hfe
      rcases HSTART.out with ⟨hf0, hi0⟩ | ⟨g0, hg0, hpos, hcl⟩
      · have hd2 : decide (0 < f.length) = false := by rw [hf0]; rfl
        have HI0 := Lib.hid hi0
        clear hf0 hi0
        go_enter Try.func35, Try.ntmps35
        go_wp2_with fail
        go_loopw [13] (fun jv wr => ∃ (j : Nat) (st2 : Fk), i ≤ j ∧ j ≤ zs.length ∧ jv = .int .i64 (j : Int) ∧ Hid (foldB (lvTo zs false rate n f i val (j - i)) st = st2) ∧ Hid (st2.1.length ≤ 6 ∧ -1 ≤ st2.2 ∧ st2.2 ≤ 100000) ∧ Hid (OInv c N rate m a cap zs K st2 wr) ∧ Hid (wr.ownsRow N 3 1 (.slice va f.length vc) f.length (ints f)) ∧ Hid (Fr (fun k => k = c.gl ∨ k = c.gb ∨ (Value.slice va f.length vc).ownBlock = some k) w wr)) (fun jv _ => zs.length - (intOf jv).toNat)
        case atStart => exact ⟨i, st, Nat.le_refl _, hi, by rw [HI0.out]; rfl, Lib.hid (by rw [Nat.sub_self, lvTo_zero]; rfl), Lib.hid ⟨hl6, ho⟩, HI, HF, Lib.hid (Fr.refl _ _)⟩
        case round =>
          obtain ⟨j, st2, hij, hjl, rfl, hrun, hbd, HIr, HOr, HFr⟩ := hrel
          have cz2 := HIr.out.z.cell (j := 0) rfl
          by_cases hlt : j < zs.length
          · have hd3 : decide (j < zs.length) = true := by simpa using hlt
            have hsuc := lvTo_succ zs false rate n f i val (j - i)
            rw [show j - i + 1 = j + 1 - i by omega, show i + (j - i) = j by omega, if_neg (by simp)] at hsuc
            obtain ⟨fc, hfc⟩ : ∃ fc, fc = faceAt zs j := ⟨_, rfl⟩
            have hfc0 : 0 ≤ fc ∧ fc ≤ 9999 := by rw [hfc]; exact ⟨faceAt_nonneg hz j, faceAt_le hz j⟩
            rw [← hfc] at hsuc
            have hzr := HIr.out.zr
            have hzlow := HIr.out.zl
            rcases hzr with h0 | ⟨b, off, rfl, hb, hc⟩
            · have := stamps_length zs; rw [h0] at this; simp at this; omega
            have hcf := hc _ _ (stamps_get hlt).2.1
            simp only [← Nat.add_assoc] at hcf
            rw [show zs[j].face = fc by rw [hfc, faceAt, stamp_getD hlt]] at hcf
            have hbN : b < N := (hzlow _ rfl (fun e => by rw [e] at hlt; simp at hlt)).1
            have ce2 := HIr.out.e.cell (j := 0) rfl
            obtain ⟨l1, l2, l3, l4, l5, l6⟩ := HIr.out.low
            obtain ⟨st3, hn⟩ : ∃ r, r = foldB (lv zs false rate n (f ++ [(j : Int)]) j (val + fc)) st2 := ⟨_, rfl⟩
            have HS := Lib.hid (show foldB (lvTo zs false rate n f i val (j + 1 - i)) st = st3 by rw [hsuc, foldB_app, hrun.out, hn])
            have hnb : st3.1.length ≤ 6 ∧ -1 ≤ st3.2 ∧ st3.2 ≤ 100000 := by
              have k1 := foldB_len (m := 6) (L := lv zs false rate n (f ++ [(j : Int)]) j (val + fc)) (st := st2) hbd.out.1 (fun x hx => by have h1 := lv_len _ _ _ _ _ _ _ x hx; rw [show (f ++ [(j : Int)]).length = f.length + 1 by simp] at h1; have := HFM.out; omega)
              have k2 := foldB_bd (L := lv zs false rate n (f ++ [(j : Int)]) j (val + fc)) (st := st2) hbd.out.2 (lv_bd hz _ _ _ _ _ _ (by omega))
              rw [← hn] at k1 k2
              exact ⟨k1, k2⟩
            have HNB := Lib.hid hnb
            have hNr : N ≤ wr.heap.size := Nat.le_trans HNN.out HFr.out.size
            have HNR := Lib.hid hNr
            have HCALL : Hid (∀ (wC w3 : World) (g3 c3 : Nat), Below wr.heap.size wr wC → w3.ownsRow N 3 1 (.slice (some ⟨g3, 0, none⟩) (f.length + 1) c3) (f.length + 1) (ints f ++ [.int .i64 (j : Int)]) → wC.grownBy w3 (Value.slice va f.length vc).ownBlock → KeptApp wC w3 (.slice va f.length vc) (.slice (some ⟨g3, 0, none⟩) (f.length + 1) c3) f.length 1 →
                Calls Try.prog 35 (#[.slice (some ⟨g3, 0, none⟩) (f.length + 1) c3, .int .i64 (val + fc)] ++ c.ptrs) w3 fun e w' => e = .returned (.tuple #[]) ∧ OInv c N rate m (some ⟨b, off, none⟩) cap zs K st3 w' ∧ w'.ownsRow N 3 1 (.slice va f.length vc) f.length (ints f) ∧ Fr (fun k => k = c.gl ∨ k = c.gb ∨ (Value.slice va f.length vc).ownBlock = some k) wr w') := Lib.hid (by
              intro wC w3 g3 c3 hbC hown3 hgrow3 hkeep3
              have hl1 : (f ++ [(j : Int)]).length = f.length + 1 := by simp
              have hg3 : (Value.slice va f.length vc).ownBlock = some g3 ∨ wC.heap.size ≤ g3 := by
                rcases hkeep3 with ⟨gg, cap2, e1, e2⟩ | ⟨h1, _⟩
                · injection e2 with e2; injection e2 with e2; injection e2 with e2
                  left; rw [e1, e2]; rfl
                · exact .inr (h1 g3 rfl)
              have hszC := hbC.size
              have hOC := own_below HOr.out hbC
              have hI1 : OInv c N rate m (some ⟨b, off, none⟩) cap zs (fun k => K k ∨ g3 = k) st2 wr := HIr.out.weak (fun k hk e => by
                rcases e with e | e
                · exact e
                · rcases hg3 with h | h
                  · exact HKK.out k (by rw [h, e])
                  · omega)
              have hI2 := (hI1.below hbC).kept (Fr.of_grown hgrow3) (fun k e => ⟨(hOC.lt k e).1, .inl (HKK.out k e)⟩)
              have hsz3 := hgrow3.size
              have := HIH.out (val + fc) (some ⟨g3, 0, none⟩) c3 (f ++ [(j : Int)]) j st2 (fun k => K k ∨ g3 = k) w3 (by rw [hl1]; have := HFM.out; omega) (by omega) (by omega) (fun e => by simp at e) (by omega) (.inr ⟨f, rfl⟩) hbd.out.1 hbd.out.2 (by omega) hI2
                (by rw [hl1]; simpa [ints] using hown3) (fun q hq => .inr (by simpa [Value.ownBlock] using hq)) (fun k e => by
                  rcases e with e | e
                  · have := HKW.out k e; have := HFr.out.size; omega
                  · have := (hown3.lt g3 rfl).2; omega)
              rw [hl1, ← hn] at this
              refine this.mono ?_
              rintro e w4 ⟨he, hi4, ho4, hf4⟩
              have ho4' : w4.ownsRow N 3 1 (.slice (some ⟨g3, 0, none⟩) (f.length + 1) c3) (f.length + 1) (ints f ++ [.int .i64 (j : Int)]) := by simpa [ints] using ho4
              refine ⟨he, hi4.weak (fun k _ e => .inl e), kept_own hOC hkeep3 (by simp [ints]) hf4 ho4' (fun q hq hq2 e => ?_), ((Fr.of_below hbC _).trans ((Fr.of_grown hgrow3).mono (fun k _ h => .inr (.inr h)))).next hf4 (fun k hk e => ?_)⟩
              · have := (hOC.lt q hq).1
                rcases e with e | e | e
                · omega
                · omega
                · exact hq2 e
              · rcases e with e | e | e
                · exact .inl e
                · exact .inr (.inl e)
                · have e2 : g3 = k := by simpa [Value.ownBlock] using e
                  rcases hg3 with h | h
                  · exact .inr (.inr (by rw [h, e2]))
                  · omega)
            have HK3 : Hid (∀ wC w3, Below wr.heap.size wr wC → wC.grownBy w3 (Value.slice va f.length vc).ownBlock → w3.cell? ⟨c.ge, 0, none⟩ = some (.func (.func 35) #[] c.ptrs) ∧ w3.cell? ⟨c.gz, 0, none⟩ = some (.slice (some ⟨b, off, none⟩) zs.length cap) ∧ w3.cell? ⟨b, off + j * 4 + 1, none⟩ = some (.int .i64 fc)) := Lib.hid (fun wC w3 hbC hg => by
              have hOC := own_below HOr.out hbC
              have hsz := hbC.size
              have far : ∀ q o v, q < N → wr.cell? ⟨q, o, none⟩ = some v → w3.cell? ⟨q, o, none⟩ = some v := fun q o v hq hv =>
                (hg.cell_far ⟨q, o, none⟩ (by show q < wC.heap.size; omega) (fun e => by have := (hOC.lt q e.symm).1; omega)).trans (cell_later hbC hv)
              exact ⟨far _ _ _ l4 ce2, far _ _ _ l3 cz2, far _ _ _ hbN hcf⟩)
            have HK4 : Hid (∀ w4, Fr (fun k => k = c.gl ∨ k = c.gb ∨ (Value.slice va f.length vc).ownBlock = some k) wr w4 → w4.cell? ⟨c.ge, 0, none⟩ = some (.func (.func 35) #[] c.ptrs) ∧ w4.cell? ⟨c.gz, 0, none⟩ = some (.slice (some ⟨b, off, none⟩) zs.length cap) ∧ w4.cell? ⟨b, off + j * 4 + 1, none⟩ = some (.int .i64 fc)) := Lib.hid (fun w4 hf => by
              obtain ⟨n1, n2, n3, n4, n5, n6, n7, n8, n9⟩ := HIr.out.ne
              have hzb := hzlow _ rfl (fun e => by rw [e] at hlt; simp at hlt)
              have far : ∀ q o v, q < N → q ≠ c.gl → q ≠ c.gb → wr.cell? ⟨q, o, none⟩ = some v → w4.cell? ⟨q, o, none⟩ = some v := fun q o v hq h1 h2 hv =>
                (World.cell?_of_block (a := ⟨q, o, none⟩) (hf.block q (by omega) (fun e => by
                  rcases e with e | e | e
                  · exact h1 e
                  · exact h2 e
                  · have := (HOr.out.lt q e).1; omega))).trans hv
              exact ⟨far _ _ _ l4 n4.symm n9.symm ce2, far _ _ _ l3 n3.symm n8.symm cz2, far _ _ _ hbN hzb.2.1 hzb.2.2 hcf⟩)
            have i0 : (0 : Int) ≤ (j : Int) := by omega
            have i1 : (j : Int) < (zs.length : Int) := by omega
            have hw9 : IntKind.i64.wrap (val + fc) = val + fc := small_in2 (by omega) (by omega)
            have QC : Hid (f.length + 1 ≤ maxLen) := Lib.hid (by unfold maxLen; omega)
            have QD : Hid ((f.length + 1) * 8 ≤ 140737488355328) := Lib.hid (by omega)
            have QE : Hid (∀ u ∈ [Value.int .i64 (j : Int)], u.oneCell' = true) := Lib.hid (by simp [Value.oneCell'])
            have QF : Hid (0 < f.length + 1) := Lib.hid (by omega)
            have HB9 := Lib.hid ((Go.Joins.below_alloc1 wr (.cells #[.int .i64 (j : Int)] 3)).drew)
            have HB8 := Lib.hid (Go.Joins.below_alloc1 wr (.cells #[.int .i64 (j : Int)] 3))
            have HP9 : Hid (RowIs (wr.alloc (.cells #[.int .i64 (j : Int)] 3)).drew wr.heap.size 3 [.int .i64 (j : Int)]) := Lib.hid ((RowIs.new wr 3 [.int .i64 (j : Int)]).dr (Dr.of _ 1))
            clear hsuc hn hnb hc hfc hb hzlow hrun l1 l2 l3 l4 l5 l6 hbN
            go_wp2_with fail
            go_region_held3 (fun w' => w'.cell? ⟨c.ge, 0, none⟩ = some (.func (.func 35) #[] c.ptrs) ∧ w'.cell? ⟨c.gz, 0, none⟩ = some (.slice (some ⟨b, off, none⟩) zs.length cap) ∧ w'.cell? ⟨b, off + j * 4 + 1, none⟩ = some (.int .i64 fc))
              (first | exact ⟨ce2, cz2, hcf⟩ | exact ⟨cell_later HB9.out ce2, cell_later HB9.out cz2, cell_later HB9.out hcf⟩ | exact HK4.out _ hf4 | exact HK3.out _ _ hbC hgrow3 | go_keep)
              (first
                | (refine step_append_keep _ (by rfl) _ _ _ (by rfl) N 3 ti (.int .i64 0) 1 8 Try.underlying24 qi qz0 qz1 qz2 rfl (by decide) _ _ _ (by rfl) (own_below HOr.out HB9.out) ⟨wr.heap.size, 0, none⟩ 1 1 [.int .i64 (j : Int)] (by rfl) (by rfl) (World.news_of_block (cs := #[.int .i64 (j : Int)]) (t := 3) (fr := (0, 0)) HP9.out) QE.out QC.out QD.out (Nat.le_trans HNR.out HB9.out.size) (by decide) ?_; intro v3 w3 hown3 hgrow3 hkeep3; have hbC := HB9.out; obtain ⟨g3, c3, rfl⟩ := Go.Joins.ownsRow_form hown3 QF.out)
                | (go_at_call 35; refine (HCALL.out _ _ g3 c3 hbC hown3 hgrow3 hkeep3).mono ?_; rintro e w4 ⟨rfl, hi4, ho4, hf4⟩))
            have HI4 := Lib.hid hi4
            have HO4 := Lib.hid ho4
            have HF4 := Lib.hid (HFr.out.trans hf4)
            clear hown3 hgrow3 hkeep3 hbC hi4 ho4 hf4 cz2 ce2 hcf
            go_wp2_with fail
            go_roundw
            case rel => exact ⟨j + 1, st3, by omega, by omega, by go_num, HS, HNB, HI4, HO4, HF4⟩
            case measure => simp [intOf]; omega
          · obtain rfl : j = zs.length := by omega
            have HFIN := Lib.hid (show foldB (lv zs false rate (n + 1) f i val) st = st2 by rw [← HALL.out]; exact hrun.out)
            clear hrun
            go_wp2_with fail
            (try simp only [Exit.inBlock, Exit.then])
            refine bodyPost_end (results_none rfl _ _ _) rfl ⟨rfl, ?_, HOr.out, HFr.out⟩
            rw [HFIN.out]
            exact HIr.out
      · subst hg0
        have hd2 : decide (0 < f.length) = true := by simpa using hpos
        have i8 : (0 : Int) ≤ (f.length : Int) - 1 := by omega
        have i9 : f.length - 1 < f.length := by omega
        go_enter Try.func35, Try.ntmps35
        go_wp2_with fail
        go_loopw [13] (fun jv wr => ∃ (j : Nat) (st2 : Fk), i ≤ j ∧ j ≤ zs.length ∧ jv = .int .i64 (j : Int) ∧ Hid (foldB (lvTo zs false rate n f i val (j - i)) st = st2) ∧ Hid (st2.1.length ≤ 6 ∧ -1 ≤ st2.2 ∧ st2.2 ≤ 100000) ∧ Hid (OInv c N rate m a cap zs K st2 wr) ∧ Hid (wr.ownsRow N 3 1 (.slice (some ⟨g0, 0, none⟩) f.length vc) f.length (ints f)) ∧ Hid (Fr (fun k => k = c.gl ∨ k = c.gb ∨ (Value.slice (some ⟨g0, 0, none⟩) f.length vc).ownBlock = some k) w wr)) (fun jv _ => zs.length - (intOf jv).toNat)
        case atStart => exact ⟨i, st, Nat.le_refl _, hi, rfl, Lib.hid (by rw [Nat.sub_self, lvTo_zero]; rfl), Lib.hid ⟨hl6, ho⟩, HI, HF, Lib.hid (Fr.refl _ _)⟩
        case round =>
          obtain ⟨j, st2, hij, hjl, rfl, hrun, hbd, HIr, HOr, HFr⟩ := hrel
          have cz2 := HIr.out.z.cell (j := 0) rfl
          by_cases hlt : j < zs.length
          · have hd3 : decide (j < zs.length) = true := by simpa using hlt
            have hsuc := lvTo_succ zs false rate n f i val (j - i)
            rw [show j - i + 1 = j + 1 - i by omega, show i + (j - i) = j by omega, if_neg (by simp)] at hsuc
            obtain ⟨fc, hfc⟩ : ∃ fc, fc = faceAt zs j := ⟨_, rfl⟩
            have hfc0 : 0 ≤ fc ∧ fc ≤ 9999 := by rw [hfc]; exact ⟨faceAt_nonneg hz j, faceAt_le hz j⟩
            rw [← hfc] at hsuc
            have hzr := HIr.out.zr
            have hzlow := HIr.out.zl
            rcases hzr with h0 | ⟨b, off, rfl, hb, hc⟩
            · have := stamps_length zs; rw [h0] at this; simp at this; omega
            have hcf := hc _ _ (stamps_get hlt).2.1
            simp only [← Nat.add_assoc] at hcf
            rw [show zs[j].face = fc by rw [hfc, faceAt, stamp_getD hlt]] at hcf
            have hbN : b < N := (hzlow _ rfl (fun e => by rw [e] at hlt; simp at hlt)).1
            have ce2 := HIr.out.e.cell (j := 0) rfl
            obtain ⟨l1, l2, l3, l4, l5, l6⟩ := HIr.out.low
            obtain ⟨st3, hn⟩ : ∃ r, r = foldB (lv zs false rate n (f ++ [(j : Int)]) j (val + fc)) st2 := ⟨_, rfl⟩
            have HS := Lib.hid (show foldB (lvTo zs false rate n f i val (j + 1 - i)) st = st3 by rw [hsuc, foldB_app, hrun.out, hn])
            have hnb : st3.1.length ≤ 6 ∧ -1 ≤ st3.2 ∧ st3.2 ≤ 100000 := by
              have k1 := foldB_len (m := 6) (L := lv zs false rate n (f ++ [(j : Int)]) j (val + fc)) (st := st2) hbd.out.1 (fun x hx => by have h1 := lv_len _ _ _ _ _ _ _ x hx; rw [show (f ++ [(j : Int)]).length = f.length + 1 by simp] at h1; have := HFM.out; omega)
              have k2 := foldB_bd (L := lv zs false rate n (f ++ [(j : Int)]) j (val + fc)) (st := st2) hbd.out.2 (lv_bd hz _ _ _ _ _ _ (by omega))
              rw [← hn] at k1 k2
              exact ⟨k1, k2⟩
            have HNB := Lib.hid hnb
            have hNr : N ≤ wr.heap.size := Nat.le_trans HNN.out HFr.out.size
            have HNR := Lib.hid hNr
            have HCALL : Hid (∀ (wC w3 : World) (g3 c3 : Nat), Below wr.heap.size wr wC → w3.ownsRow N 3 1 (.slice (some ⟨g3, 0, none⟩) (f.length + 1) c3) (f.length + 1) (ints f ++ [.int .i64 (j : Int)]) → wC.grownBy w3 (Value.slice (some ⟨g0, 0, none⟩) f.length vc).ownBlock → KeptApp wC w3 (.slice (some ⟨g0, 0, none⟩) f.length vc) (.slice (some ⟨g3, 0, none⟩) (f.length + 1) c3) f.length 1 →
                Calls Try.prog 35 (#[.slice (some ⟨g3, 0, none⟩) (f.length + 1) c3, .int .i64 (val + fc)] ++ c.ptrs) w3 fun e w' => e = .returned (.tuple #[]) ∧ OInv c N rate m (some ⟨b, off, none⟩) cap zs K st3 w' ∧ w'.ownsRow N 3 1 (.slice (some ⟨g0, 0, none⟩) f.length vc) f.length (ints f) ∧ Fr (fun k => k = c.gl ∨ k = c.gb ∨ (Value.slice (some ⟨g0, 0, none⟩) f.length vc).ownBlock = some k) wr w') := Lib.hid (by
              intro wC w3 g3 c3 hbC hown3 hgrow3 hkeep3
              have hl1 : (f ++ [(j : Int)]).length = f.length + 1 := by simp
              have hg3 : (Value.slice (some ⟨g0, 0, none⟩) f.length vc).ownBlock = some g3 ∨ wC.heap.size ≤ g3 := by
                rcases hkeep3 with ⟨gg, cap2, e1, e2⟩ | ⟨h1, _⟩
                · injection e2 with e2; injection e2 with e2; injection e2 with e2
                  left; rw [e1, e2]; rfl
                · exact .inr (h1 g3 rfl)
              have hszC := hbC.size
              have hOC := own_below HOr.out hbC
              have hI1 : OInv c N rate m (some ⟨b, off, none⟩) cap zs (fun k => K k ∨ g3 = k) st2 wr := HIr.out.weak (fun k hk e => by
                rcases e with e | e
                · exact e
                · rcases hg3 with h | h
                  · exact HKK.out k (by rw [h, e])
                  · omega)
              have hI2 := (hI1.below hbC).kept (Fr.of_grown hgrow3) (fun k e => ⟨(hOC.lt k e).1, .inl (HKK.out k e)⟩)
              have hsz3 := hgrow3.size
              have := HIH.out (val + fc) (some ⟨g3, 0, none⟩) c3 (f ++ [(j : Int)]) j st2 (fun k => K k ∨ g3 = k) w3 (by rw [hl1]; have := HFM.out; omega) (by omega) (by omega) (fun e => by simp at e) (by omega) (.inr ⟨f, rfl⟩) hbd.out.1 hbd.out.2 (by omega) hI2
                (by rw [hl1]; simpa [ints] using hown3) (fun q hq => .inr (by simpa [Value.ownBlock] using hq)) (fun k e => by
                  rcases e with e | e
                  · have := HKW.out k e; have := HFr.out.size; omega
                  · have := (hown3.lt g3 rfl).2; omega)
              rw [hl1, ← hn] at this
              refine this.mono ?_
              rintro e w4 ⟨he, hi4, ho4, hf4⟩
              have ho4' : w4.ownsRow N 3 1 (.slice (some ⟨g3, 0, none⟩) (f.length + 1) c3) (f.length + 1) (ints f ++ [.int .i64 (j : Int)]) := by simpa [ints] using ho4
              refine ⟨he, hi4.weak (fun k _ e => .inl e), kept_own hOC hkeep3 (by simp [ints]) hf4 ho4' (fun q hq hq2 e => ?_), ((Fr.of_below hbC _).trans ((Fr.of_grown hgrow3).mono (fun k _ h => .inr (.inr h)))).next hf4 (fun k hk e => ?_)⟩
              · have := (hOC.lt q hq).1
                rcases e with e | e | e
                · omega
                · omega
                · exact hq2 e
              · rcases e with e | e | e
                · exact .inl e
                · exact .inr (.inl e)
                · have e2 : g3 = k := by simpa [Value.ownBlock] using e
                  rcases hg3 with h | h
                  · exact .inr (.inr (by rw [h, e2]))
                  · omega)
            have HK3 : Hid (∀ wC w3, Below wr.heap.size wr wC → wC.grownBy w3 (Value.slice (some ⟨g0, 0, none⟩) f.length vc).ownBlock → w3.cell? ⟨c.ge, 0, none⟩ = some (.func (.func 35) #[] c.ptrs) ∧ w3.cell? ⟨c.gz, 0, none⟩ = some (.slice (some ⟨b, off, none⟩) zs.length cap) ∧ w3.cell? ⟨b, off + j * 4 + 1, none⟩ = some (.int .i64 fc)) := Lib.hid (fun wC w3 hbC hg => by
              have hOC := own_below HOr.out hbC
              have hsz := hbC.size
              have far : ∀ q o v, q < N → wr.cell? ⟨q, o, none⟩ = some v → w3.cell? ⟨q, o, none⟩ = some v := fun q o v hq hv =>
                (hg.cell_far ⟨q, o, none⟩ (by show q < wC.heap.size; omega) (fun e => by have := (hOC.lt q e.symm).1; omega)).trans (cell_later hbC hv)
              exact ⟨far _ _ _ l4 ce2, far _ _ _ l3 cz2, far _ _ _ hbN hcf⟩)
            have HK4 : Hid (∀ w4, Fr (fun k => k = c.gl ∨ k = c.gb ∨ (Value.slice (some ⟨g0, 0, none⟩) f.length vc).ownBlock = some k) wr w4 → w4.cell? ⟨c.ge, 0, none⟩ = some (.func (.func 35) #[] c.ptrs) ∧ w4.cell? ⟨c.gz, 0, none⟩ = some (.slice (some ⟨b, off, none⟩) zs.length cap) ∧ w4.cell? ⟨b, off + j * 4 + 1, none⟩ = some (.int .i64 fc)) := Lib.hid (fun w4 hf => by
              obtain ⟨n1, n2, n3, n4, n5, n6, n7, n8, n9⟩ := HIr.out.ne
              have hzb := hzlow _ rfl (fun e => by rw [e] at hlt; simp at hlt)
              have far : ∀ q o v, q < N → q ≠ c.gl → q ≠ c.gb → wr.cell? ⟨q, o, none⟩ = some v → w4.cell? ⟨q, o, none⟩ = some v := fun q o v hq h1 h2 hv =>
                (World.cell?_of_block (a := ⟨q, o, none⟩) (hf.block q (by omega) (fun e => by
                  rcases e with e | e | e
                  · exact h1 e
                  · exact h2 e
                  · have := (HOr.out.lt q e).1; omega))).trans hv
              exact ⟨far _ _ _ l4 n4.symm n9.symm ce2, far _ _ _ l3 n3.symm n8.symm cz2, far _ _ _ hbN hzb.2.1 hzb.2.2 hcf⟩)
            have i0 : (0 : Int) ≤ (j : Int) := by omega
            have i1 : (j : Int) < (zs.length : Int) := by omega
            have hw9 : IntKind.i64.wrap (val + fc) = val + fc := small_in2 (by omega) (by omega)
            have QC : Hid (f.length + 1 ≤ maxLen) := Lib.hid (by unfold maxLen; omega)
            have QD : Hid ((f.length + 1) * 8 ≤ 140737488355328) := Lib.hid (by omega)
            have QE : Hid (∀ u ∈ [Value.int .i64 (j : Int)], u.oneCell' = true) := Lib.hid (by simp [Value.oneCell'])
            have QF : Hid (0 < f.length + 1) := Lib.hid (by omega)
            have HB9 := Lib.hid ((Go.Joins.below_alloc1 wr (.cells #[.int .i64 (j : Int)] 3)).drew)
            have HB8 := Lib.hid (Go.Joins.below_alloc1 wr (.cells #[.int .i64 (j : Int)] 3))
            have HP9 : Hid (RowIs (wr.alloc (.cells #[.int .i64 (j : Int)] 3)).drew wr.heap.size 3 [.int .i64 (j : Int)]) := Lib.hid ((RowIs.new wr 3 [.int .i64 (j : Int)]).dr (Dr.of _ 1))
            clear hsuc hn hnb hc hfc hb hzlow hrun l1 l2 l3 l4 l5 l6 hbN
            go_wp2_with fail
            go_region_held3 (fun w' => w'.cell? ⟨c.ge, 0, none⟩ = some (.func (.func 35) #[] c.ptrs) ∧ w'.cell? ⟨c.gz, 0, none⟩ = some (.slice (some ⟨b, off, none⟩) zs.length cap) ∧ w'.cell? ⟨b, off + j * 4 + 1, none⟩ = some (.int .i64 fc))
              (first | exact ⟨ce2, cz2, hcf⟩ | exact ⟨cell_later HB9.out ce2, cell_later HB9.out cz2, cell_later HB9.out hcf⟩ | exact HK4.out _ hf4 | exact HK3.out _ _ hbC hgrow3 | go_keep)
              (first
                | (refine step_append_keep _ (by rfl) _ _ _ (by rfl) N 3 ti (.int .i64 0) 1 8 Try.underlying24 qi qz0 qz1 qz2 rfl (by decide) _ _ _ (by rfl) (own_below HOr.out HB9.out) ⟨wr.heap.size, 0, none⟩ 1 1 [.int .i64 (j : Int)] (by rfl) (by rfl) (World.news_of_block (cs := #[.int .i64 (j : Int)]) (t := 3) (fr := (0, 0)) HP9.out) QE.out QC.out QD.out (Nat.le_trans HNR.out HB9.out.size) (by decide) ?_; intro v3 w3 hown3 hgrow3 hkeep3; have hbC := HB9.out; obtain ⟨g3, c3, rfl⟩ := Go.Joins.ownsRow_form hown3 QF.out)
                | (go_at_call 35; refine (HCALL.out _ _ g3 c3 hbC hown3 hgrow3 hkeep3).mono ?_; rintro e w4 ⟨rfl, hi4, ho4, hf4⟩))
            have HI4 := Lib.hid hi4
            have HO4 := Lib.hid ho4
            have HF4 := Lib.hid (HFr.out.trans hf4)
            clear hown3 hgrow3 hkeep3 hbC hi4 ho4 hf4 cz2 ce2 hcf
            go_wp2_with fail
            go_roundw
            case rel => exact ⟨j + 1, st3, by omega, by omega, by go_num, HS, HNB, HI4, HO4, HF4⟩
            case measure => simp [intOf]; omega
          · obtain rfl : j = zs.length := by omega
            have HFIN := Lib.hid (show foldB (lv zs false rate (n + 1) f i val) st = st2 by rw [← HALL.out]; exact hrun.out)
            clear hrun
            go_wp2_with fail
            (try simp only [Exit.inBlock, Exit.then])
            refine bodyPost_end (results_none rfl _ _ _) rfl ⟨rfl, ?_, HOr.out, HFr.out⟩
            rw [HFIN.out]
            exact HIr.out
end Go.Proofs.Ytieopadbbciciaa
