/- FewestStamps: the reference's walk. -/
import Derived.Test.YtieopadbbciciaaNeedS
import Derived.Test.YtieopadbbciciaaAppW
namespace Go.Proofs.Ytieopadbbciciaa
open Go.RowKit

theorem stamps_drop (zs : List StampT) (i : Nat) : stamps (zs.drop i) = (stamps zs).drop (i * 4) := by
  induction i generalizing zs with
  | zero => simp
  | succ i ih =>
    cases zs with
    | nil => simp [stamps]
    | cons z zs =>
      rw [List.drop_succ_cons, ih]
      rw [show stamps (z :: zs) = z.cells ++ stamps zs from rfl, show (i + 1) * 4 = 4 + i * 4 by omega, List.drop_append]
      simp [StampT.cells]
theorem reads_drop {w : World} {b off : Nat} {zs : List StampT} (hb : b < w.heap.size) (h : ∀ j u, (stamps zs)[j]? = some u → w.cell? ⟨b, off + j, none⟩ = some u) (i : Nat) : Reads w (some ⟨b, off + i * 4, none⟩) (stamps (zs.drop i)) := by
  refine .inr ⟨b, off + i * 4, rfl, hb, fun j u hu => ?_⟩
  rw [stamps_drop, List.getElem?_drop] at hu
  rw [Nat.add_assoc]
  exact h _ _ hu
def fewOk (zs : List StampT) (q yr : Int) : Bool := stampsOk zs && inB q 1 2000 && inB yr 1840 2100 && decide (fewF yr zs q.toNat ≤ 40)
def fewR (zs : List StampT) (q yr : Int) : List Int := if fewOk zs q yr = true then frankF yr zs 0 q.toNat else []
theorem fewR_no {zs : List StampT} {q yr : Int} (h : fewOk zs q yr = false) : fewR zs q yr = [] := by simp [fewR, h]
theorem frankF_len (yr : Int) : ∀ (zs : List StampT) (i v : Nat), (frankF yr zs i v).length ≤ v
  | [], _, _ => by simp [frankF]
  | z :: zs, i, v => by
    by_cases h : v = 0
    · subst h; simp [frankF_zero]
    · cases ht : takeB yr (z :: zs) v
      · rw [frankF_no h ht]; exact frankF_len yr zs (i + 1) v
      · have he : elig yr v z = true := by simp only [takeB, Bool.and_eq_true] at ht; exact ht.1
        have hb := elig_iff.1 he
        have := frankF_len yr (z :: zs) i (v - z.face.toNat)
        rw [frankF_yes h ht, List.length_cons]
        omega
termination_by zs _ v => (zs.length, v)
decreasing_by
  all_goals simp_wf
  all_goals omega
theorem fewR_len (zs : List StampT) (q yr : Int) : (fewR zs q yr).length ≤ 2000 := by
  unfold fewR
  split
  · rename_i h
    simp only [fewOk, Bool.and_eq_true] at h
    have h1 := inB_true.1 h.1.1.2
    have := frankF_len yr zs 0 q.toNat
    omega
  · simp
theorem rest_take {yr : Int} {zs rest : List StampT} {i v : Nat} {z : StampT} (hd : zs.drop i = z :: rest) (hv : fewF yr (zs.drop i) v = fewF yr zs v) (h40 : fewF yr zs v ≤ 40) (h0 : v ≠ 0) (he : elig yr v z = true) :
    ((needF yr (zs.drop i) (v - z.face.toNat) : Int) == (needF yr zs v : Int) - 1) = takeB yr (zs.drop i) v := by
  have h1 := fewF_pos (yr := yr) (zs := zs) h0
  rw [needF_fewF, needF_fewF, hd] at *
  rw [takeB, he, Bool.true_and, hv, Bool.eq_iff_iff, beq_iff_eq, decide_eq_true_eq]
  omega
theorem take_elig {yr : Int} {z : StampT} {zs : List StampT} {v : Nat} (he : elig yr v z = false) : takeB yr (z :: zs) v = false := by rw [takeB, he]; rfl
set_option maxHeartbeats 1000000 in
theorem l2Rest_any (a : Option Addr) (cap : Nat) (zs : List StampT) (n : Int) (m : Nat) (yr : Int) (w : World) (hm : zs.length ≤ 1048576) (hm2 : m ≤ 2000) (hz : ∀ z ∈ zs, z.face ≤ 9999) (hr : Reads w a (stamps zs)) :
    Calls Try.prog 46 #[.slice a zs.length cap, .int .i64 n, .int .i64 (m : Int), .int .i64 yr] w fun e w' => e = .returned (.bool ((needF yr zs m : Int) == n)) ∧ Below w.heap.size w w' := by
  have H := Lib.hid (l2Needed_any a cap zs m yr w hm hm2 hz hr)
  have hlt : (m : Int) < (m : Int) + 1 := by omega
  clear hr hz
  go_enter Try.func46, Try.ntmps46
  go_wp2_with fail
  refine H.out.mono ?_
  rintro e w1 ⟨g, rfl, _, hrow, hb⟩
  have c0 := hrow.cell (fullL_get (Nat.le_refl m))
  have HB := Lib.hid hb
  clear hrow hb
  go_wp2_with fail
  go_ret
  exact ⟨rfl, HB.out⟩
set_option maxRecDepth 100000 in
set_option maxHeartbeats 8000000 in
theorem specFew_any (a : Option Addr) (cap : Nat) (zs : List StampT) (q yr : Int) (w : World) (hm : zs.length ≤ maxLen) (hcap : zs.length ≤ cap) (hr : Reads w a (stamps zs)) :
    Calls Try.prog 17 #[.slice a zs.length cap, .int .i64 q, .int .i64 yr] w fun e w' => ∃ ad cp, e = .returned (.tuple #[.slice ad (fewR zs q yr).length cp, .bool (fewOk zs q yr)]) ∧
      w'.ownsRow w.heap.size 3 1 (.slice ad (fewR zs q yr).length cp) (fewR zs q yr).length (ints (fewR zs q yr)) ∧ Below w.heap.size w w' := by
  obtain ⟨i0, hi, hz0, hz1, hz2⟩ := info_parts info_int
  have hA := fun w hr => l2Stamps_any a cap zs w hm hr
  have hown0 := Lib.hid (RowIs.owns (base := w.heap.size) (RowIs.made' w 3 ([] : List Value)) (n := 0) (sz := 1) rfl (by unfold maxLen; omega) (Nat.le_refl _))
  have hb0 := Lib.hid (Go.Joins.below_alloc1 w (.cells ([] : List Value).toArray 3))
  have HR := Lib.hid hr
  clear hr
  by_cases hask : stampsOk zs = true ∧ inB q 1 2000 = true ∧ inB yr 1840 2100 = true
  rotate_left
  · have hok : fewOk zs q yr = false := by
      unfold fewOk
      cases h1 : stampsOk zs <;> cases h2 : inB q 1 2000 <;> cases h3 : inB yr 1840 2100 <;> simp [h1, h2, h3] at hask ⊢
    rw [fewR_no hok, hok]
    have hask2 : stampsOk zs = false ∨ (stampsOk zs = true ∧ inB q 1 2000 = false) ∨ (stampsOk zs = true ∧ inB q 1 2000 = true ∧ inB yr 1840 2100 = false) := by
      cases h1 : stampsOk zs <;> cases h2 : inB q 1 2000 <;> cases h3 : inB yr 1840 2100 <;> simp [h1, h2, h3] at hask ⊢
    have HI := Lib.hid (fun w => l1In_any q 1 2000 w)
    have HY := Lib.hid (fun w => l2Year_any yr w)
    clear hok hask
    unfold maxLen at hm
    rcases hask2 with h1 | ⟨h1, h2⟩ | ⟨h1, h2, h3⟩
    all_goals rw [h1] at hA
    all_goals try rw [h2] at HI
    all_goals try rw [h3] at HY
    all_goals have HA := Lib.hid hA
    all_goals clear hA
    all_goals go_enter Try.func17, Try.ntmps17
    all_goals go_wp2_with fail
    all_goals refine (HA.out _ (HR.out.below (Go.Joins.below_alloc1 w _))).mono ?_
    all_goals rintro e w1 ⟨rfl, hb⟩
    all_goals have HB := Lib.hid hb
    all_goals clear hb
    all_goals go_wp2_with (first | (go_at_call 30; refine (HI.out _).mono ?_; rintro e w' ⟨rfl, rfl⟩) | (go_at_call 44; refine (HY.out _).mono ?_; rintro e w' ⟨rfl, rfl⟩))
    all_goals go_ret2
    all_goals exact ⟨_, _, rfl, own_below hown0.out HB.out, hb0.out.trans (HB.out.mono hb0.out.size)⟩
  obtain ⟨h1, h2, h3⟩ := hask
  obtain ⟨q1, q2⟩ := inB_true.1 h2
  obtain ⟨m, rfl⟩ : ∃ m : Nat, q = (m : Int) := ⟨q.toNat, by omega⟩
  have h12 := stampsOk_len h1
  have hzf : ∀ z ∈ zs, z.face ≤ 9999 := fun z hz => by
    obtain ⟨k, hk, rfl⟩ := List.getElem_of_mem hz
    exact (stampOk_bd (stampsOk_at h1 hk)).2.1.2
  have hok : fewOk zs m yr = decide (fewF yr zs m ≤ 40) := by simp [fewOk, h1, h2, h3]
  have HN := Lib.hid (fun w hr => l2Needed_any a cap zs m yr w (by omega) (by omega) hzf hr)
  have HI := Lib.hid (fun w => l1In_any (m : Int) 1 2000 w)
  have HY := Lib.hid (fun w => l2Year_any yr w)
  rw [h1] at hA
  rw [h2] at HI
  rw [h3] at HY
  have HA := Lib.hid hA
  have HZF := Lib.hid hzf
  have hneed := needF_fewF yr zs m
  have q1' : 1 ≤ m := by omega
  have q2' : m ≤ 2000 := by omega
  clear hA h1 h2 h3 q1 q2 hzf
  unfold maxLen at hm
  have hlt9 : (m : Int) < (m : Int) + 1 := by omega
  by_cases h40 : fewF yr zs m ≤ 40
  rotate_left
  · have hok2 : fewOk zs m yr = false := by rw [hok]; simp [h40]
    rw [fewR_no hok2, hok2]
    have hgt : (40 : Int) < (needF yr zs m : Int) := by rw [hneed]; omega
    clear hok hok2 hneed h40
    go_enter Try.func17, Try.ntmps17
    go_wp2_with fail
    refine (HA.out _ (HR.out.below (Go.Joins.below_alloc1 w _))).mono ?_
    rintro e w1 ⟨rfl, hb⟩
    have HB1 := Lib.hid hb
    clear hb
    go_wp2_with (first | (go_at_call 30; refine (HI.out _).mono ?_; rintro e w' ⟨rfl, rfl⟩) | (go_at_call 44; refine (HY.out _).mono ?_; rintro e w' ⟨rfl, rfl⟩))
    refine (HN.out _ (HR.out.below (hb0.out.trans (HB1.out.mono hb0.out.size)))).mono ?_
    rintro e w2 ⟨g, rfl, _, hrow, hb⟩
    have c0 := hrow.cell (fullL_get (Nat.le_refl m))
    have HB2 := Lib.hid (HB1.out.trans (hb.mono HB1.out.size))
    clear hrow hb
    go_wp2_with fail
    go_ret2
    exact ⟨_, _, rfl, own_below hown0.out HB2.out, hb0.out.trans (HB2.out.mono hb0.out.size)⟩
  have hok2 : fewOk zs m yr = true := by rw [hok]; simp [h40]
  have hfr : fewR zs m yr = frankF yr zs 0 m := by simp [fewR, hok2]
  have hle : ¬ (40 : Int) < (needF yr zs m : Int) := by rw [hneed]; omega
  rw [hok2]
  have HFR := Lib.hid hfr
  have H40 := Lib.hid h40
  clear hok hok2 hneed h40 hfr
  go_enter Try.func17, Try.ntmps17
  go_wp2_with fail
  refine (HA.out _ (HR.out.below (Go.Joins.below_alloc1 w _))).mono ?_
  rintro e w1 ⟨rfl, hb⟩
  have HB1 := Lib.hid hb
  clear hb
  go_wp2_with (first | (go_at_call 30; refine (HI.out _).mono ?_; rintro e w' ⟨rfl, rfl⟩) | (go_at_call 44; refine (HY.out _).mono ?_; rintro e w' ⟨rfl, rfl⟩))
  refine (HN.out _ (HR.out.below (hb0.out.trans (HB1.out.mono hb0.out.size)))).mono ?_
  rintro e w2 ⟨g, rfl, hg, hrow, hb⟩
  have c0 := hrow.cell (fullL_get (Nat.le_refl m))
  have HB2 := Lib.hid (HB1.out.trans (hb.mono HB1.out.size))
  have HO2 := Lib.hid (own_below hown0.out HB2.out)
  have HBW := Lib.hid (hb0.out.trans (HB2.out.mono hb0.out.size))
  have HROW := Lib.hid hrow
  have hgw : w.heap.size ≤ g := Nat.le_trans (Nat.le_trans hb0.out.size HB1.out.size) hg
  clear hrow hb
  go_wp2_with fail
  go_loopw [1, 8, 10] (fun r o fr wr => ∃ (v i : Nat) (acc : List Int), r = .int .i64 v ∧ fr = .int .i64 i ∧ v ≤ m ∧ i ≤ zs.length ∧ Hid (v ≠ 0 → fewF yr (zs.drop i) v = fewF yr zs v ∧ fewF yr zs v ≤ 40) ∧ Hid (acc ++ frankF yr (zs.drop i) i v = frankF yr zs 0 m) ∧ acc.length + v ≤ m ∧
    (∃ ad cp, o = .slice ad acc.length cp) ∧ wr.ownsRow w.heap.size 3 1 o acc.length (ints acc) ∧ RowIs wr g 3 (ints (fullL (needF yr zs) m)) ∧ Hid (o.ownBlock ≠ some g) ∧ Below w.heap.size w wr) (fun r _ fr _ => (intOf r).toNat + (zs.length - (intOf fr).toNat))
  case atStart => exact ⟨m, 0, [], rfl, rfl, Nat.le_refl _, Nat.zero_le _, Lib.hid (fun _ => ⟨rfl, H40.out⟩), Lib.hid rfl, by simp, ⟨_, _, rfl⟩, HO2.out, HROW.out, Lib.hid (fun e => by simp [Value.ownBlock] at e; have := HB1.out.size; simp at this; omega), HBW.out⟩
  case round =>
    obtain ⟨v, i, acc, rfl, rfl, hv, hi9, hfew, hacc, hal, ⟨ad, cp, rfl⟩, hown, hrow, hgne, hbel⟩ := hrel
    have HO := Lib.hid hown
    have HRW := Lib.hid hrow
    have HB := Lib.hid hbel
    by_cases h0 : 0 < v
    rotate_left
    · have hd0 : decide ((0 : Int) < (v : Int)) = false := by simp; omega
      have hfin : Hid (fewR zs m yr = acc) := Lib.hid (by
        have h1 := hacc.out
        rw [show v = 0 by omega, frankF_zero, List.append_nil] at h1
        rw [HFR.out, h1])
      clear hown hrow hbel hfew hacc c0
      go_wp2_with fail
      go_ret2
      exact ⟨ad, cp, by rw [hfin.out]; rfl, by rw [hfin.out]; exact HO.out, HB.out⟩
    · have hd0 : decide ((0 : Int) < (v : Int)) = true := by simp; omega
      obtain ⟨hf1, hf2⟩ := hfew.out (by omega)
      have hil : i < zs.length := by
        rcases Nat.lt_or_ge i zs.length with h | h
        · exact h
        · rw [List.drop_eq_nil_of_le h, fewF_nil (by omega)] at hf1; omega
      have hdr := List.drop_eq_getElem_cons hil
      rcases HR.out.below hbel with h9 | ⟨b, bo, rfl, hb2, hcc⟩
      · have := stamps_length zs; rw [h9] at this; simp at this; omega
      obtain ⟨g0, g1, g2, g3⟩ := stamps_get hil
      have hc0 := hcc _ _ g0
      have hc1 := hcc _ _ g1
      have hc2 := hcc _ _ g2
      have hc3 := hcc _ _ g3
      simp only [← Nat.add_assoc] at hc1 hc2 hc3
      have hRD : Hid (Reads wr (some ⟨b, bo + i * 4, none⟩) (stamps (zs.drop i))) := Lib.hid (reads_drop hb2 hcc i)
      have hzf := HZF.out _ (List.getElem_mem hil)
      have hbx := RowIs.new wr 53 zs[i].cells
      have HBX := Lib.hid (hbel.alloc hbel.size (.cells #[.int .i64 zs[i].id, .int .i64 zs[i].face, .int .i64 zs[i].color, .int .i64 zs[i].year] 53))
      have e9 : wr.alloc (.cells zs[i].cells.toArray 53) = wr.alloc (.cells #[.int .i64 zs[i].id, .int .i64 zs[i].face, .int .i64 zs[i].color, .int .i64 zs[i].year] 53) := rfl
      rw [e9] at hbx
      have HXX := Lib.hid hbx
      have HXO := Lib.hid (HO.out.alloc (.cells #[.int .i64 zs[i].id, .int .i64 zs[i].face, .int .i64 zs[i].color, .int .i64 zs[i].year] 53))
      have HXR := Lib.hid (HRW.out.alloc (.cells #[.int .i64 zs[i].id, .int .i64 zs[i].face, .int .i64 zs[i].color, .int .i64 zs[i].year] 53))
      have hRD2 : Hid (Reads (wr.alloc (.cells #[.int .i64 zs[i].id, .int .i64 zs[i].face, .int .i64 zs[i].color, .int .i64 zs[i].year] 53)) (some ⟨b, bo + i * 4, none⟩) (stamps (zs.drop i))) := Lib.hid (hRD.out.below (Go.Joins.below_alloc1 wr _))
      have hox := Lib.hid (fun q hq => (HO.out.lt q hq).2)
      have hgx := HRW.out.lt
      clear hcc g0 g1 g2 g3 hown hrow hbel hbx e9 c0 hRD
      have hnx : ∀ (_ : takeB yr (zs.drop i) v = false), Hid (v ≠ 0 → fewF yr (zs.drop (i + 1)) v = fewF yr zs v ∧ fewF yr zs v ≤ 40) ∧ Hid (acc ++ frankF yr (zs.drop (i + 1)) (i + 1) v = frankF yr zs 0 m) := fun ht => by
        rw [hdr] at ht hf1
        refine ⟨Lib.hid (fun _ => ⟨(fewF_skip (by omega) ht).trans hf1, hf2⟩), Lib.hid ?_⟩
        have := hacc.out
        rw [hdr, frankF_no (by omega) ht] at this
        exact this
      have HNX := Lib.hid hnx
      clear hnx
      cases he : elig yr v zs[i]
      · have ht : takeB yr (zs.drop i) v = false := by rw [hdr]; exact take_elig he
        obtain ⟨N1, N2⟩ := HNX.out ht
        have hno : decide (0 < zs[i].face) = false ∨ (decide (0 < zs[i].face) = true ∧ decide (zs[i].face ≤ (v : Int)) = false) ∨ (decide (0 < zs[i].face) = true ∧ decide (zs[i].face ≤ (v : Int)) = true ∧ decide (zs[i].year ≤ yr) = false) := by
          simp only [decide_eq_true_eq, decide_eq_false_iff_not]
          rcases elig_no he with h1 | ⟨h1, h2⟩ | ⟨h1, h2, h3⟩ <;> omega
        clear he ht hf1 hf2 hdr hfew hacc hRD2
        rcases hno with h1 | ⟨h1, h2⟩ | ⟨h1, h2, h3⟩
        all_goals
          go_wp2_with fail
          generalize wr.alloc (.cells #[.int .i64 zs[i].id, .int .i64 zs[i].face, .int .i64 zs[i].color, .int .i64 zs[i].year] 53) = wB at *
          have x1 := HXX.out.cell (j := 1) rfl
          have x3 := HXX.out.cell (j := 3) rfl
          go_quiet (fail)
          go_wp2_with fail
          go_roundw
          case rel => exact ⟨v, i + 1, acc, rfl, by go_num, hv, by omega, N1, N2, hal, ⟨_, _, rfl⟩, own_dr HXO.out (Dr.of _ _), HXR.out.dr (Dr.of _ _), hgne, HBX.out.trans ((Dr.of _ _).below _)⟩
          case measure => simp [intOf]; omega
      · obtain ⟨q1, q2, q3⟩ := elig_iff.1 he
        obtain ⟨F, hF⟩ : ∃ F : Nat, zs[i].face = (F : Int) := ⟨zs[i].face.toNat, by omega⟩
        have hrt := rest_take hdr hf1 hf2 (by omega) he
        have hvF : ((v : Int) - (F : Int)) = ((v - F : Nat) : Int) := by omega
        have hnb := needF_le yr zs v
        have hFt : zs[i].face.toNat = F := by omega
        rw [hFt] at hrt
        rw [hF] at HBX HXX HXO HXR hRD2 hc1
        go_wp2_with fail
        generalize wr.alloc (.cells #[.int .i64 zs[i].id, .int .i64 (F : Int), .int .i64 zs[i].color, .int .i64 zs[i].year] 53) = wB at *
        have HQ : Hid (∀ x : Ext wB, Calls Try.prog 46 #[.slice (some ⟨b, bo + i * 4, none⟩) (zs.length - i) (cap - i), .int .i64 ((needF yr zs v : Int) - 1), .int .i64 ((v : Int) - (F : Int)), .int .i64 yr] x.1 fun e w' => e = .returned (.bool (takeB yr (zs.drop i) v)) ∧ Below x.1.heap.size x.1 w') := Lib.hid (fun x => by
          have := l2Rest_any (some ⟨b, bo + i * 4, none⟩) (cap - i) (zs.drop i) ((needF yr zs v : Int) - 1) (v - F) yr x.1 (by simp; omega) (by omega) (fun z hz => HZF.out z (List.mem_of_mem_drop hz)) (hRD2.out.below x.2)
          rw [List.length_drop, ← hvF] at this
          rw [← hrt]
          exact this)
        have x1 : ∀ x : Ext wB, x.1.cell? ⟨wr.heap.size, 1, none⟩ = some (.int .i64 (F : Int)) := fun x => by rw [← hF]; exact (x.cell HXX.out.lt).trans (HXX.out.cell (j := 1) rfl)
        have x3 : ∀ x : Ext wB, x.1.cell? ⟨wr.heap.size, 3, none⟩ = some (.int .i64 zs[i].year) := fun x => (x.cell HXX.out.lt).trans (HXX.out.cell (j := 3) rfl)
        have xr : ∀ x : Ext wB, x.1.cell? ⟨g, v, none⟩ = some (.int .i64 (needF yr zs v : Int)) := fun x => (x.cell HXR.out.lt).trans (HXR.out.cell (fullL_get hv))
        have d1 : decide (0 < (F : Int)) = true := by simp; omega
        have d2 : decide ((F : Int) ≤ (v : Int)) = true := by simp; omega
        have d3 : decide (zs[i].year ≤ yr) = true := by simpa using q1
        have d4 : decide (0 < F) = true := by simp; omega
        have d5 : decide (F ≤ v) = true := by simp; omega
        have t1 : IntKind.i64.wrap ((needF yr zs v : Int) - 1) = (needF yr zs v : Int) - 1 := IntWalk.i64_in _ (by omega)
        have t2 : IntKind.i64.wrap ((v : Int) - (F : Int)) = (v : Int) - (F : Int) := IntWalk.i64_in _ (by omega)
        have s1 : (i : Int) ≤ (zs.length : Int) := by omega
        have s2 : (0 : Int) ≤ (i : Int) := by omega
        have s3 : (zs.length : Int) ≤ (cap : Int) := by omega
        have s4 : (v : Int) < (m : Int) + 1 := by omega
        have hYES : takeB yr (zs.drop i) v = true → Hid (v - F ≠ 0 → fewF yr (zs.drop i) (v - F) = fewF yr zs (v - F) ∧ fewF yr zs (v - F) ≤ 40) ∧ Hid ((acc ++ [(i : Int)]) ++ frankF yr (zs.drop i) i (v - F) = frankF yr zs 0 m) := fun ht => by
          have hk := hdr
          rw [hdr] at ht
          have h8 := hf1
          rw [hdr] at h8
          have h7 := fewF_take hk h8 ht
          rw [hFt] at h7
          refine ⟨Lib.hid (fun _ => ⟨by rw [hdr]; exact h7.1, by have := h7.2; omega⟩), Lib.hid ?_⟩
          have := hacc.out
          rw [hdr, frankF_yes (by omega) ht, hFt] at this
          rw [hdr, List.append_assoc]
          exact this
        have HYES := Lib.hid hYES
        clear he hrt hvF hYES hf1 hf2 hdr hfew hacc hRD2 q1
        cases ht : takeB yr (zs.drop i) v
        · rw [ht] at HQ
          obtain ⟨N1, N2⟩ := HNX.out ht
          clear ht
          refine wp_region_ext (by kernel_rfl) (by kernel_rfl) ?_
          repeat (go_big_quiet_step ((go_at_call 46; exact ext_call (HQ.out _))))
          refine wpQuiet_nil ?_
          rintro _ ⟨x, rfl⟩
          clear x1 x3 xr
          go_wp2_with fail
          go_roundw
          case rel => exact ⟨v, i + 1, acc, rfl, by go_num, hv, by omega, N1, N2, hal, ⟨_, _, rfl⟩, own_below HXO.out x.2, HXR.out.below x.2, hgne, HBX.out.trans (x.2.mono HBX.out.size)⟩
          case measure => simp [intOf]; omega
        · rw [ht] at HQ
          obtain ⟨N1, N2⟩ := HYES.out ht
          clear ht
          refine wp_region_ext (by kernel_rfl) (by kernel_rfl) ?_
          repeat (go_big_quiet_step ((go_at_call 46; exact ext_call (HQ.out _))))
          refine wpQuiet_nil ?_
          rintro _ ⟨x, rfl⟩
          have hxo := own_below HXO.out x.2
          have hxr := HXR.out.below x.2
          have hxx := HXX.out.below x.2
          have hxb := HBX.out.trans (x.2.mono HBX.out.size)
          clear x1 x3 xr
          obtain ⟨w5, hw5⟩ : ∃ w5, w5 = x.1 := ⟨_, rfl⟩
          rw [← hw5] at hxo hxr hxx hxb
          rw [← hw5]
          clear hw5
          have HO5 := Lib.hid hxo
          have HR5 := Lib.hid hxr
          have HX5 := Lib.hid hxx
          have HB5 := Lib.hid hxb
          clear hxo hxr hxx hxb
          go_wp2_with (at_builtin; go_must (refine wpList_append_where _ rfl _ _ 24 rfl w.heap.size 3 i0 (.int .i64 0) 1 8 Try.underlying24 hi hz0 hz1 hz2 rfl (by decide) _ _ _ rfl (HO5.out.alloc _) ⟨w5.heap.size, 0, none⟩ 1 1 [.int .i64 (i : Int)] rfl rfl (World.news_of_block (cs := #[.int .i64 (i : Int)]) (t := 3) (fr := (0, 0)) (heap_alloc_new _ _)) (by simp [Value.oneCell']) (by unfold maxLen; omega) (by omega) (Nat.le_trans HB5.out.size (by simp)) ?_))
          intro v' w6 hown6 hgrow6 hwh
          obtain ⟨g6, c6, hv6⟩ := Go.Joins.ownsRow_form hown6 (by omega)
          have hg6 : w5.grownBy w6 (Value.slice ad acc.length cp).ownBlock := grownBy_trans (World.grownBy_alloc w5 _ _) hgrow6
          have hal6 : (acc ++ [(i : Int)]).length = acc.length + 1 := by simp
          have hown7 : w6.ownsRow w.heap.size 3 1 (.slice (some ⟨g6, 0, none⟩) (acc.length + 1) c6) (acc ++ [(i : Int)]).length (ints (acc ++ [(i : Int)])) := by
            rw [hal6]; rw [hv6] at hown6; simpa [ints] using hown6
          have HO6 := Lib.hid hown7
          have HL6 := Lib.hid hal6
          have HB6 := Lib.hid (HB5.out.grown hg6 HB5.out.size (fun q hq => (HO5.out.lt q hq).1))
          have HR6 := Lib.hid (HR5.out.grown hg6 (fun e => hgne.out e.symm))
          have hx6 := HX5.out.grown hg6 (fun e => by have := hox.out wr.heap.size e.symm; omega)
          have y1 : w6.cell? ⟨wr.heap.size, 1, none⟩ = some (.int .i64 (F : Int)) := by rw [← hF]; exact hx6.cell (j := 1) rfl
          have HN6 : Hid ((Value.slice (some ⟨g6, 0, none⟩) (acc.length + 1) c6).ownBlock ≠ some g) := Lib.hid (fun e => by
            rw [hv6] at hwh
            rcases hwh with h | h
            · rw [h] at e; exact hgne.out e
            · have h1 := h g e
              have h2 := HR5.out.lt
              first | omega | (rw [heap_size_alloc] at h1; omega))
          rw [hv6]
          clear hown6 hgrow6 hown7 hal6 hv6 hg6 hx6 hwh
          go_wp2_with fail
          go_roundw
          case rel => exact ⟨v - F, i, acc ++ [(i : Int)], by go_num, rfl, by omega, hi9, N1, N2, by rw [HL6.out]; omega, ⟨_, _, by rw [HL6.out]⟩, HO6.out, HR6.out, HN6.out, HB6.out⟩
          case measure => simp [intOf]; omega
end Go.Proofs.Ytieopadbbciciaa
