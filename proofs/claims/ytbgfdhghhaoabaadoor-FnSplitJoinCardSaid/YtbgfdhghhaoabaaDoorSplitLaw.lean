/- The law FnSplitJoin, walked out of the contracts. -/
import Derived.Test.YtbgfdhghhaoabaaDoorSplitL
import Derived.Test.YtbgfdhghhaoabaaDoorSplitJ
import Derived.Test.YtbgfdhghhaoabaaDoorCurJ
import Derived.Test.YtbgfdhghhaoabaaDoorStr1
import Derived.Sort.Walk0
namespace Go.Proofs.YtbgfdhghhaoabaaDoor
open Go.ChangeShapes Go.WideShapes Go.ChangeAt Go.RowKit

theorem less_asym (a b : ByteArray) (h : Op.bytesLess a.toList b.toList = true) : Op.bytesLess b.toList a.toList = false := by
  rw [bytesLess_eq] at h ⊢
  simp only [decide_eq_true_eq, decide_eq_false_iff_not] at h ⊢
  exact fun h2 => absurd (List.lt_trans h h2) (List.lt_irrefl _)
theorem own_cap {w : World} {base n sz cap : Nat} {e : TypeId} {a : Option Addr} {xs : List Value} (h : w.ownsRow base e sz (.slice a n cap) n xs) : n ≤ cap := by
  rcases h.2 with ⟨h1, h2⟩ | ⟨g, c, cur, h1, _, _, h2, _⟩
  · rw [h2]; exact Nat.zero_le _
  · injection h1 with _ _ h1; rw [h1]; exact h2
theorem sz_mem {zs : List ByteArray} {s sep : ByteArray} (h : zs = cutR s sep) (hs : s.size ≤ 4000) : ∀ z ∈ zs, z.size ≤ 4000 := by
  subst h
  intro z hz
  unfold cutR at hz
  split at hz
  · rename_i hok
    have hl := joinTo_len (zs := splitF s (sep[0]'(by simp [cutOk] at hok; omega))) (sep := ⟨#[sep[0]'(by simp [cutOk] at hok; omega)]⟩) _ (Nat.le_refl _)
    rw [joinTo_all, split_join] at hl
    obtain ⟨k, hk, rfl⟩ := List.getElem_of_mem hz
    have h1 := lensTo_succ hk
    have h2 := lensTo_mono _ (j := k + 1) (by omega) (Nat.le_refl (splitF s (sep[0]'(by simp [cutOk] at hok; omega))).length)
    omega
  · cases hz
set_option maxRecDepth 100000 in
set_option maxHeartbeats 4000000 in
theorem FnSplitJoin_walk {w : World} (_ : laidMet Tryd.prog Rows.fnSplitJoinRow.laid w) (hsh : w.ShapedOpen Tryd.prog) (x : Slc × List Int) (h : BytesIn w x.1 x.2) : Calls Tryd.prog 8 #[x.1.val] w fun e w' => e = .returned (.bool true) ∧ Below w.heap.size w w' := by
  have HX := Lib.hid (maxCell_of hsh)
  clear hsh
  obtain ⟨⟨ad, len, cap⟩, cs⟩ := x
  obtain ⟨hs, hm, hr, hz⟩ := h
  simp only at hs hm hr hz
  subst hs
  have HR := Lib.hid hr
  have HM := Lib.hid hm
  have HZ := Lib.hid hz
  have hR := fun w => vBig_any ad cs.length cap w
  clear hr hz
  by_cases hbig : (65536 : Int) < (cs.length : Int)
  · rw [decide_eq_true hbig] at hR
    have HRB := Lib.hid hR
    clear hR hm hbig
    go_enter Tryd.func8, Tryd.ntmps8
    go_wp2_with fail
    refine (HRB.out _).mono ?_
    rintro e _ ⟨rfl, rfl⟩
    go_wp2_with fail
    go_ret
    exact ⟨rfl, Below.refl _ _⟩
  rw [decide_eq_false hbig] at hR
  have HRB := Lib.hid hR
  have HB0 := Lib.hid (Below.refl w.heap.size w)
  clear hR hm hbig
  go_enter Tryd.func8, Tryd.ntmps8
  go_wp2_with fail
  refine (HRB.out _).mono ?_
  rintro e _ ⟨rfl, rfl⟩
  go_wp2_with fail
  refine (drawSplit_any _ _ cs _ HM.out HR.out HZ.out).mono ?_
  rintro e w1 ⟨s, sep, rfl, hs1, hs2, hb⟩
  have HB1 := Lib.hid (HB0.out.trans (hb.mono HB0.out.size))
  have hsp := fun w hx => implSplit_any s sep w (by omega) (by omega) hx
  have hcl := cutR_le s sep
  have hcz := sz_mem (zs := cutR s sep) rfl (show s.size ≤ 4000 by omega)
  obtain ⟨zs, hzs⟩ : ∃ zs, zs = cutR s sep := ⟨_, rfl⟩
  obtain ⟨ok, hok⟩ : ∃ ok, ok = cutOk s sep := ⟨_, rfl⟩
  rw [← hzs, ← hok] at hsp
  rw [← hzs] at hcl hcz
  have HSP := Lib.hid hsp
  have HZS := Lib.hid hzs
  have HOK := Lib.hid hok
  have HCZ := Lib.hid hcz
  clear hsp hzs hok hcz hb
  go_wp2_with fail
  refine (HSP.out _ (HX.out.below HB1.out)).mono ?_
  rintro e w2 ⟨adL, cpL, rfl, hown, hb⟩
  have ge_L := HB1.out.size
  have HB2 := Lib.hid (HB1.out.trans (hb.mono HB1.out.size))
  have L_2 := Lib.hid hown
  clear hown hb
  go_wp2_with fail
  refine (drawJoin_any _ _ cs _ HM.out (HR.out.below HB2.out) HZ.out).mono ?_
  rintro e w3 ⟨adK, cpK, ks, y, rfl, hk1, hk2, hy, hown, hb⟩
  have ge_K := HB2.out.size
  have lt_L_K := Lib.hid (fun q (hq : _ = some q) => (L_2.out.lt q hq).2)
  have HB3 := Lib.hid (HB2.out.trans (hb.mono HB2.out.size))
  have L_3 := Lib.hid (own_below L_2.out hb)
  have K_3 := Lib.hid hown
  have HKC := Lib.hid (own_cap hown)
  obtain ⟨jf, hjf⟩ : ∃ jf, jf = joinF ks y := ⟨_, rfl⟩
  have hj1 := fun a c w hc hr => implJoin_any a c ks y w hc (by omega) (fun z hz => by have := hk2 z hz; omega) (by omega) hr
  have hj2 := fun a c w hr => specJoin_any a c ks y w (by omega) (fun z hz => by have := hk2 z hz; omega) (by omega) hr
  rw [← hjf] at hj1 hj2
  obtain ⟨j0, j1⟩ := jf
  have HJ1 := Lib.hid hj1
  have HJ2 := Lib.hid hj2
  clear hown hb hj1 hj2 hjf hk2
  go_wp2_with fail
  refine (HJ1.out _ _ _ HKC.out (own_reads K_3.out)).mono ?_
  rintro e w4 ⟨rfl, hb⟩
  have HB4 := Lib.hid (HB3.out.trans (hb.mono HB3.out.size))
  have L_4 := Lib.hid (own_below L_3.out hb)
  have K_4 := Lib.hid (own_below K_3.out hb)
  clear hb
  go_wp2_with fail
  refine (HJ2.out _ _ _ (own_reads K_4.out)).mono ?_
  rintro e w5 ⟨rfl, hd⟩
  have HB5 := Lib.hid (HB4.out.trans (hd.below _))
  have L_5 := Lib.hid (own_dr L_4.out hd)
  clear hd
  go_wp2_with fail
  refine (drawLess_any _ _ cs _ HM.out (HR.out.below HB5.out) HZ.out).mono ?_
  rintro e w6 ⟨a, b, rfl, ha, hb', hb⟩
  have HB6 := Lib.hid (HB5.out.trans (hb.mono HB5.out.size))
  have L_6 := Lib.hid (own_below L_5.out hb)
  have HLC := Lib.hid (own_cap L_6.out)
  clear hb
  have hl1 := fun w => implLess_any a b w
  have hl2 := fun w => specLess_any a b w
  have hl3 := fun w => implLess_any b a w
  have has := less_asym a b
  generalize Op.bytesLess a.toList b.toList = lab at *
  generalize Op.bytesLess b.toList a.toList = lba at *
  have HL1 := Lib.hid hl1
  have HL2 := Lib.hid hl2
  have HL3 := Lib.hid hl3
  clear hl1 hl2 hl3
  have hback : Hid (∀ (_ : sep.size = 1) a c w, zs.length ≤ c → Reads w a (strs zs) → Calls Tryd.prog 26 #[.slice a zs.length c, .string sep] w fun e w' => e = .returned (.tuple #[.string s, .bool true]) ∧ Below w.heap.size w w') := Lib.hid (fun hse a c w hc hr => by
    have h := implJoin_any a c zs sep w hc (by omega) (fun z hz => by have := HCZ.out z hz; omega) (by omega) hr
    have e1 : joinF zs sep = (s, true) := by
      have hok : cutOk s sep = true := by simp [cutOk]; omega
      rw [HZS.out, cutR_yes hok (by omega)]
      have := split_back (s := s) (c := sep[0]'(by omega)) (by omega)
      rw [← sep_one hse] at this
      exact this
    rw [e1] at h
    exact h)
  by_cases hse : sep.size = 1
  · have hok : ok = true := by rw [HOK.out]; simp [cutOk]; omega
    subst hok
    have HBK := Lib.hid (hback.out hse)
    have hne : ((sep.size : Int) != 1) = false := by simp; omega
    clear hback hse
    cases lab
    · clear has
      go_wp2_with fail
      refine (HL1.out _).mono ?_
      rintro e _ ⟨rfl, rfl⟩
      go_wp2_with fail
      refine (HL2.out _).mono ?_
      rintro e _ ⟨rfl, rfl⟩
      go_wp2_with fail
      refine (HL1.out _).mono ?_
      rintro e _ ⟨rfl, rfl⟩
      go_wp2_with fail
      refine (HBK.out _ _ _ HLC.out (own_reads L_6.out)).mono ?_
      rintro e w7 ⟨rfl, hb⟩
      have HB7 := Lib.hid (HB6.out.trans (hb.mono HB6.out.size))
      clear hb
      go_wp2_with fail
      go_ret
      exact ⟨rfl, HB7.out⟩
    · obtain rfl := has rfl
      go_wp2_with fail
      refine (HL1.out _).mono ?_
      rintro e _ ⟨rfl, rfl⟩
      go_wp2_with fail
      refine (HL2.out _).mono ?_
      rintro e _ ⟨rfl, rfl⟩
      go_wp2_with fail
      refine (HL1.out _).mono ?_
      rintro e _ ⟨rfl, rfl⟩
      go_wp2_with fail
      refine (HL3.out _).mono ?_
      rintro e _ ⟨rfl, rfl⟩
      go_wp2_with fail
      refine (HBK.out _ _ _ HLC.out (own_reads L_6.out)).mono ?_
      rintro e w7 ⟨rfl, hb⟩
      have HB7 := Lib.hid (HB6.out.trans (hb.mono HB6.out.size))
      clear hb
      go_wp2_with fail
      go_ret
      exact ⟨rfl, HB7.out⟩
  · have hok : ok = false := by rw [HOK.out]; simp [cutOk]; omega
    subst hok
    have hz : zs = [] := by rw [HZS.out, cutR_no HOK.out.symm]
    subst hz
    have hne : ((sep.size : Int) != 1) = true := by simp; omega
    clear hback hse
    cases lab
    · clear has
      go_wp2_with fail
      refine (HL1.out _).mono ?_
      rintro e _ ⟨rfl, rfl⟩
      go_wp2_with fail
      refine (HL2.out _).mono ?_
      rintro e _ ⟨rfl, rfl⟩
      go_wp2_with fail
      refine (HL1.out _).mono ?_
      rintro e _ ⟨rfl, rfl⟩
      go_wp2_with fail
      go_ret
      exact ⟨rfl, HB6.out⟩
    · obtain rfl := has rfl
      go_wp2_with fail
      refine (HL1.out _).mono ?_
      rintro e _ ⟨rfl, rfl⟩
      go_wp2_with fail
      refine (HL2.out _).mono ?_
      rintro e _ ⟨rfl, rfl⟩
      go_wp2_with fail
      refine (HL1.out _).mono ?_
      rintro e _ ⟨rfl, rfl⟩
      go_wp2_with fail
      refine (HL3.out _).mono ?_
      rintro e _ ⟨rfl, rfl⟩
      go_wp2_with fail
      go_ret
      exact ⟨rfl, HB6.out⟩
end Go.Proofs.YtbgfdhghhaoabaaDoor
