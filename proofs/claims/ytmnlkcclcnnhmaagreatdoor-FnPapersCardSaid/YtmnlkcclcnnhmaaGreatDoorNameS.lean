/- spec.MarkNames: each name goes to its place, once. -/
import Derived.Test.YtmnlkcclcnnhmaaGreatDoorNameP
import Derived.Test.YtmnlkcclcnnhmaaGreatDoorNameA
import Derived.Test.YtmnlkcclcnnhmaaGreatDoorPaperG
import Derived.Test.YtmnlkcclcnnhmaaGreatDoorNear
import Derived.Test.YtmnlkcclcnnhmaaGreatDoorStrS
import Derived.Deep.RegionHeld3
import Derived.Deep.DrawnRows
namespace Go.Proofs.YtmnlkcclcnnhmaaGreatDoor
open Go.RowKit

def marksOf (zs : List PaperT) : List ByteArray := zs.map (·.mark)
def namesTo (zs : List PaperT) (k : Nat) : List ByteArray := specN ((marksOf zs).take k)
def namR (zs : List PaperT) : List ByteArray := if papersOk zs = true then specN (marksOf zs) else []
theorem namesTo_succ {zs : List PaperT} {k : Nat} (h : k < zs.length) : namesTo zs (k + 1) = insN (namesTo zs k) zs[k].mark := by
  unfold namesTo
  rw [List.take_succ_eq_append_getElem (by simpa [marksOf] using h), specN_snoc]
  simp [marksOf]
theorem namesTo_len (zs : List PaperT) (k : Nat) : (namesTo zs k).length ≤ k := by
  have := specN_len ((marksOf zs).take k)
  have h2 : ((marksOf zs).take k).length ≤ k := by simp; omega
  unfold namesTo; omega
theorem namR_len (zs : List PaperT) : (namR zs).length ≤ 10 := by
  unfold namR
  split
  · rename_i h
    have h1 := papersOk_len h
    have h2 := specN_len (marksOf zs)
    simp only [marksOf, List.length_map] at h2
    unfold marksOf
    omega
  · simp
theorem knownN_zero (nm : ByteArray) (os : List ByteArray) : knownN nm os 0 = nm.toList.isEmpty := by simp [knownN]
theorem knownN_succ {nm : ByteArray} {os : List ByteArray} {n : Nat} (h : n < os.length) : knownN nm os (n + 1) = (knownN nm os n || os[n].toList == nm.toList) := by
  unfold knownN
  rw [List.take_succ_eq_append_getElem h, List.any_append, Bool.or_assoc]
  simp
theorem backN_go {nm : ByteArray} {os : List ByteArray} {k : Nat} (h0 : 0 < k) (h : Op.bytesLess nm.toList (os.getD (k - 1) .empty).toList = true) : backN nm os k = backN nm os (k - 1) := by
  obtain ⟨j, rfl⟩ : ∃ j, k = j + 1 := ⟨k - 1, by omega⟩
  exact if_pos h
theorem backN_stop {nm : ByteArray} {os : List ByteArray} {k : Nat} (h0 : 0 < k) (h : Op.bytesLess nm.toList (os.getD (k - 1) .empty).toList = false) : backN nm os k = k := by
  obtain ⟨j, rfl⟩ : ∃ j, k = j + 1 := ⟨k - 1, by omega⟩
  rw [backN, if_neg (by rw [show j = j + 1 - 1 by omega, h]; simp)]
theorem insN_no {os : List ByteArray} {nm : ByteArray} (h : knownN nm os os.length = true) : insN os nm = os := by rw [insN, if_pos h]
theorem insN_yes {os : List ByteArray} {nm : ByteArray} {k : Nat} (h : knownN nm os os.length = false) (hk : backN nm os os.length = k) : insN os nm = os.take k ++ [nm] ++ os.drop k := by rw [insN, if_neg (by rw [h]; simp), hk]
theorem str_getD {zs : List ByteArray} {k : Nat} (h : k < zs.length) : zs.getD k .empty = zs[k] := by simp [List.getD, h]
theorem strs_one (zs : List ByteArray) : ∀ u ∈ strs zs, u.oneCell' = true := by
  intro u hu
  obtain ⟨z, _, rfl⟩ := List.mem_map.1 hu
  rfl
theorem takes_news {w W : World} {g k : Nat} {os : List ByteArray} (hc : ∀ j u, (strs os)[j]? = some u → w.cell? ⟨g, j, none⟩ = some u) (hg : g < w.heap.size) (hb : Below w.heap.size w W) : ∀ j u, (strs (os.take k))[j]? = some u → W.cell? ((⟨g, 0, none⟩ : Addr).add j) = some u := by
  intro j u hj
  rw [add_at, Nat.zero_add, hb.cell (p := ⟨g, j, none⟩) hg]
  refine hc j u ?_
  have hlt : j < k := by
    have := (List.getElem?_eq_some_iff.1 hj).1
    simp [strs] at this; omega
  rw [strs, List.map_take, List.getElem?_take_of_lt hlt] at hj
  exact hj
theorem drops_news {w W : World} {g k ko : Nat} {os : List ByteArray} (hc : ∀ j u, (strs os)[j]? = some u → w.cell? ⟨g, j, none⟩ = some u) (hg : g < w.heap.size) (hko : k < os.length → ko = k) (hb : Below w.heap.size w W) : ∀ j u, (strs (os.drop k))[j]? = some u → W.cell? ((⟨g, ko, none⟩ : Addr).add j) = some u := by
  intro j u hj
  have hlt : k < os.length := by
    have := (List.getElem?_eq_some_iff.1 hj).1
    simp [strs] at this; omega
  obtain rfl := hko hlt
  rw [add_at, hb.cell (p := ⟨g, ko + j, none⟩) hg]
  refine hc (ko + j) u ?_
  rw [strs, List.map_drop, List.getElem?_drop] at hj
  exact hj
set_option maxRecDepth 100000 in
set_option maxHeartbeats 4000000 in
theorem specNames_any (a : Option Addr) (cap : Nat) (zs : List PaperT) (w : World) (hm : zs.length ≤ maxLen) (hr : Reads w a (papers zs)) (hfit : ∀ z ∈ zs, z.mark.size ≤ maxLen) :
    Calls Tryz.prog 21 #[.slice a zs.length cap] w fun e w' => ∃ ad cp, e = .returned (.tuple #[.slice ad (namR zs).length cp, .bool (papersOk zs)]) ∧
      w'.ownsRow w.heap.size 9 1 (.slice ad (namR zs).length cp) (namR zs).length (strs (namR zs)) ∧ Below w.heap.size w w' := by
  obtain ⟨i0, hi, hz0, hz1, hz2⟩ := info_parts info_string
  have hA := fun w hr => l3Good_any a cap zs w hm hr hfit
  have hown0 := Lib.hid (emp_new w 9)
  have hb0 := Lib.hid (Go.Joins.below_alloc1 w (.cells #[] 9))
  have HR := Lib.hid hr
  unfold namR
  cases hok : papersOk zs
  · simp only [Bool.false_eq_true, if_false]
    rw [hok] at hA
    have HA := Lib.hid hA
    clear hA hok hr
    unfold maxLen at hm
    go_enter Tryz.func21, Tryz.ntmps21
    go_wp2_with fail
    refine (HA.out _ (HR.out.below hb0.out)).mono ?_
    rintro e w1 ⟨rfl, hb⟩
    have HB := Lib.hid hb
    clear hb
    go_wp2_with fail
    go_ret2
    exact ⟨_, _, rfl, own_below hown0.out HB.out, hb0.out.trans (HB.out.mono hb0.out.size)⟩
  · simp only [if_true]
    rw [hok] at hA
    have HA := Lib.hid hA
    have hlz := papersOk_len hok
    have HEND := Lib.hid (show namesTo zs zs.length = specN (marksOf zs) by unfold namesTo; rw [show zs.length = (marksOf zs).length by simp [marksOf], List.take_length])
    clear hA hok hr hm hfit
    go_enter Tryz.func21, Tryz.ntmps21
    go_wp2_with fail
    refine (HA.out _ (HR.out.below hb0.out)).mono ?_
    rintro e w1 ⟨rfl, hb⟩
    have HO1 := Lib.hid (own_below hown0.out hb)
    have HB1 := Lib.hid (hb0.out.trans (hb.mono hb0.out.size))
    clear hb
    go_wp2_with fail
    go_loopw [4, 5] (fun v iv wr => ∃ i g cp : Nat, i ≤ zs.length ∧ iv = .int .i64 i ∧ v = .slice (some ⟨g, 0, none⟩) (namesTo zs i).length cp ∧ wr.ownsRow w.heap.size 9 1 v (namesTo zs i).length (strs (namesTo zs i)) ∧ Below w.heap.size w wr) (fun _ iv _ => zs.length - (intOf iv).toNat)
    case atStart => exact ⟨0, _, _, Nat.zero_le _, rfl, rfl, by simpa [namesTo, specN, strs] using HO1.out, HB1.out⟩
    case round =>
      obtain ⟨i, g, cp, hil, rfl, rfl, hown, hbel⟩ := hrel
      by_cases hlt : i < zs.length
      · rcases HR.out with h0 | ⟨b, bo, rfl, hb2, hc⟩
        · have := papers_length zs; rw [h0] at this; simp at this; omega
        obtain ⟨_, _, _, g3, _⟩ := papers_get hlt
        have hc3 := (hbel.cell (p := ⟨b, _, none⟩) hb2).trans (hc _ _ g3)
        simp only [← Nat.add_assoc] at hc3
        have HSUC := namesTo_succ hlt
        have hol := namesTo_len zs i
        obtain ⟨os, hos⟩ : ∃ os, os = namesTo zs i := ⟨_, rfl⟩
        obtain ⟨nm, hnm⟩ : ∃ nm, nm = zs[i].mark := ⟨_, rfl⟩
        rw [← hos, ← hnm] at HSUC
        rw [← hos] at hol hown
        rw [← hos]
        rw [← hnm] at hc3
        have HS := Lib.hid HSUC
        have HO := Lib.hid hown
        have HB := Lib.hid hbel
        obtain ⟨hcp, hcm, hbg, hgl⟩ := own_cap hown
        have HC := Lib.hid (own_cells hown)
        clear hc g3 hos hnm HSUC hown hbel hb2
        obtain ⟨wo, rfl⟩ : ∃ wo, wo = wr := ⟨wr, rfl⟩
        go_wp2_with fail
        clear hc3
        go_loop [8, 9] (fun kn nv => ∃ n : Nat, n ≤ os.length ∧ nv = .int .i64 n ∧ kn = .bool (knownN nm os n)) (fun _ nv => os.length - (intOf nv).toNat)
        case atStart => exact ⟨0, Nat.zero_le _, rfl, by rw [knownN_zero]⟩
        case round =>
          obtain ⟨n, hn, rfl, rfl⟩ := hrel
          by_cases hln : n < os.length
          · have c1 := HC.out n _ (strs_get hln)
            have HK := Lib.hid (knownN_succ (nm := nm) hln)
            cases hkn : knownN nm os n
            · rw [hkn] at HK
              clear hkn
              go_wp2_with fail
              go_round
              case rel => exact ⟨n + 1, by omega, by go_num, by rw [HK.out]; rfl⟩
              case measure => simp [intOf]; omega
            · rw [hkn] at HK
              clear hkn
              go_wp2_with fail
              go_round
              case rel => exact ⟨n + 1, by omega, by go_num, by rw [HK.out]; rfl⟩
              case measure => simp [intOf]; omega
          · obtain rfl : n = os.length := by omega
            go_wp2_with fail
            go_loop [7] (fun kv => ∃ k : Nat, k ≤ os.length ∧ kv = .int .i64 k ∧ Hid (backN nm os os.length = backN nm os k)) (fun kv => (intOf kv).toNat)
            case atStart => exact ⟨_, Nat.le_refl _, rfl, Lib.hid rfl⟩
            case round =>
              obtain ⟨k, hk, rfl, hbk⟩ := hrel
              have hgo := fun h0 h => backN_go (nm := nm) (os := os) (k := k) h0 h
              have hsp := fun h0 h => backN_stop (nm := nm) (os := os) (k := k) h0 h
              have hcc := fun (h0 : 0 < k) => HC.out (k - 1) _ (strs_get (show k - 1 < os.length by omega))
              have hgd := fun (h0 : 0 < k) => str_getD (zs := os) (show k - 1 < os.length by omega)
              obtain ⟨ok, hok⟩ : ∃ s, s = os.getD (k - 1) .empty := ⟨_, rfl⟩
              rw [← hok] at hgo hsp hgd
              have HOK := Lib.hid hok
              have HSP := Lib.hid hsp
              clear hok hsp
              by_cases hstop : 0 < k ∧ Op.bytesLess nm.toList ok.toList = true
              · obtain ⟨hk0, hls⟩ := hstop
                have c1 := hcc hk0
                rw [← hgd hk0] at c1
                have HB3 := Lib.hid (hbk.out.trans (hgo hk0 hls))
                have hd : decide (0 < k) = true := by simpa using hk0
                clear hgo hcc hgd HSP HOK
                go_wp2_with fail
                go_round
                case rel => exact ⟨k - 1, by omega, by go_num, HB3⟩
                case measure => simp [intOf]; omega
              · have hst : k = 0 ∨ (0 < k ∧ Op.bytesLess nm.toList ok.toList = false ∧ wo.cell? ⟨g, k - 1, none⟩ = some (.string ok)) := by
                  by_cases h0 : k = 0
                  · exact .inl h0
                  · exact .inr ⟨by omega, by simpa [show 0 < k by omega] using hstop, by have c1 := hcc (by omega); rw [← hgd (by omega)] at c1; exact c1⟩
                have HKK := Lib.hid (show backN nm os os.length = k by
                  rw [hbk.out]
                  rcases hst with h0 | ⟨h0, h1, _⟩
                  · rw [h0]; rfl
                  · exact HSP.out h0 h1)
                clear hstop hbk hgo hcc hgd HSP HOK
                have way : ∀ b : Bool, knownN nm os os.length = b → (decide (0 < k) = false ∧ k ≤ 0) ∨ (decide (0 < k) = true ∧ 0 < k ∧ Op.bytesLess nm.toList ok.toList = false ∧ wo.cell? ⟨g, k - 1, none⟩ = some (.string ok)) := by
                  intro _ _
                  rcases hst with h0 | ⟨h0, h1, h2⟩
                  · exact .inl ⟨by simp; omega, by omega⟩
                  · exact .inr ⟨by simpa using h0, h0, h1, h2⟩
                clear hst
                cases hkn : knownN nm os os.length
                case true =>
                  have HI := Lib.hid (insN_no hkn)
                  rcases way _ hkn with ⟨h0, h1⟩ | ⟨h0, h1, h2, h3⟩
                  all_goals
                    clear way HKK
                    go_wp2_with fail
                    go_roundw
                    case rel => exact ⟨i + 1, g, cp, by omega, by go_num, by rw [HS.out, HI.out], by rw [HS.out, HI.out]; exact HO.out, HB.out⟩
                    case measure => simp [intOf]; omega
                case false =>
                  have HI := Lib.hid (insN_yes hkn HKK.out)
                  rcases way _ hkn with ⟨h0, h1⟩ | ⟨h0, h1, h2, h3⟩
                  all_goals
                    clear way HKK
                    go_wp2_with fail
                    clear h0 h1 hkn
                    first | clear h2 h3 | skip
                    have z0 : (0 : Int) ≤ (k : Int) := by omega
                    have z1 : (k : Int) ≤ (cp : Int) := by omega
                    have z2 : (k : Int) ≤ (os.length : Int) := by omega
                    have z3 : (os.length : Int) ≤ (cp : Int) := by omega
                    have HNT := Lib.hid (fun W hb j u hj => takes_news (W := W) (k := k) HC.out hgl hb j u hj)
                    obtain ⟨ko, hif, hko⟩ : ∃ ko : Nat, (if cp = k then some (⟨g, 0, none⟩ : Addr) else some ⟨g, k, none⟩) = some ⟨g, ko, none⟩ ∧ (k < os.length → ko = k) := by
                      by_cases hck : cp = k
                      · exact ⟨0, by rw [if_pos hck], fun _ => by omega⟩
                      · exact ⟨k, by rw [if_neg hck], fun _ => rfl⟩
                    have HIF := Lib.hid hif
                    have HND := Lib.hid (fun W hb j u hj => drops_news (W := W) (ko := ko) HC.out hgl hko hb j u hj)
                    clear hif hko
                    have HLT := Lib.hid (show (strs (os.take k)).length = k * 1 by simp [strs]; omega)
                    have HLD := Lib.hid (show (strs (os.drop k)).length = (os.length - k) * 1 by simp [strs])
                    have HCT := Lib.hid (strs_one (os.take k))
                    have HCD := Lib.hid (strs_one (os.drop k))
                    go_region_held3 (fun _ => True) (trivial)
                      (first
                        | (refine step_append_any _ (by rfl) _ _ _ (by rfl) wo.heap.size 9 i0 (.string .empty) 1 16 Tryz.underlying45 hi hz0 hz1 hz2 rfl (by decide) _ 0 [] (by rfl) ((emp_new wo.drew 9).alloc (.cells #[.string nm] 9)) ⟨g, 0, none⟩ k cp (strs (os.take k)) (by rfl) HLT.out (HNT.out _ (bl2 wo (.cells #[] 9) (.cells #[.string nm] 9))) HCT.out (by unfold maxLen; omega) (by omega) (bl2 wo (.cells #[] 9) (.cells #[.string nm] 9)).size ?_; intro v1 w2 ho1 hg1; have hb1 := below_app (bl2 wo (.cells #[] 9) (.cells #[.string nm] 9)) ((emp_new wo.drew 9).alloc (.cells #[.string nm] 9)) hg1 (bl2 wo (.cells #[] 9) (.cells #[.string nm] 9)).size; have c1 := keepA hg1)
                        | (refine step_append_any _ (by rfl) _ _ _ (by rfl) wo.heap.size 9 i0 (.string .empty) 1 16 Tryz.underlying45 hi hz0 hz1 hz2 rfl (by decide) _ 0 [] (by rfl) (emp_second wo.drew (.cells #[.string nm] 9) 9) ⟨g, 0, none⟩ k cp (strs (os.take k)) (by rfl) HLT.out (HNT.out _ (bl2 wo (.cells #[.string nm] 9) (.cells #[] 9))) HCT.out (by unfold maxLen; omega) (by omega) (bl2 wo (.cells #[.string nm] 9) (.cells #[] 9)).size ?_; intro v1 w2 ho1 hg1; have hb1 := below_app (bl2 wo (.cells #[.string nm] 9) (.cells #[] 9)) (emp_second wo.drew (.cells #[.string nm] 9) 9) hg1 (bl2 wo (.cells #[.string nm] 9) (.cells #[] 9)).size; have c1 := keepC hg1)
                        | (refine step_append_any _ (by rfl) _ _ _ (by rfl) wo.heap.size 9 i0 (.string .empty) 1 16 Tryz.underlying45 hi hz0 hz1 hz2 rfl (by decide) _ 0 [] (by rfl) (emp_new wo.drew 9) ⟨g, 0, none⟩ k cp (strs (os.take k)) (by rfl) HLT.out (HNT.out _ (bl1 wo (.cells #[] 9))) HCT.out (by unfold maxLen; omega) (by omega) (bl1 wo (.cells #[] 9)).size ?_; intro v1 w2 ho1 hg1; have hb1 := below_app (bl1 wo (.cells #[] 9)) (emp_new wo.drew 9) hg1 (bl1 wo (.cells #[] 9)).size)
                        | (refine step_append_any _ (by rfl) _ _ _ (by rfl) wo.heap.size 9 i0 (.string .empty) 1 16 Tryz.underlying45 hi hz0 hz1 hz2 rfl (by decide) _ (0 + k) _ (by rfl) ho1 ⟨wo.heap.size + 1, 0, none⟩ 1 1 [.string nm] (by rfl) rfl (one_news c1) (by simp [Value.oneCell']) (by unfold maxLen; omega) (by omega) hb1.size ?_; intro v2 w3 ho2 hg2; have hb2 := below_app hb1 ho1 hg2 hb1.size)
                        | (refine step_append_any _ (by rfl) _ _ _ (by rfl) wo.heap.size 9 i0 (.string .empty) 1 16 Tryz.underlying45 hi hz0 hz1 hz2 rfl (by decide) _ (0 + k) _ (by rfl) ho1 ⟨wo.heap.size, 0, none⟩ 1 1 [.string nm] (by rfl) rfl (one_news c1) (by simp [Value.oneCell']) (by unfold maxLen; omega) (by omega) hb1.size ?_; intro v2 w3 ho2 hg2; have hb2 := below_app hb1 ho1 hg2 hb1.size)
                        | (refine step_append_any _ (by rfl) _ _ _ (by rfl) wo.heap.size 9 i0 (.string .empty) 1 16 Tryz.underlying45 hi hz0 hz1 hz2 rfl (by decide) _ (0 + k) _ (by rfl) (ho1.alloc (.cells #[.string nm] 9)) ⟨w2.heap.size, 0, none⟩ 1 1 [.string nm] (by rfl) rfl (one_news (cell_new w2 (.string nm) 9)) (by simp [Value.oneCell']) (by unfold maxLen; omega) (by omega) (hb1.alloc hb1.size (.cells #[.string nm] 9)).size ?_; intro v2 w3 ho2 hg2; have hb2 := below_app (hb1.alloc hb1.size (.cells #[.string nm] 9)) (ho1.alloc (.cells #[.string nm] 9)) hg2 (hb1.alloc hb1.size (.cells #[.string nm] 9)).size)
                        | (refine step_append_any _ (by rfl) _ _ _ (by rfl) wo.heap.size 9 i0 (.string .empty) 1 16 Tryz.underlying45 hi hz0 hz1 hz2 rfl (by decide) _ (0 + k + 1) _ (by rfl) ho2 ⟨g, ko, none⟩ (os.length - k) (cp - k) (strs (os.drop k)) (by exact congrArg (fun a => Value.slice a (os.length - k) (cp - k)) HIF.out) HLD.out (HND.out _ hb2) HCD.out (by unfold maxLen; omega) (by omega) hb2.size ?_; intro v3 w4 ho3 hg3; have hb3 := below_app hb2 ho2 hg3 hb2.size)
                        | fail)
                    all_goals
                      obtain ⟨g3, c3, hv⟩ := Go.Joins.ownsRow_form ho3 (by omega)
                      have hil2 : (insN os nm).length = 0 + k + 1 + (os.length - k) := by rw [HI.out]; simp; omega
                      have h5 : w4.ownsRow w.heap.size 9 1 (.slice (some ⟨g3, 0, none⟩) (insN os nm).length c3) (insN os nm).length (strs (insN os nm)) := by
                        rw [hil2, ← hv, HI.out]
                        have h6 := World.ownsRow.mono ho3 HB.out.size
                        simpa [strs] using h6
                      have H5 := Lib.hid h5
                      have HV := Lib.hid (show v3 = .slice (some ⟨g3, 0, none⟩) (insN os nm).length c3 by rw [hil2]; exact hv)
                      have HB5 := Lib.hid (HB.out.trans (hb3.mono HB.out.size))
                      clear hv ho3 hg3 h5 ho2 hg2 hb2 hb3 ho1 hg1 hb1 hil2
                      first | clear c1 | skip
                      go_wp2_with fail
                      go_roundw
                      case rel => exact ⟨i + 1, g3, c3, by omega, by go_num, by rw [HS.out]; exact HV.out, by rw [HS.out, HV.out]; exact H5.out, HB5.out⟩
                      case measure => simp [intOf]; omega
      · obtain rfl : i = zs.length := by omega
        rw [HEND.out] at hown
        go_wp2_with fail
        go_ret2
        exact ⟨_, _, by rw [← HEND.out]; first | done | rfl, hown, hbel⟩
end Go.Proofs.YtmnlkcclcnnhmaaGreatDoor
