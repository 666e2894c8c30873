/- A block laid: the program's side. -/
import Derived.Test.YtenedmkjbmbapaaFitS
import Derived.Test.YtenedmkjbmbapaaShelf
import Derived.Lib.ConvBytes
import Derived.Deep.Onto
namespace Go.Proofs.Ytenedmkjbmbapaa
open Go.RowKit

def layR (xs ys : List ByteArray) (r c : Int) : List ByteArray := if fitsB xs ys r c = true then layF xs ys r.toNat c.toNat else []
/-- a block of bytes -/
structure LineAt (w : World) (g : Nat) (L : List UInt8) : Prop where
  cell : ∀ j (h : j < L.length), w.cell? ⟨g, j, none⟩ = some (.int .u8 (L[j].toNat : Int))
  free : ∀ j, j < L.length → w.frozen? ⟨g, j, none⟩ = false
theorem LineAt.dr {w w' : World} {g : Nat} {L : List UInt8} (h : LineAt w g L) (hd : Dr w w') : LineAt w' g L := by
  obtain ⟨n, rfl⟩ := hd
  exact ⟨h.cell, h.free⟩
theorem LineAt.set {w : World} {g k : Nat} {L : List UInt8} {b : UInt8} (h : LineAt w g L) (hk : k < L.length) : LineAt (w.setCell ⟨g, k, none⟩ (.int .u8 (b.toNat : Int))) g (L.set k b) := by
  refine ⟨fun j hj => ?_, fun j hj => ?_⟩
  · have hj2 : j < L.length := by simpa using hj
    by_cases e : j = k
    · subst e
      rw [List.getElem_set_self]
      exact World.cell?_setCell_same _ _ _ (h.cell j hk)
    · rw [List.getElem_set_ne (fun h => e h.symm), World.cell?_setCell_other _ _ _ _ (by simp)]
      exact h.cell j hj2
  · have hj2 : j < L.length := by simpa using hj
    rw [World.frozen?_setCell]
    exact h.free j hj2
theorem LineAt.new (w : World) (s : ByteArray) : LineAt (Lib.bytesWorld w 5 s) w.heap.size s.data.toList ∧ Below w.heap.size w (Lib.bytesWorld w 5 s) := by
  have hl : s.data.toList.length = s.size := by simp
  refine ⟨⟨fun j h => ?_, fun j h => ?_⟩, ⟨rfl, rfl, rfl, by rw [Lib.bytesWorld_size]; omega, fun k hk => Lib.bytesWorld_at_old _ _ _ _ hk⟩⟩
  · rw [Lib.bytesWorld_cell _ _ _ _ (by omega), List.getD_eq_getElem?_getD, List.getElem?_eq_getElem h]; rfl
  · have hn := Lib.bytesWorld_at_new w 5 s
    have hc : s.size ≤ (Lib.bytesCells w 5 s).size := by simp [Lib.bytesCells]
    simp [World.frozen?, hn]
    omega
set_option maxRecDepth 100000 in
set_option maxHeartbeats 8000000 in
theorem layBlock_any (a b : Option Addr) (ca cb : Nat) (xs ys : List ByteArray) (r c : Int) (w : World) (r1 : -10 ≤ r) (r2 : r ≤ 10) (c1 : -10 ≤ c) (c2 : c ≤ 10) (gx : gridB xs 5 = true) (gy : gridB ys 3 = true) (hx : Reads w a (strs xs)) (hy : Reads w b (strs ys)) :
    Calls Try.prog 76 #[.slice a xs.length ca, .agg #[.slice b ys.length cb], .int .i64 r, .int .i64 c] w fun e w' => ∃ ad cp, e = .returned (.tuple #[.slice ad (layR xs ys r c).length cp, .bool (fitsB xs ys r c)]) ∧
      w'.ownsRow w.heap.size 9 1 (.slice ad (layR xs ys r c).length cp) (layR xs ys r c).length (strs (layR xs ys r c)) ∧ Below w.heap.size w w' := by
  have B0 := Lib.hid (Go.Joins.below_alloc1 w (.cells #[.slice b ys.length cb] 45))
  have BX := Lib.hid (RowIs.new w 45 [.slice b ys.length cb])
  have HX := Lib.hid hx
  have HY := Lib.hid hy
  obtain ⟨x1, x2, x3⟩ := gridB_bd gx
  obtain ⟨y1, y2, y3⟩ := gridB_bd gy
  have HX3 := Lib.hid x3
  have HY3 := Lib.hid y3
  have sx := x3 0 (by omega)
  have sy := y3 0 (by omega)
  clear x3 y3 gx gy hx hy
  have HXo := HX.out
  have HYo := HY.out
  rcases HXo with h0 | ⟨bx, ox, rfl, hbx, hcx⟩
  · simp [strs] at h0; subst h0; simp at x1
  rcases HYo with h0 | ⟨by', oy, rfl, hby, hcy⟩
  · simp [strs] at h0; subst h0; simp at y1
  have hcell0 := (B0.out.cell (p := ⟨bx, ox, none⟩) hbx).trans (by simpa using hcx 0 _ (strs_get (show 0 < xs.length by omega)))
  have hcelly := (B0.out.cell (p := ⟨by', oy, none⟩) hby).trans (by simpa using hcy 0 _ (strs_get (show 0 < ys.length by omega)))
  obtain ⟨S0, hS0⟩ : ∃ s, s = xs[0] := ⟨_, rfl⟩
  obtain ⟨T0, hT0⟩ : ∃ s, s = ys[0] := ⟨_, rfl⟩
  rw [← hS0] at hcell0
  rw [← hT0] at hcelly
  have q0 : rowAt xs 0 = S0 := by rw [rowAt_of (by omega), hS0]
  have qy : rowAt ys 0 = T0 := by rw [rowAt_of (by omega), hT0]
  rw [q0] at sx
  rw [qy] at sy
  obtain ⟨_, sx1, sx2⟩ := sx
  obtain ⟨_, sy1, sy2⟩ := sy
  have Q0 := Lib.hid q0
  have QY := Lib.hid qy
  have HCX := Lib.hid hcx
  have HCY := Lib.hid hcy
  have hw1 : IntKind.i64.wrap (r + (ys.length : Int)) = r + (ys.length : Int) := small_in (by omega) (by omega)
  have hw2 : IntKind.i64.wrap (c + (T0.size : Int)) = c + (T0.size : Int) := small_in (by omega) (by omega)
  by_cases hin : 0 ≤ r ∧ r + (ys.length : Int) ≤ (xs.length : Int) ∧ 0 ≤ c ∧ c + (T0.size : Int) ≤ (S0.size : Int)
  rotate_left
  · have hF := Lib.hid (fits_no (xs := xs) (ys := ys) (r := r) (c := c) (by rw [Q0.out, QY.out]; exact hin))
    have hR := Lib.hid (show layR xs ys r c = [] by rw [layR, hF.out]; rfl)
    have hway : decide (r < 0) = true ∨ (decide (r < 0) = false ∧ decide (c < 0) = true) ∨ (decide (r < 0) = false ∧ decide (c < 0) = false ∧ decide ((xs.length : Int) < r + (ys.length : Int)) = true) ∨
        (decide (r < 0) = false ∧ decide (c < 0) = false ∧ decide ((xs.length : Int) < r + (ys.length : Int)) = false ∧ decide ((S0.size : Int) < c + (T0.size : Int)) = true) := by
      by_cases h1 : r < 0
      · left; exact decide_eq_true h1
      right
      by_cases h2 : c < 0
      · left; exact ⟨decide_eq_false h1, decide_eq_true h2⟩
      right
      by_cases h3 : (xs.length : Int) < r + (ys.length : Int)
      · left; exact ⟨decide_eq_false h1, decide_eq_false h2, decide_eq_true h3⟩
      right
      exact ⟨decide_eq_false h1, decide_eq_false h2, decide_eq_false h3, decide_eq_true (by omega)⟩
    have hcX := BX.out.cell (j := 0) rfl
    clear hin hcx hcy q0 qy hS0 hT0 hbx hby
    rw [hR.out, hF.out]
    rcases hway with h1 | ⟨h1, h2⟩ | ⟨h1, h2, h3⟩ | ⟨h1, h2, h3, h4⟩
    all_goals
      go_enter Try.func76, Try.ntmps76
      go_wp2_with fail
      go_quiet (fail)
      go_wp2_with fail
      go_ret2
      exact ⟨none, 0, rfl, World.ownsRow_nil _ _ _ _, B0.out.trans ((Dr.of _ _).below _)⟩
  obtain ⟨hr0, hr1, hc0, hc1⟩ := hin
  obtain ⟨R, rfl⟩ : ∃ R : Nat, r = (R : Int) := ⟨r.toNat, by omega⟩
  obtain ⟨C, rfl⟩ : ∃ C : Nat, c = (C : Int) := ⟨c.toNat, by omega⟩
  have hF := Lib.hid (fits_in (xs := xs) (ys := ys) (r := R) (c := C) (by omega) (by rw [Q0.out, QY.out]; omega))
  have hd1 : decide ((xs.length : Int) < (R : Int) + (ys.length : Int)) = false := decide_eq_false (by omega)
  have hd2 : decide ((S0.size : Int) < (C : Int) + (T0.size : Int)) = false := decide_eq_false (by omega)
  have hd3 : decide ((R : Int) < 0) = false := decide_eq_false (by omega)
  have hd4 : decide ((C : Int) < 0) = false := decide_eq_false (by omega)
  have hcX := BX.out.cell (j := 0) rfl
  have HCL := Lib.hid (fun w hc => Try.slices_Clone_string bx ox xs.length ca xs w (Nat.le_refl _) (by omega) hc)
  clear hcx hcy q0 qy hS0 hT0
  go_enter Try.func76, Try.ntmps76
  go_wp2_with fail
  go_quiet (fail)
  go_wp2_with fail
  refine (HCL.out _ (fun j hj => by
    have := (B0.out.cell (p := ⟨bx, ox + j, none⟩) hbx).trans (HCX.out j _ (strs_get hj))
    rw [List.getD_eq_getElem?_getD, List.getElem?_eq_getElem hj]; exact this)).mono ?_
  rintro e w1 ⟨v1, rfl, hown, _, hb⟩
  rw [List.take_of_length_le (Nat.le_refl _)] at hown
  obtain ⟨og, oc, rfl⟩ := Go.Joins.ownsRow_form hown (by omega)
  have HO1 : Hid (w1.ownsRow w.heap.size 9 1 (.slice (some ⟨og, 0, none⟩) xs.length oc) xs.length (strs (layTo xs ys R C 0))) := Lib.hid (by
    rw [layTo_zero]
    exact World.ownsRow.mono hown (by simp))
  have HB1 : Hid (Below w.heap.size w w1) := Lib.hid (B0.out.trans ((((Dr.of _ _).below _).trans (hb.mono (by simp))).mono B0.out.size))
  have HX1 : Hid (RowIs w1 w.heap.size 45 [.slice (some ⟨by', oy, none⟩) ys.length cb]) := Lib.hid ((BX.out.below ((Dr.of _ _).below _)).below hb)
  have hcX1 := HX1.out.cell (j := 0) rfl
  clear hd1 hd2 hd3 hd4 hw1 hw2 hcell0 hcelly hcX hown hb
  go_wp2_with fail
  clear hcX1
  go_loopw [50] (fun i wr => ∃ i0 : Nat, i0 ≤ ys.length ∧ i = .int .i64 i0 ∧ Hid (allB i0 (fun i => noDiffRow (rowAt xs (R + i)) (rowAt ys i) C) = true) ∧
    Hid (wr.ownsRow w.heap.size 9 1 (.slice (some ⟨og, 0, none⟩) xs.length oc) xs.length (strs (layTo xs ys R C i0))) ∧ Hid (Below w.heap.size w wr)) (fun i _ => ys.length - (intOf i).toNat)
  case atStart => exact ⟨0, Nat.zero_le _, rfl, allB_zero _, HO1, HB1⟩
  case round =>
    obtain ⟨i, hi, rfl, ht, HO, HBL⟩ := hrel
    by_cases hil : i < ys.length
    · have hix : R + i < xs.length := by omega
      have k1 := (HBL.out.cell (p := ⟨by', oy + i, none⟩) hby).trans (HCY.out i _ (strs_get hil))
      have k2 := (HBL.out.cell (p := ⟨bx, ox + (R + i), none⟩) hbx).trans (HCX.out (R + i) _ (strs_get hix))
      have s1 := HX3.out (R + i) hix
      have t1 := HY3.out i hil
      obtain ⟨S, hS⟩ : ∃ s, s = xs[R + i] := ⟨_, rfl⟩
      obtain ⟨T, hT⟩ : ∃ s, s = ys[i] := ⟨_, rfl⟩
      rw [← hT] at k1
      rw [← hS] at k2
      have q1 : rowAt xs (R + i) = S := by rw [rowAt_of hix, hS]
      have q2 : rowAt ys i = T := by rw [rowAt_of hil, hT]
      rw [q1, Q0.out] at s1
      rw [q2, QY.out] at t1
      obtain ⟨s2, s3, s4⟩ := s1
      obtain ⟨t2, t3, t4⟩ := t1
      have s5 : C + T.size ≤ S.size := by omega
      have Q1 := Lib.hid q1
      have Q2 := Lib.hid q2
      have HSUC := Lib.hid (layTo_succ xs ys R C i)
      obtain ⟨n1, hn1⟩ : ∃ n, n = R + i := ⟨_, rfl⟩
      have HN1 := Lib.hid hn1
      have hw1 : (R : Int) + (i : Int) = (n1 : Int) := by omega
      have n1l : (n1 : Int) < (xs.length : Int) := by omega
      have n10 : (0 : Int) ≤ (n1 : Int) := by omega
      rw [← hn1] at k2
      have hcv := Lib.run_convert_string_bytes (P := Try.prog) wr 9 42 5 S Try.underlying9 Try.underlying42 Try.underlying5
      obtain ⟨hla, hlb⟩ := LineAt.new wr S
      have HLA := Lib.hid hla
      have HLB := Lib.hid hlb
      clear q1 q2 s2 t2 hS hT hn1 hla hlb
      go_wp2_with fail
      obtain ⟨wo, rfl⟩ : ∃ wo : World, wo = wr := ⟨_, rfl⟩
      generalize Lib.bytesWorld wo 5 S = wB at *
      clear hcv k1 k2
      have hsz : S.data.toList.length = S.size := by simp
      have htz : T.data.toList.length = T.size := by simp
      have L0 : Hid (LineAt wB wo.heap.size (layL S.data.toList T.data.toList C 0)) := Lib.hid (by rw [layL_zero]; exact HLA.out)
      have HSZ := Lib.hid hsz
      have HTZ := Lib.hid htz
      clear hsz htz
      go_loopw [64] (fun k wi => ∃ k0 : Nat, k0 ≤ T.size ∧ k = .int .i64 k0 ∧ Hid (allB k0 (fun k => !diffB (chAt T k) (chAt S (C + k))) = true) ∧ Hid (LineAt wi wo.heap.size (layL S.data.toList T.data.toList C k0)) ∧ Hid (Below wo.heap.size wo wi)) (fun k _ => T.size - (intOf k).toNat)
      case atStart => exact ⟨0, Nat.zero_le _, rfl, allB_zero _, L0, HLB⟩
      case round =>
        obtain ⟨k, hk, rfl, hkt, HL, HBI⟩ := hrel
        by_cases hkl : k < T.size
        · have hkS : C + k < S.size := by omega
          obtain ⟨n2, hn2⟩ : ∃ n, n = C + k := ⟨_, rfl⟩
          have hw2 : IntKind.i64.wrap ((C : Int) + (k : Int)) = (n2 : Int) := by rw [small_in (by omega) (by omega)]; omega
          have hw3 : (C : Int) + (k : Int) = (n2 : Int) := by omega
          have n2l : n2 < S.size := by omega
          have n2i : (n2 : Int) < (S.size : Int) := by omega
          have n20 : (0 : Int) ≤ (n2 : Int) := by omega
          have k0i : (0 : Int) ≤ (k : Int) := by omega
          have kli : (k : Int) < (T.size : Int) := by omega
          have hlt2 : n2 < S.data.toList.length := by rw [HSZ.out]; exact n2l
          have hcl : wr.cell? ⟨wo.heap.size, n2, none⟩ = some (.int .u8 (S[n2].toNat : Int)) := by
            have := HL.out.cell n2 (by rw [layL_len]; exact hlt2)
            rw [layL_far hlt2 (by omega)] at this
            exact this
          have hfl := HL.out.free n2 (by rw [layL_len]; exact hlt2)
          have hdef := Lib.hid (show (!diffB (chAt T k) (chAt S (C + k))) = !(diffB S[n2].toNat T[k].toNat) by rw [← hn2, chAt_of hkl, chAt_of n2l, diffB_symm])
          have HDF := Lib.hid (fun w => differ_any S[n2].toNat T[k].toNat w)
          have HCN := Lib.hid hn2
          clear hn2
          cases hdf : diffB S[n2].toNat T[k].toNat
          rotate_left
          · have hP := Lib.hid (allB_no hkl (P := fun k => !diffB (chAt T k) (chAt S (C + k))) (by show (!diffB (chAt T k) (chAt S (C + k))) = false; rw [hdef.out, hdf]; rfl))
            rw [hdf] at HDF
            have HDG := Lib.hid HDF.out
            have hP2 := Lib.hid (allB_no (P := fun i => noDiffRow (rowAt xs (R + i)) (rowAt ys i) C) hil (show noDiffRow (rowAt xs (R + i)) (rowAt ys i) C = false by rw [Q1.out, Q2.out]; exact hP.out))
            have hR := Lib.hid (show layR xs ys R C = [] by rw [layR, hF.out, show noDiff xs ys R C = false from hP2.out]; rfl)
            clear hdf HDF
            go_wp2_with fail
            go_quiet ((go_at_call 81; exact quiet_same (HDG.out _)))
            go_wp2_with fail
            go_ret2
            exact ⟨none, 0, by rw [hF.out, show noDiff xs ys R C = false from hP2.out, hR.out]; rfl, by rw [hR.out]; exact World.ownsRow_nil _ _ _ _, HBL.out.trans ((HBI.out.trans ((Dr.of _ _).below _)).mono HBL.out.size)⟩
          have hP := Lib.hid (allB_step hkt.out (P := fun k => !diffB (chAt T k) (chAt S (C + k))) (by show (!diffB (chAt T k) (chAt S (C + k))) = true; rw [hdef.out, hdf]; rfl))
          rw [hdf] at HDF
          have HDG := Lib.hid HDF.out
          have huT : T.data.toList.getD k 0 = T[k] := ub_of hkl
          clear hdf HDF hdef
          by_cases hdot : T[k] = 46
          · have hd : ((T[k].toNat : Int) != 46) = false := by rw [hdot]; rfl
            have HLD := Lib.hid (layL_dot (x := S.data.toList) (c := C) (show T.data.toList.getD k 0 = 46 by rw [huT]; exact hdot))
            clear hdot huT
            go_wp2_with fail
            go_quiet ((go_at_call 81; exact quiet_same (HDG.out _)))
            go_wp2_with fail
            go_roundw
            case rel => exact ⟨k + 1, by omega, by go_num, hP, Lib.hid (by rw [HLD.out]; exact HL.out.dr (Dr.of _ _)), Lib.hid (HBI.out.trans ((Dr.of _ _).below _))⟩
            case measure => simp [intOf]; omega
          · have hd : ((T[k].toNat : Int) != 46) = true := by
              rw [bne_iff_ne]
              intro e
              exact hdot (UInt8.toNat_inj.1 (by show T[k].toNat = 46; omega))
            have HLD := Lib.hid (layL_put (x := S.data.toList) (c := C) (show T.data.toList.getD k 0 ≠ 46 by rw [huT]; exact hdot))
            rw [huT] at HLD
            have HLS := Lib.hid (fun n => LineAt.set (k := n2) (b := T[k]) (HL.out.dr (Dr.of wr n)) (by rw [layL_len]; exact hlt2))
            have HBS := Lib.hid (fun n => (HBI.out.trans ((Dr.of wr n).below _)).setCell (p := ⟨wo.heap.size, n2, none⟩) (Nat.le_refl _) (.int .u8 (T[k].toNat : Int)))
            clear hdot huT
            go_wp2_with fail
            go_quiet ((go_at_call 81; exact quiet_same (HDG.out _)))
            go_wp2_with fail
            go_roundw
            case rel => exact ⟨k + 1, by omega, by go_num, hP, Lib.hid (by rw [HLD.out, ← HCN.out]; exact HLS.out _), Lib.hid (HBS.out _)⟩
            case measure => simp [intOf]; omega
        · have hk2 : k = T.size := by omega
          have hP := Lib.hid (allB_step (P := fun i => noDiffRow (rowAt xs (R + i)) (rowAt ys i) C) ht.out (by show noDiffRow (rowAt xs (R + i)) (rowAt ys i) C = true; rw [Q1.out, Q2.out, noDiffRow, ← hk2]; exact hkt.out))
          obtain ⟨L, hL⟩ : ∃ L, L = layL S.data.toList T.data.toList C T.size := ⟨_, rfl⟩
          have hLl : L.length = S.size := by rw [hL, layL_len, HSZ.out]
          have hla := HL.out
          rw [hk2, ← hL] at hla
          have hcells : ∀ j (hj : j < L.length), wr.cell? ((⟨wo.heap.size, 0, none⟩ : Addr).add j) = some (.int .u8 (L[j].toNat : Int)) := fun j hj => by
            rw [show ((⟨wo.heap.size, 0, none⟩ : Addr).add j) = ⟨wo.heap.size, j, none⟩ from by simp [Addr.add]; omega]
            exact hla.cell j hj
          have hcv2 := run_convert_bytes_back (P := Try.prog) wr 42 9 5 ⟨wo.heap.size, 0, none⟩ (grownCap wo S.size 0 5) L Try.underlying42 Try.underlying5 Try.underlying9 hcells
          rw [hLl] at hcv2
          have hrow : (⟨L.toArray⟩ : ByteArray) = layRow (rowAt xs n1) (rowAt ys i) C := by rw [hL, HN1.out, Q1.out, Q2.out]; rfl
          obtain ⟨row, hrw⟩ : ∃ row, row = layRow (rowAt xs n1) (rowAt ys i) C := ⟨_, rfl⟩
          rw [← hrw] at hrow
          rw [hrow] at hcv2
          have HO2 := own_below HO.out HBI.out
          have hlen : (strs (layTo xs ys R C i)).length = xs.length := by simp [layTo_len]
          obtain ⟨old, hcc⟩ : ∃ old, wr.cell? ⟨og, n1, none⟩ = some old := by
            have hcc := HO2.cellAt n1 (by omega)
            rw [List.getElem?_eq_getElem (by rw [hlen]; omega)] at hcc
            exact ⟨_, hcc⟩
          have hff := HO2.frozenAt n1
          obtain ⟨h1, h2⟩ := HO2.stored n1 (.string row)
          have HO3 : Hid ((wr.setCell ⟨og, n1, none⟩ (.string row)).ownsRow w.heap.size 9 1 (.slice (some ⟨og, 0, none⟩) xs.length oc) xs.length (strs (layTo xs ys R C (i + 1)))) := Lib.hid (by
            rw [HSUC.out, ← HN1.out, ← hrw]
            have : strs ((layTo xs ys R C i).set n1 row) = (strs (layTo xs ys R C i)).set n1 (.string row) := by simp [strs, List.map_set]
            rw [this]; exact h1)
          have HB3 : Hid (Below w.heap.size w (wr.setCell ⟨og, n1, none⟩ (.string row))) := Lib.hid (by
            have hb := HBL.out.trans (HBI.out.mono HBL.out.size)
            exact hb.setCell (p := ⟨og, n1, none⟩) (HO2.lt og rfl).1 _)
          clear hk2 hL hLl hla hcells hrow hrw HO2 hlen h1 h2
          go_wp2_with fail
          go_roundw
          case rel => exact ⟨i + 1, by omega, by go_num, hP, HO3, HB3⟩
          case measure => simp [intOf]; omega
    · have hi2 : i = ys.length := by omega
      have hP := Lib.hid (show noDiff xs ys R C = true by rw [noDiff, ← hi2]; exact ht.out)
      have hR : layR xs ys R C = layTo xs ys R C i := by rw [layR, hF.out, hP.out, hi2]; rfl
      have hL := Lib.hid (show (layR xs ys R C).length = xs.length by rw [hR, layTo_len])
      have HR := Lib.hid hR
      clear hR
      go_wp2_with fail
      go_ret2
      exact ⟨_, _, by rw [hF.out, hP.out, hL.out]; rfl, by rw [hL.out, HR.out]; exact HO.out, HBL.out⟩
end Go.Proofs.Ytenedmkjbmbapaa
