/- A block laid: the reference's side. -/
import Derived.Test.YtenedmkjbmbapaaFitS
import Derived.Deep.AppendLies
namespace Go.Proofs.Ytenedmkjbmbapaa
open Go.RowKit

theorem extract_one {s : ByteArray} {k : Nat} (h : k < s.size) : s.extract k (k + 1) = ⟨#[ub s k]⟩ := by
  apply ByteArray.ext
  rw [ByteArray.data_extract]
  apply Array.ext'
  have h2 : k < s.data.toList.length := by rw [size_list]; exact h
  rw [Array.toList_extract, List.extract_eq_take_drop, List.drop_eq_getElem_cons h2, show k + 1 - k = 1 by omega]
  simp [ub, List.getD_eq_getElem?_getD, List.getElem?_eq_getElem h2]
theorem append_one (l : List UInt8) (u : UInt8) : (⟨l.toArray⟩ : ByteArray) ++ ⟨#[u]⟩ = ⟨(l ++ [u]).toArray⟩ := by
  apply ByteArray.ext
  rw [ByteArray.data_append]
  simp
theorem laySL_size (x y : List UInt8) (inn : Bool) (c m k : Nat) : (⟨(laySL x y inn c m k).toArray⟩ : ByteArray).size = k := by
  show (laySL x y inn c m k).toArray.size = k
  rw [List.size_toArray, laySL_len]
set_option maxRecDepth 100000 in
set_option maxHeartbeats 8000000 in
theorem l4Lay_any (a b : Option Addr) (ca cb : Nat) (xs ys : List ByteArray) (R C : Nat) (w : World) (gx : gridB xs 5 = true) (gy : gridB ys 3 = true) (hR : R + ys.length ≤ xs.length) (hC : C + (rowAt ys 0).size ≤ (rowAt xs 0).size) (hx : Reads w a (strs xs)) (hy : Reads w b (strs ys)) :
    Calls Try.prog 79 #[.slice a xs.length ca, .agg #[.slice b ys.length cb], .int .i64 (R : Int), .int .i64 (C : Int)] w fun e w' => ∃ ad cp, e = .returned (.slice ad xs.length cp) ∧
      w'.ownsRow w.heap.size 9 1 (.slice ad xs.length cp) xs.length (strs (layS xs ys R C xs.length)) ∧ Below w.heap.size w w' := by
  obtain ⟨i0, hi, hz0, hz1, hz2⟩ := info_parts info_string
  have B0 := Lib.hid (Go.Joins.below_alloc2 w (.cells #[.slice b ys.length cb] 45) (.cells #[] 9))
  have BX : Hid (RowIs ((w.alloc (.cells #[.slice b ys.length cb] 45)).alloc (.cells #[] 9)) w.heap.size 45 [.slice b ys.length cb]) := Lib.hid ((RowIs.new w 45 [.slice b ys.length cb]).alloc _)
  have hown0 : Hid (((w.alloc (.cells #[.slice b ys.length cb] 45)).alloc (.cells #[] 9)).ownsRow w.heap.size 9 1 (.slice (some ⟨w.heap.size + 1, 0, none⟩) 0 0) 0 []) := Lib.hid (by
    have := RowIs.owns (base := w.heap.size) (RowIs.new (w.alloc (.cells #[.slice b ys.length cb] 45)) 9 ([] : List Value)) (n := 0) (sz := 1) rfl (by unfold maxLen; omega) (by simp)
    simpa using this)
  have HX := Lib.hid hx
  have HY := Lib.hid hy
  obtain ⟨x1, x2, x3⟩ := gridB_bd gx
  obtain ⟨y1, y2, y3⟩ := gridB_bd gy
  have HX3 := Lib.hid x3
  have HY3 := Lib.hid y3
  have sx := x3 0 (by omega)
  have sy := y3 0 (by omega)
  clear x3 y3 gx gy hx hy
  have HXo := HX.out
  have HYo := HY.out
  rcases HXo with h0 | ⟨bx, ox, rfl, hbx, hcx⟩
  · simp [strs] at h0; subst h0; simp at x1
  rcases HYo with h0 | ⟨by', oy, rfl, hby, hcy⟩
  · simp [strs] at h0; subst h0; simp at y1
  have hcelly := hcy 0 _ (strs_get (show 0 < ys.length by omega))
  simp only [Nat.add_zero] at hcelly
  obtain ⟨T0, hT0⟩ : ∃ s, s = ys[0] := ⟨_, rfl⟩
  rw [← hT0] at hcelly
  have qy : rowAt ys 0 = T0 := by rw [rowAt_of (by omega), hT0]
  obtain ⟨S0, q0⟩ : ∃ s, rowAt xs 0 = s := ⟨_, rfl⟩
  rw [q0] at sx hC
  rw [qy] at sy hC
  obtain ⟨_, sx1, sx2⟩ := sx
  obtain ⟨_, sy1, sy2⟩ := sy
  have Q0 := Lib.hid q0
  have QY := Lib.hid qy
  have HCX := Lib.hid hcx
  have HCY := Lib.hid hcy
  have HCE := Lib.hid hcelly
  clear hcx hcy q0 qy hT0 hcelly
  go_enter Try.func79, Try.ntmps79
  go_wp2_with fail
  generalize hw0 : (w.alloc (.cells #[.slice (some ⟨by', oy, none⟩) ys.length cb] 45)).alloc (.cells #[] 9) = w0 at *
  go_loopw [9, 10] (fun v i wr => ∃ i0 : Nat, i0 ≤ xs.length ∧ i = .int .i64 i0 ∧ (∃ ad cp, v = .slice ad i0 cp) ∧ wr.ownsRow w.heap.size 9 1 v i0 (strs (layS xs ys R C i0)) ∧ RowIs wr w.heap.size 45 [.slice (some ⟨by', oy, none⟩) ys.length cb] ∧ Below w.heap.size w wr) (fun _ i _ => xs.length - (intOf i).toNat)
  case atStart => exact ⟨0, Nat.zero_le _, rfl, ⟨_, _, rfl⟩, by simpa [layS] using hown0.out, BX.out, B0.out⟩
  case round =>
    obtain ⟨i, hi2, rfl, ⟨ad, cp, rfl⟩, hown, hbox, hbel⟩ := hrel
    have HO := Lib.hid hown
    have HBOX := Lib.hid hbox
    have HBL := Lib.hid hbel
    have hlen := Lib.hid (layS_succ xs ys R C i)
    clear hown hbox
    by_cases hil : i < xs.length
    · have k2b := HCX.out i _ (strs_get hil)
      have s1 := HX3.out i hil
      obtain ⟨S, hS⟩ : ∃ s, s = xs[i] := ⟨_, rfl⟩
      rw [← hS] at k2b
      have q1 : rowAt xs i = S := by rw [rowAt_of hil, hS]
      rw [q1, Q0.out] at s1
      obtain ⟨s2, s3, s4⟩ := s1
      have hCS : C + T0.size ≤ S.size := by omega
      have Q1 := Lib.hid q1
      have K2b := Lib.hid k2b
      have i10 : (0 : Int) ≤ (i : Int) := by omega
      have i1l : (i : Int) < (xs.length : Int) := by omega
      obtain ⟨y, hy⟩ : ∃ y, y = (rowAt ys (i - R)).data.toList := ⟨_, rfl⟩
      obtain ⟨inn, hinn⟩ : ∃ inn, inn = decide (R ≤ i ∧ i < R + ys.length) := ⟨_, rfl⟩
      have HYY := Lib.hid hy
      have HIN := Lib.hid hinn
      clear hS q1 s2 k2b hy hinn hbel
      go_wp2_with fail
      obtain ⟨wo, rfl⟩ : ∃ wo : World, wo = wr := ⟨_, rfl⟩
      go_loop [11, 12] (fun s k => ∃ k0 : Nat, k0 ≤ S.size ∧ k = .int .i64 k0 ∧ s = .string ⟨(laySL S.data.toList y inn C T0.size k0).toArray⟩) (fun _ k => S.size - (intOf k).toNat)
      case atStart => exact ⟨0, Nat.zero_le _, rfl, rfl⟩
      case round =>
        obtain ⟨k, hk, rfl, rfl⟩ := hrel
        have k2 := (HBL.out.cell (p := ⟨bx, ox + i, none⟩) hbx).trans K2b.out
        by_cases hkl : k < S.size
        · have cX := HBOX.out.cell (j := 0) rfl
          have cY := (HBL.out.cell (p := ⟨by', oy, none⟩) hby).trans HCE.out
          have hex := extract_one hkl
          have hsz := laySL_size S.data.toList y inn C T0.size k
          have hap := fun u => append_one (laySL S.data.toList y inn C T0.size k) u
          have hNO := fun h => laySL_no (x := S.data.toList) (y := y) (inn := inn) (c := C) (m := T0.size) (k := k) h
          have hYES := fun h => laySL_yes (x := S.data.toList) (y := y) (inn := inn) (c := C) (m := T0.size) (k := k) h
          obtain ⟨acc, hacc⟩ : ∃ acc, acc = laySL S.data.toList y inn C T0.size k := ⟨_, rfl⟩
          rw [← hacc] at hsz hap hNO hYES ⊢
          have HAP := Lib.hid hap
          have HNO := Lib.hid hNO
          have HYES := Lib.hid hYES
          have hub : S.data.toList.getD k 0 = ub S k := rfl
          rw [hub] at HNO
          have k0i : (0 : Int) ≤ (k : Int) := by omega
          have hw3 : (k : Int) + 1 = ((k + 1 : Nat) : Int) := by omega
          obtain ⟨u, hu⟩ : ∃ u, u = ub S k := ⟨_, rfl⟩
          rw [← hu] at hex HNO
          have HU := Lib.hid hu
          clear hap hNO hYES hub hu hacc hw3
          cases hin : inB ((i : Int) - (R : Int)) 0 ((ys.length : Int) - 1)
          · have hif : inn = false := by
              rw [HIN.out, decide_eq_false_iff_not]
              intro q
              rw [inB_true.2 ⟨by omega, by omega⟩] at hin; cases hin
            have HS := Lib.hid (HNO.out (fun q => by rw [hif] at q; cases q.1))
            clear hif
            go_wp2_with (go_at_call 49; refine (l1In_any _ _ _ _).mono ?_; rintro e w' ⟨rfl, rfl⟩)
            go_round
            case rel => exact ⟨k + 1, by omega, by go_num, by rw [HS.out, ← HAP.out]⟩
            case measure => simp [intOf]; omega
          · obtain ⟨i1, i2⟩ := inB_true.1 hin
            obtain ⟨n1, hn1⟩ : ∃ n1 : Nat, (i : Int) - (R : Int) = (n1 : Int) := ⟨((i : Int) - (R : Int)).toNat, by omega⟩
            rw [hn1] at hin
            cases hin2 : inB ((k : Int) - (C : Int)) 0 ((T0.size : Int) - 1)
            · have hif : ¬ (C ≤ k ∧ k < C + T0.size) := fun q => by
                rw [inB_true.2 ⟨by omega, by omega⟩] at hin2; cases hin2
              have HS := Lib.hid (HNO.out (fun q => hif ⟨q.2.1, q.2.2.1⟩))
              clear hif
              go_wp2_with (go_at_call 49; refine (l1In_any _ _ _ _).mono ?_; rintro e w' ⟨rfl, rfl⟩)
              go_round
              case rel => exact ⟨k + 1, by omega, by go_num, by rw [HS.out, ← HAP.out]⟩
              case measure => simp [intOf]; omega
            · obtain ⟨j1, j2⟩ := inB_true.1 hin2
              obtain ⟨n2, hn2⟩ : ∃ n2 : Nat, (k : Int) - (C : Int) = (n2 : Int) := ⟨((k : Int) - (C : Int)).toNat, by omega⟩
              rw [hn2] at hin2
              by_cases hu : u = 46
              · have hu2 : (u == 46) = true := by rw [hu]; rfl
                have hn1l : n1 < ys.length := by omega
                have k3 := (HBL.out.cell (p := ⟨by', oy + n1, none⟩) hby).trans (HCY.out n1 _ (strs_get hn1l))
                have st := HY3.out n1 hn1l
                obtain ⟨T, hT⟩ : ∃ s, s = ys[n1] := ⟨_, rfl⟩
                rw [← hT] at k3
                have qT : rowAt ys n1 = T := by rw [rowAt_of hn1l, hT]
                rw [qT, QY.out] at st
                have st1 := st.1
                have hn2l : n2 < T.size := by omega
                have hex2 := extract_one hn2l
                have hyv : y.getD (k - C) 0 = ub T n2 := by rw [HYY.out, show i - R = n1 by omega, qT, show k - C = n2 by omega]; rfl
                have hif : inn = true := by rw [HIN.out, decide_eq_true_eq]; omega
                have HS := Lib.hid (HYES.out ⟨hif, by omega, by omega, by show ub S k = 46; rw [← HU.out]; exact hu⟩)
                rw [hyv] at HS
                obtain ⟨v, hv⟩ : ∃ v, v = ub T n2 := ⟨_, rfl⟩
                rw [← hv] at hex2 HS
                have n20 : (0 : Int) ≤ (n2 : Int) := by omega
                have n2i : (n2 : Int) + 1 ≤ (T.size : Int) := by omega
                have n1i : (n1 : Int) < (ys.length : Int) := by omega
                clear hT qT st hyv hif hv hu i1 i2 j1 j2
                go_wp2_with (go_at_call 49; refine (l1In_any _ _ _ _).mono ?_; rintro e w' ⟨rfl, rfl⟩)
                go_round
                case rel => exact ⟨k + 1, by omega, by go_num, by rw [HS.out, ← HAP.out]⟩
                case measure => simp [intOf]; omega
              · have hu2 : (u == 46) = false := by rw [beq_eq_false_iff_ne]; exact hu
                have HS := Lib.hid (HNO.out (fun q => hu q.2.2.2))
                clear hu
                go_wp2_with (go_at_call 49; refine (l1In_any _ _ _ _).mono ?_; rintro e w' ⟨rfl, rfl⟩)
                go_round
                case rel => exact ⟨k + 1, by omega, by go_num, by rw [HS.out, ← HAP.out]⟩
                case measure => simp [intOf]; omega
        · have hk2 : k = S.size := by omega
          obtain ⟨row, hrow⟩ : ∃ row : ByteArray, row = ⟨(laySL S.data.toList y inn C T0.size S.size).toArray⟩ := ⟨_, rfl⟩
          have HSUC : Hid (layS xs ys R C (i + 1) = layS xs ys R C i ++ [row]) := Lib.hid (by
            rw [hlen.out, hrow, HYY.out, HIN.out]
            simp only [Q1.out, QY.out])
          rw [hk2, ← hrow]
          clear hk2 hrow hk
          go_wp2_with (at_builtin; go_must (refine wpList_append_own _ rfl _ _ 31 rfl w.heap.size 9 i0 (.string .empty) 1 16 Try.underlying31 hi hz0 hz1 hz2 rfl (by decide) _ _ _ rfl (HO.out.alloc _) ⟨wo.heap.size, 0, none⟩ 1 1 [.string row] rfl rfl (World.news_of_block (cs := #[.string row]) (t := 9) (fr := (0, 0)) (heap_alloc_new _ _)) (by simp [Value.oneCell']) (by unfold maxLen; omega) (by omega) (Nat.le_trans HBL.out.size (by simp)) ?_))
          intro v' w3 hown3 hgrow3 _
          obtain ⟨g3, c3, hv⟩ := Go.Joins.ownsRow_form hown3 (by omega)
          have HO4 : Hid (w3.ownsRow w.heap.size 9 1 (.slice (some ⟨g3, 0, none⟩) (i + 1) c3) (i + 1) (strs (layS xs ys R C (i + 1)))) := Lib.hid (by
            rw [HSUC.out]; rw [hv] at hown3; simpa [strs] using hown3)
          have HB4 : Hid (Below w.heap.size w w3) := Lib.hid ((HBL.out.alloc HBL.out.size _).grown hgrow3 (Nat.le_trans HBL.out.size (by simp)) (fun q hq => (HO.out.lt q hq).1))
          have HX4 : Hid (RowIs w3 w.heap.size 45 [.slice (some ⟨by', oy, none⟩) ys.length cb]) := Lib.hid ((HBOX.out.alloc _).grown hgrow3 (fun e => own_row_ne HO.out HBOX.out (by decide) e.symm))
          rw [hv]
          clear hown3 hgrow3 hv
          go_wp2_with fail
          go_roundw
          case rel => exact ⟨i + 1, by omega, by go_num, ⟨_, _, rfl⟩, HO4.out, HX4.out, HB4.out⟩
          case measure => simp [intOf]; omega
    · obtain rfl : i = xs.length := by omega
      go_wp2_with fail
      go_ret
      exact ⟨_, _, rfl, HO.out, HBL.out⟩
end Go.Proofs.Ytenedmkjbmbapaa
