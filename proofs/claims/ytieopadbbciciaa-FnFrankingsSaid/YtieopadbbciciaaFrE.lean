/- DrawValueOf. -/
import Derived.Test.YtieopadbbciciaaFrD
namespace Go.Proofs.Ytieopadbbciciaa
open Go.RowKit

set_option maxRecDepth 100000 in
set_option maxHeartbeats 4000000 in
theorem drawValue_any (a : Option Addr) (cap : Nat) (cs : List Int) (w : World) (hm : cs.length ≤ maxLen) (hr : Reads w a (bytesV cs)) (hz : ∀ z ∈ cs, 0 ≤ z ∧ z ≤ 255) :
    Calls Try.prog 27 #[.slice a cs.length cap] w fun e w' => ∃ (ad : Option Addr) (cp : Nat) (zs : List StampT) (bd : Option Addr) (bp : Nat) (ys : List Int), e = .returned (.tuple #[.slice ad zs.length cp, .slice bd ys.length bp]) ∧ StR w' ad cp zs ∧ ys.length ≤ 100 ∧ Reads w' bd (ints ys) ∧ Below w.heap.size w w' := by
  obtain ⟨i0, hi, hz0, hz1, hz2⟩ := info_parts info_int
  have HC := Lib.hid (cur_newT cap hm hr hz)
  have HS := Lib.hid (fun w g n h hn => stamps_any g n w h hn)
  have HP := Lib.hid (fun w g n m h hn h1 h2 => pick_any g n m w h hn h1 h2)
  have HAM := Lib.hid (fun (L : Int) w g n h hn => among_lit g n [0, -1, L] w h hn (by simp) (by simp) #[.int .i64 0, .int .i64 (-1), .int .i64 L] rfl 3 rfl)
  have HMO := Lib.hid (fun a b w => l1Most_any a b w)
  have HB0 : Hid (∀ w', (w.alloc (.cells #[.slice a cs.length cap, .int .i64 0, .int .u64 0] 65)).grownBy w' (some w.heap.size) → Below w.heap.size w w') := Lib.hid (fun w' h => below_curT h)
  have hs0 : (w.alloc (.cells #[.slice a cs.length cap, .int .i64 0, .int .u64 0] 65)).heap.size = w.heap.size + 1 := by simp
  clear hr hz
  go_enter Try.func27, Try.ntmps27
  go_wp2_with fail
  generalize w.alloc (.cells #[.slice a cs.length cap, .int .i64 0, .int .u64 0] 65) = w0 at *
  have hlt := HC.out.lt
  refine (HS.out _ _ 0 HC.out (by omega)).mono ?_
  intro e w1 hd
  obtain ⟨ad, cp, zs, rfl, hl13, hls⟩ := hd.ls hlt
  have hg1 : w.heap.size < w1.heap.size := by have := hls.grown.size; omega
  have HRD := Lib.hid (own_reads hls.own)
  have HCP := Lib.hid (own_capS hls.own)
  have HFAR : Hid (∀ q, ad = some q → q.block ≠ w.heap.size) := Lib.hid (fun q hq => by have := (hls.own.lt q.block (by rw [hq]; rfl)).1; omega)
  have HG1 := Lib.hid hls.grown
  have HL0 := Lib.hid (LsI.fresh (w := w1) hls.cur hg1 (⟨rfl, rfl, rfl, Nat.le_refl _, fun _ _ _ => rfl⟩ : w1.grownBy w1 (some w.heap.size)))
  have HFIN : Hid (∀ (wr : World) (n : Nat) (bd : Option Addr) (bp : Nat) (ys : List Int), LsI w1 wr w.heap.size n (.slice bd ys.length bp) ys → ys.length ≤ 100 → StR wr ad cp zs ∧ ys.length ≤ 100 ∧ Reads wr bd (ints ys) ∧ Below w.heap.size w wr) := Lib.hid (fun wr n bd bp ys h h2 =>
    ⟨⟨hl13, HCP.out, HRD.out.grown h.grown (fun q hq e => by have := HFAR.out q hq; injection e with e; exact this e)⟩, h2, own_reads h.own, HB0.out _ (grownBy_trans HG1.out h.grown)⟩)
  clear hd hls hs0 hlt
  go_wp2_with fail
  go_loopw [6, 7] (fun v iv wr => ∃ (k : Nat) (ys : List Int), k ≤ zs.length ∧ iv = .int .i64 k ∧ ys.length ≤ 2 * k ∧ LsI w1 wr w.heap.size (120 + 2 * k) v ys) (fun _ iv _ => zs.length - (intOf iv).toNat)
  case atStart => exact ⟨0, [], by omega, rfl, by simp, HL0.out⟩
  case round =>
    obtain ⟨k, ys, hk, rfl, hyl, hls⟩ := hrel
    obtain ⟨bd, bp, rfl⟩ := hls.form
    have HL := Lib.hid hls
    clear hls HL0
    by_cases hlt : k < zs.length
    · have hd1 : decide (k < zs.length) = true := by simpa using hlt
      obtain ⟨wo, rfl⟩ : ∃ wo, wo = wr := ⟨wr, rfl⟩
      go_wp2_with fail
      refine (HP.out _ _ _ 3 HL.out.cur (by omega) (by omega) (by omega)).mono ?_
      rintro e w2 ⟨p, rfl, ⟨p1, p2⟩, hc, hg⟩
      obtain ⟨p, rfl⟩ : ∃ m : Nat, p = (m : Int) := ⟨p.toNat, by omega⟩
      have HL2 := Lib.hid (HL.out.step hc hg)
      clear hc hg
      go_wp2_with fail
      go_loopw [6, 8] (fun v iv wr => ∃ (r : Nat) (us : List Int), r ≤ p ∧ iv = .int .i64 r ∧ Hid (us.length + r ≤ ys.length + p) ∧ LsI w1 wr w.heap.size (120 + 2 * k + 2) v us) (fun _ iv _ => (intOf iv).toNat)
      case atStart => exact ⟨p, ys, by omega, rfl, Lib.hid (by omega), HL2.out⟩
      case round =>
        obtain ⟨r, us, hr, rfl, hul, hls⟩ := hrel
        obtain ⟨bd2, bp2, rfl⟩ := hls.form
        have HM := Lib.hid hls
        have hu30 : us.length ≤ 60 := by have := hul.out; omega
        clear hls
        by_cases hrp : 0 < r
        · have hd2 : decide ((0 : Int) < (r : Int)) = true := by simp; omega
          go_wp2_with (at_builtin; go_must (refine wpList_append_own _ rfl _ _ 24 rfl w1.heap.size 3 i0 (.int .i64 0) 1 8 Try.underlying24 hi hz0 hz1 hz2 rfl (by decide) _ _ _ rfl (HM.out.own.alloc _) ⟨wr.heap.size, 0, none⟩ 1 1 [.int .i64 (k : Int)] rfl rfl (World.news_of_block (cs := #[.int .i64 (k : Int)]) (t := 3) (fr := (0, 0)) (heap_alloc_new _ _)) (by simp [Value.oneCell']) (by show us.length + 1 ≤ maxLen; unfold maxLen; omega) (show (us.length + 1) * 8 ≤ 140737488355328 by omega) (Nat.le_trans HM.out.grown.size (by simp)) ?_))
          intro v' w9 hown9 hgrow9 _
          have HN8 := Lib.hid (HM.out.app hown9 hgrow9)
          obtain ⟨ad9, cp9, hv⟩ := HN8.out.form
          rw [len_snocI] at hv
          have HM5 := Lib.hid (hv ▸ HN8.out)
          rw [hv]
          clear hown9 hgrow9 hv HN8
          go_wp2_with fail
          go_roundw
          case rel => exact ⟨r - 1, us ++ [(k : Int)], by omega, by go_num, Lib.hid (by rw [len_snocI]; have := hul.out; omega), HM5.out⟩
          case measure => simp [intOf]; omega
        · obtain rfl : r = 0 := by omega
          have hu2 : us.length ≤ 2 * (k + 1) := by have := hul.out; omega
          go_wp2_with fail
          go_roundw
          case rel => exact ⟨k + 1, us, by omega, by go_num, hu2, HM.out.mono (by omega)⟩
          case measure => simp [intOf]; omega
    · have hd1 : decide (k < zs.length) = false := by simpa using hlt
      have hy26 : ys.length ≤ 26 := by omega
      go_wp2_with fail
      refine (HP.out _ _ _ 16 HL.out.cur (by omega) (by omega) (by omega)).mono ?_
      rintro e w2 ⟨x, rfl, ⟨x1, x2⟩, hc, hg⟩
      have HL2 := Lib.hid (HL.out.step hc hg)
      clear hc hg
      rcases (show x = 0 ∨ x = 1 ∨ 2 ≤ x by omega) with rfl | rfl | hx
      · have q0 : ((0 : Int) == 0) = true := rfl
        go_wp2_with fail
        refine (HAM.out (zs.length : Int) _ _ _ HL2.out.cur (by omega)).mono ?_
        rintro e w3 ⟨y, rfl, _, hc, hg⟩
        have HL3 := Lib.hid (HL2.out.step hc hg)
        clear hc hg
        go_wp2_with (at_builtin; go_must (refine wpList_append_own _ rfl _ _ 24 rfl w1.heap.size 3 i0 (.int .i64 0) 1 8 Try.underlying24 hi hz0 hz1 hz2 rfl (by decide) _ _ _ rfl (HL3.out.own.alloc _) ⟨w3.heap.size, 0, none⟩ 1 1 [.int .i64 y] rfl rfl (World.news_of_block (cs := #[.int .i64 y]) (t := 3) (fr := (0, 0)) (heap_alloc_new _ _)) (by simp [Value.oneCell']) (by show ys.length + 1 ≤ maxLen; unfold maxLen; omega) (show (ys.length + 1) * 8 ≤ 140737488355328 by omega) (Nat.le_trans HL3.out.grown.size (by simp)) ?_))
        intro v' w9 hown9 hgrow9 _
        have HN8 := Lib.hid (HL3.out.app hown9 hgrow9)
        obtain ⟨ad9, cp9, hv⟩ := HN8.out.form
        rw [len_snocI] at hv
        have HM5 := Lib.hid (hv ▸ HN8.out)
        rw [hv]
        clear hown9 hgrow9 hv HN8
        have HD := Lib.hid (HFIN.out _ _ _ _ (ys ++ [y]) (by rw [len_snocI]; exact HM5.out) (by rw [len_snocI]; omega))
        rw [len_snocI] at HD
        go_wp2_with fail
        go_ret2
        exact ⟨_, _, zs, ad9, cp9, ys ++ [y], by rw [len_snocI]; rfl, by rw [len_snocI]; exact HD.out⟩
      · have q0 : ((1 : Int) == 0) = false := rfl
        have q1 : ((1 : Int) == 1) = true := rfl
        go_wp2_with fail
        go_loopw [6] (fun v wr => ∃ us : List Int, us.length ≤ 41 ∧ LsI w1 wr w.heap.size (160 + 2 * us.length) v us) (fun v _ => 42 - lenOf v)
        case atStart => exact ⟨ys, by omega, HL2.out.mono (by omega)⟩
        case round =>
          obtain ⟨us, hu, hls⟩ := hrel
          obtain ⟨bd2, bp2, rfl⟩ := hls.form
          have HM := Lib.hid hls
          clear hls HL2 HL
          go_wp2_with fail
          refine (HP.out _ _ _ 2 HM.out.cur (by omega) (by omega) (by omega)).mono ?_
          rintro e w3 ⟨y, rfl, ⟨y1, y2⟩, hc, hg⟩
          have HL3 := Lib.hid (HM.out.step hc hg)
          clear hc hg
          by_cases hlt2 : (us.length : Int) < 40 + y
          · have hd2 : decide ((us.length : Int) < 40 + y) = true := by simpa using hlt2
            go_wp2_with fail
            refine (HMO.out _ _ _).mono ?_
            rintro e _ ⟨rfl, rfl⟩
            obtain ⟨mo, hmo⟩ : ∃ m, m = max (0 : Int) ((zs.length : Int) - 1) := ⟨_, rfl⟩
            rw [← hmo]
            clear hmo
            go_wp2_with (at_builtin; go_must (refine wpList_append_own _ rfl _ _ 24 rfl w1.heap.size 3 i0 (.int .i64 0) 1 8 Try.underlying24 hi hz0 hz1 hz2 rfl (by decide) _ _ _ rfl (HL3.out.own.alloc _) ⟨w3.heap.size, 0, none⟩ 1 1 [.int .i64 mo] rfl rfl (World.news_of_block (cs := #[.int .i64 mo]) (t := 3) (fr := (0, 0)) (heap_alloc_new _ _)) (by simp [Value.oneCell']) (by show us.length + 1 ≤ maxLen; unfold maxLen; omega) (show (us.length + 1) * 8 ≤ 140737488355328 by omega) (Nat.le_trans HL3.out.grown.size (by simp)) ?_))
            intro v' w9 hown9 hgrow9 _
            have HN8 := Lib.hid (HL3.out.app hown9 hgrow9)
            obtain ⟨ad9, cp9, hv⟩ := HN8.out.form
            rw [len_snocI] at hv
            have HM5 := Lib.hid (hv ▸ HN8.out)
            rw [hv]
            clear hown9 hgrow9 hv HN8
            have HLN := Lib.hid (len_snocI us mo)
            go_wp2_with fail
            go_roundw
            case rel => exact ⟨us ++ [mo], by rw [HLN.out]; omega, HM5.out.mono (by rw [HLN.out]; omega)⟩
            case measure => simp [lenOf]; omega
          · have hd2 : decide ((us.length : Int) < 40 + y) = false := by simpa using hlt2
            have HD := Lib.hid (HFIN.out _ _ _ _ us HL3.out (by omega))
            go_wp2_with fail
            go_ret2
            exact ⟨_, _, zs, _, _, us, rfl, HD.out⟩
      · have q0 : (x == 0) = false := by rw [beq_eq_false_iff_ne]; omega
        have q1 : (x == 1) = false := by rw [beq_eq_false_iff_ne]; omega
        have HD := Lib.hid (HFIN.out _ _ _ _ ys HL2.out (by omega))
        go_wp2_with fail
        go_ret2
        exact ⟨_, _, zs, _, _, ys, rfl, HD.out⟩
end Go.Proofs.Ytieopadbbciciaa
