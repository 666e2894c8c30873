/- ParseInt: the program by strconv.Atoi; the law. -/
import Derived.Test.YtmnlkcclcnnhmaaGreatDoorReadS
namespace Go.Proofs.YtmnlkcclcnnhmaaGreatDoor
open Go.RowKit
theorem atoi_no (s : ByteArray) (hlim : s.size ≤ 281474976710656) (h : ∀ v, Lib.atoiAll s.data.toList ≠ .ok v) (w : World) (h1 : ErrVar w "strconv.ErrRange") (h2 : ErrVar w "strconv.ErrSyntax") :
    Calls Tryz.prog 61 #[.string s] w fun e w' => (∃ z N, e = .returned (.tuple #[.int .i64 z, .iface 108 (.pointer (some ⟨N, 0, none⟩))])) ∧ Below w.heap.size w w' := by
  obtain ⟨tp1, p1, v1⟩ := h1
  obtain ⟨tp2, p2, v2⟩ := h2
  cases hx : Lib.atoiAll s.data.toList with
  | ok v => exact absurd hx (h v)
  | range => exact (Tryz.strconv_Atoi_range_var s hlim hx tp1 p1 w v1).mono fun _ _ ⟨N, he, _, _, hb⟩ => ⟨⟨_, N, he⟩, hb⟩
  | _ => exact (Any.strconv_Atoi_syntax_var Tryz.laysC172 s hlim hx tp2 p2 w v2).mono fun _ _ ⟨N, he, _, _, hb⟩ => ⟨⟨_, N, he⟩, hb⟩
theorem atoi_ok (s : ByteArray) (hlim : s.size ≤ 1048576) {v : Int} (h : Lib.atoiAll s.data.toList = .ok v) (w : World) :
    Calls Tryz.prog 61 #[.string s] w fun e w' => e = .returned (.tuple #[.int .i64 v, .nilIface]) ∧ Below w.heap.size w w' :=
  (Tryz.strconv_Atoi_ok s (by omega) v h w).mono fun _ w' ⟨he, hw⟩ => ⟨he, by
    rcases hw with rfl | ⟨t, rfl⟩
    · exact Below.refl _ _
    · exact Lib.bytesWorld_below _ _ _⟩
set_option maxHeartbeats 800000 in
set_option maxRecDepth 100000 in
theorem implParse_any (s : ByteArray) (w : World) (hm : s.size ≤ 1048576) (htab : PowTab w) (h1 : ErrVar w "strconv.ErrRange") (h2 : ErrVar w "strconv.ErrSyntax") : Calls Tryz.prog 34 #[.string s] w fun e w' => e = .returned (.tuple #[.int .i64 (readR s).1, .bool (readR s).2]) ∧ Below w.heap.size w w' := by
  by_cases hok : ∃ v, Lib.atoiAll s.data.toList = .ok v
  · obtain ⟨v, hv⟩ := hok
    have HA := Lib.hid (atoi_ok s hm hv w)
    have hr := read_atoi_ok hv
    have HI := Lib.hid (fun w => inRange_any v (-999999) 999999 w)
    clear h1 h2 hv
    cases el : inB v (-999999) 999999
    · rw [if_neg (by rw [el]; simp)] at hr
      rw [el] at HI
      have HR := Lib.hid hr
      clear hr el htab
      go_enter Tryz.func34, Tryz.ntmps34
      go_wp2_with (first | (go_at_call 61; refine HA.out.mono ?_; rintro e w' ⟨rfl, hb⟩) | (go_at_call 50; refine (HI.out _).mono ?_; rintro e w' ⟨rfl, rfl⟩))
      go_ret2
      exact ⟨ret_pair HR.out, hb⟩
    obtain ⟨b1, b2⟩ := inB_true.1 el
    have HN : Hid (∀ w', Below w.heap.size w w' → Calls Tryz.prog 58 #[.int .i64 v] w' fun e w'' => e = .returned (.string (numF v)) ∧ Below w'.heap.size w' w'') := Lib.hid (fun w' hb => itoa_any v (by omega) (by omega) w' (htab.stays hb (Nat.le_refl _)))
    rw [el] at HI
    clear htab b1 b2
    by_cases hq : numF v = s
    · rw [if_pos ⟨el, hq⟩] at hr
      have HR := Lib.hid hr
      have hbq := str_beq hq
      clear hr el hq
      generalize numF v = t at *
      go_enter Tryz.func34, Tryz.ntmps34
      go_wp2_with (first | (go_at_call 61; refine HA.out.mono ?_; rintro e w' ⟨rfl, hb⟩) | (go_at_call 50; refine (HI.out _).mono ?_; rintro e w' ⟨rfl, rfl⟩) | (go_at_call 58; refine (HN.out _ hb).mono ?_; rintro e w'' ⟨rfl, hb2⟩))
      go_ret2
      exact ⟨ret_pair HR.out, hb.trans (hb2.mono hb.size)⟩
    · rw [if_neg (fun h => hq h.2)] at hr
      have HR := Lib.hid hr
      have hbq := str_bne hq
      clear hr el hq
      generalize numF v = t at *
      go_enter Tryz.func34, Tryz.ntmps34
      go_wp2_with (first | (go_at_call 61; refine HA.out.mono ?_; rintro e w' ⟨rfl, hb⟩) | (go_at_call 50; refine (HI.out _).mono ?_; rintro e w' ⟨rfl, rfl⟩) | (go_at_call 58; refine (HN.out _ hb).mono ?_; rintro e w'' ⟨rfl, hb2⟩))
      go_ret2
      exact ⟨ret_pair HR.out, hb.trans (hb2.mono hb.size)⟩
  · have hno : ∀ v, Lib.atoiAll s.data.toList ≠ .ok v := fun v h => hok ⟨v, h⟩
    have HA := Lib.hid (atoi_no s (by omega) hno w h1 h2)
    have HR := Lib.hid (read_atoi_no hno)
    clear hok hno htab h1 h2
    go_enter Tryz.func34, Tryz.ntmps34
    go_wp2_with (go_at_call 61; refine HA.out.mono ?_; rintro e w' ⟨⟨z, N, rfl⟩, hb⟩)
    go_ret2
    exact ⟨ret_pair HR.out, hb⟩
end Go.Proofs.YtmnlkcclcnnhmaaGreatDoor
