/- FormatInt: the program's side through strconv.Itoa; the law's walk. -/
import Derived.Test.YtbgfdhghhaoabaaDoorNumS
import Derived.Test.YtbgfdhghhaoabaaDoorShelf
import Derived.Test.YtbgfdhghhaoabaaDoorFrame
import Derived.Stop.LaidErr
import Derived.Lib.LaidTab
import Derived.Lib.SmallJoins
import Derived.Lib.AppendIntMem
namespace Go.Proofs.YtbgfdhghhaoabaaDoor
open Go.RowKit

abbrev PowTab (w : World) : Prop := Lib.TabIs Tryd.prog w "internal/strconv.uint64pow10" .u64 Lib.pow10Tab
set_option maxRecDepth 100000 in
theorem itoa_any (n : Int) (h1 : -9223372036854775808 ≤ n) (h2 : n ≤ 9223372036854775807) (w : World) (htab : PowTab w) : Calls Tryd.prog 38 #[.int .i64 n] w fun e w' => e = .returned (.string (numF n)) ∧ Below w.heap.size w w' :=
  (Tryd.strconv_Itoa n h1 h2 w htab).mono fun _ _ ⟨he, k, os, hw⟩ => ⟨he, hw ▸ Lib.below_grow _ w (Nat.le_refl _) k os⟩
theorem PowTab.stays {w w' : World} {B : Nat} (h : PowTab w) (hb : Below B w w') (hB : w.heap.size ≤ B) : PowTab w' := Go.Joins.tab_stays (g := 3) (by kernel_rfl) h hb hB
theorem PowTab.dr {w w' : World} (h : PowTab w) (hb : Dr w w') : PowTab w' := by obtain ⟨k, rfl⟩ := hb; exact h
set_option maxRecDepth 100000 in
theorem powTab_of {x y : String × DataW Unit} {rest : List (String × DataW Unit)} {w : World} (h : laidMet Tryd.prog (x :: y :: ("internal/strconv.uint64pow10", Rows.laid_internal_strconv_uint64pow10) :: rest) w) : PowTab w :=
  Lib.tabIs_of_head (g := 3) (t := 104) (e := 57) (n := 20) (by kernel_rfl) (by kernel_rfl) Tryd.underlying104 Tryd.underlying57 (by kernel_rfl) (by kernel_rfl) (laidMet.tail (laidMet.tail h))
set_option maxHeartbeats 400000 in
set_option maxRecDepth 100000 in
theorem implFormat_any (n : Int) (w : World) (htab : PowTab w) : Calls Tryd.prog 11 #[.int .i64 n] w fun e w' => e = .returned (.tuple #[.string (if inB n (-999999) 999999 then numF n else .empty), .bool (inB n (-999999) 999999)]) ∧ Below w.heap.size w w' := by
  have HI := Lib.hid (fun w => inRange_any n (-999999) 999999 w)
  cases h : inB n (-999999) 999999
  · rw [h] at HI
    simp only [Bool.false_eq_true, if_false]
    clear h htab
    go_enter Tryd.func11, Tryd.ntmps11
    go_wp2_with (go_at_call 37; refine (HI.out _).mono ?_; rintro e w' ⟨rfl, rfl⟩)
    go_ret2
    exact ⟨rfl, Below.refl _ _⟩
  · obtain ⟨l1, l2⟩ := inB_true.1 h
    have HN := Lib.hid (itoa_any n (by omega) (by omega) w htab)
    rw [h] at HI
    simp only [if_true]
    clear h htab
    go_enter Tryd.func11, Tryd.ntmps11
    go_wp2_with (first | (go_at_call 37; refine (HI.out _).mono ?_; rintro e w' ⟨rfl, rfl⟩) | (go_at_call 38; refine HN.out.mono ?_; rintro e w' ⟨rfl, hb⟩))
    go_ret2
    exact ⟨rfl, hb⟩
set_option maxHeartbeats 400000 in
set_option maxRecDepth 100000 in
theorem FnExactFormatInt_walk {w : World} (HL : laidMet Tryd.prog Rows.fnExactFormatIntRow.laid w) (n : Int) (_ : (Lit.int .i64 n).wf = true) : Calls Tryd.prog 3 #[.int .i64 n] w fun e w' => e = .returned (.bool true) ∧ Below w.heap.size w w' := by
  have HT := Lib.hid (powTab_of HL)
  have HS := Lib.hid (specFormat_any n w)
  have HM : Hid (∀ w', Dr w w' → Calls Tryd.prog 11 #[.int .i64 n] w' fun e w'' => e = .returned (.tuple #[.string (if inB n (-999999) 999999 then numF n else .empty), .bool (inB n (-999999) 999999)]) ∧ Below w'.heap.size w' w'') := Lib.hid (fun w' hd => implFormat_any n w' (HT.out.dr hd))
  clear HL
  generalize (if inB n (-999999) 999999 then numF n else .empty) = r at HS HM
  generalize inB n (-999999) 999999 = b at HS HM
  go_enter Tryd.func3, Tryd.ntmps3
  go_wp2_with (first | (go_at_call 10; refine HS.out.mono ?_; rintro e w' ⟨rfl, hd⟩) | (go_at_call 11; refine (HM.out _ hd).mono ?_; rintro e w'' ⟨rfl, hb⟩))
  go_ret
  exact ⟨rfl, (hd.below _).trans (hb.mono (hd.below 0).size)⟩
end Go.Proofs.YtbgfdhghhaoabaaDoor
