/- FnSplitJoin: the law is true for every code: a text cut at a byte and joined again is the text, both joins answer alike, and LessString is never true both ways; the listed variables are tied to the program's text. -/
import Derived.Test.YtbgfdhghhaoabaaDoorFrame
import Derived.Test.YtbgfdhghhaoabaaDoorArgs
import Derived.Test.YtbgfdhghhaoabaaDoorTie
import Derived.Test.YtbgfdhghhaoabaaDoorCards
import Derived.Test.YtbgfdhghhaoabaaDoorArgC
import Derived.Test.YtbgfdhghhaoabaaDoorSplitLaw
import Derived.Test.YtbgfdhghhaoabaaDoorBoth
import Derived.SevenTiedAt
import Derived.Handed
import Derived.LaidLaws
import Derived.LaidMore
import Derived.Lay
namespace Go.Proofs.YtbgfdhghhaoabaaDoor
open Go.ChangeShapes Go.WideShapes Go.ChangeAt Go.RowKit
open Go.ChangeMaps (open_string shut_string)
set_option linter.unusedVariables false
set_option maxRecDepth 100000
theorem FnSplitJoin_door (os : Os) (args : Array Value) : laidMetH Tryd.prog Rows.fnSplitJoinRow.laid ((World.laidAll Tryd.prog os Rows.fnSplitJoinRow.laid).forCall (fun _ _ => 0) ⟨#[], args, []⟩).memory := by
  rw [MakeChecks.laidMetH_plain _ _ _ (by kernel_rfl)]; exact laidMet_laidAll _ (by kernel_rfl) (by kernel_rfl)
set_option maxRecDepth 100000 in
theorem FnSplitJoin_lifted (os : Os) (started : os.Started) (H : Type) (enc : TypeId × Value → H) :
    ReturnsInHanded {} Tryd.checked os 8 .any (fun w args => (Rows.fnSplitJoinSpec.pre enc Tryd.prog Tryd.f8 Rows.fnSplitJoinRow.domain false w args ∧ laidMetH Tryd.prog Rows.fnSplitJoinRow.laid w) ∧ sizedMet enc Tryd.prog Tryd.f8 (OpenSpec.ofChange Rows.fnSplitJoinSpec) false w args) (Rows.fnSplitJoinSpec.post enc Tryd.prog Tryd.f8 false true false false) := by
  refine handed_both (C := Tryd.checked) (X := fun w _ => laidMetH Tryd.prog Rows.fnSplitJoinRow.laid w) (fun _ _ _ hh h => h.of_heap hh) own started (by kernel_rfl) Tryd.func8
    (ChangeSpec.witness_shaped (enc := enc) (C := Tryd.checked) (os := os) (X := fun w _ => laidMetH Tryd.prog Rows.fnSplitJoinRow.laid w) false (World.laidAll Tryd.prog os Rows.fnSplitJoinRow.laid) #[.slice none 0 0] 8 (World.laidAll_os _ _ _) (World.shaped_of_ZipB (by kernel_rfl) (by kernel_rfl)) (by kernel_rfl) (by kernel_rfl) (by kernel_rfl) (FnSplitJoin_door os _)) ?_
  intro W base args ds gs before hval0 hW hL0 HSH
  have HL : laidMet Tryd.prog Rows.fnSplitJoinRow.laid W := by
    rw [MakeChecks.laidMetH_plain _ _ _ (by kernel_rfl)] at hL0
    exact hL0
  clear hL0
  have hval : ∀ (j : Nat) t v, Tryd.f8.params[j]? = some t → args[j]? = some v → Value.okWide Tryd.prog W .any base t v := hval0
  have hW' := hW
  obtain ⟨p, q, hA0, hV, rfl, hfz, hnd⟩ := hW
  have hA : DataW.TrodAll enc Tryd.prog W 0 (fun _ => true) true Tryd.f8.params.toList args.toList ds p := hA0
  rw [Tryd.params8] at hA hval
  obtain ⟨v0, vs0, d0, ds0, p0, q0, hargs, rfl, rfl, h0, r0⟩ := trodAll_cons hA
  obtain ⟨rfl, rfl, rfl⟩ := trodAll_nil r0
  obtain rfl : args = #[v0] := by cases args; simp_all
  obtain ⟨rfl, rfl⟩ := trodVars_none hV
  have k0 := h0
  have lt0 : ∀ x ∈ p0, x.block < W.heap.size := by obtain ⟨m, hm⟩ := k0; exact DataW.trod_lt m _ _ _ hm
  obtain ⟨a0, rfl, w0⟩ := arg_bytes (hval 0 35 v0 rfl rfl) k0
  clear hA0 hval0
  refine (FnSplitJoin_walk (w := W) HL HSH a0 w0).mono fun e W' ⟨he, bel⟩ => ?_
  subst he
  exact ⟨_, rfl, _, _, _, [], _, [], hW', trodAll_mk1 (shut_bool Tryd.underlying4 _), (trodAll_cons_mk (Below.trod laidOut (by kernel_rfl) (of_decide_eq_true (by kernel_rfl)) k0 bel lt0) trodAll_mk0), rfl, bel.frame _, fun h => by cases h⟩

theorem FnSplitJoin_holds : Rows.FnSplitJoinSaid :=
  OpenClaim.holds_of_wide 8 Tryd.f8 rfl rfl rfl rfl rfl rfl rfl ⟨rfl, rfl, rfl, rfl, rfl⟩ rfl rfl rfl rfl rfl (by kernel_rfl) Tryd.func8 (by kernel_rfl)
    (of_decide_eq_true (by kernel_rfl)) (by unfold Func.isWrapper; first | (rw [if_pos (by decide +kernel)]; kernel_rfl) | (rw [if_neg (by decide +kernel)]; exact ⟨rfl, rfl⟩))
    (fun os started H enc _ => FnSplitJoin_lifted os started H enc)

theorem FnSplitJoin_proved : Rows.FnSplitJoinCardSaid :=
  Claim7.holds_tied_plain_at .later [] [.data, .pinned] true (true, "9cab7f386af0b2415bded4790c7ff9bbe9325a9d5e3c5cbb0eace6304e0aefed") true
    FnSplitJoin_holds (fun _ h => by cases h) (by kernel_rfl) (fun _ h => by cases h) fnSplitJoin_row_tie rfl ⟨rfl, rfl⟩ (by kernel_rfl) rfl
    (fun f fn hf hfn => by
      obtain rfl : f = 8 := Option.some.inj ((show Tryd.prog.funcNamed "loop.example/g01062/laws.FnSplitJoin" = some 8 by kernel_rfl).symm.trans hf) |>.symm
      obtain rfl : fn = Tryd.f8 := (Option.some.inj (Tryd.func8.symm.trans hfn)).symm
      exact ⟨by kernel_rfl, fun j t ht => by
        rw [Tryd.params8] at ht
        have hm : t ∈ [35] := by simpa using Array.mem_of_getElem? ht
        have hall : ([35].all fun u => !Tryd.prog.wantsStandIn u) = true := by kernel_rfl
        exact (show Tryd.prog.wantsStandIn t = false by simpa using List.all_eq_true.1 hall t hm)⟩)
    (by kernel_rfl)
end Go.Proofs.YtbgfdhghhaoabaaDoor
