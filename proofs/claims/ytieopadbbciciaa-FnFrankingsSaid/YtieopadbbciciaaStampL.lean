/- The laws of IsStamp, AreStamps, IssuedBy, walked out of the contracts. -/
import Derived.Test.YtieopadbbciciaaStampA
import Derived.Test.YtieopadbbciciaaStampG
import Derived.Test.YtieopadbbciciaaStampC
import Derived.Test.YtieopadbbciciaaOwn
namespace Go.Proofs.Ytieopadbbciciaa
open Go.ChangeShapes Go.WideShapes Go.ChangeAt Go.RowKit

/-- one stamp by value -/
theorem arg_stamp {H : Type} {enc : TypeId × Value → H} {W : World} {base : Nat} {v : Value} {d : DataW H} {p : List MemPlace} (hv : Value.okWide Try.prog W .any base 55 v) (h : DataW.Trod enc Try.prog W 0 (fun _ => true) true 55 v d p) :
    ∃ c : StampT, v = c.val ∧ c.Fits := by
  obtain ⟨fs, hfs, _⟩ := laws_stamp_fields
  obtain ⟨cs, rfl, hsz⟩ := okWide_struct hfs hv
  obtain ⟨fuel, hf⟩ := h
  obtain ⟨c, hc, hfit⟩ := stamp_of_trod hf
  refine ⟨c, ?_, hfit⟩
  have : cs.toList = c.cells := by simpa [Value.cells] using hc
  show Value.agg cs = Value.agg _
  congr 1
  apply Array.ext'
  rw [this]; rfl

theorem specAreStamps_any (a : Option Addr) (cap : Nat) (zs : List StampT) (w : World) (hm : zs.length ≤ maxLen) (hr : Reads w a (stamps zs)) :
    Calls Try.prog 20 #[.slice a zs.length cap] w fun e w' => e = .returned (.bool (stampsOk zs)) ∧ Below w.heap.size w w' := by
  have H := Lib.hid (l2Stamps_any a cap zs w hm hr)
  clear hr
  go_enter Try.func20, Try.ntmps20
  go_wp2_with fail
  refine H.out.mono ?_
  rintro e w1 ⟨rfl, hb⟩
  go_wp2_with fail
  go_ret
  exact ⟨rfl, hb⟩
theorem implAreStamps_any (a : Option Addr) (cap : Nat) (zs : List StampT) (w : World) (hm : zs.length ≤ maxLen) (hr : Reads w a (stamps zs)) :
    Calls Try.prog 19 #[.slice a zs.length cap] w fun e w' => e = .returned (.bool (stampsOk zs)) ∧ Below w.heap.size w w' := by
  have H := Lib.hid (areStamps_any a cap zs w hm hr)
  clear hr
  go_enter Try.func19, Try.ntmps19
  go_wp2_with fail
  refine H.out.mono ?_
  rintro e w1 ⟨rfl, hb⟩
  go_wp2_with fail
  go_ret
  exact ⟨rfl, hb⟩
end Go.Proofs.Ytieopadbbciciaa
