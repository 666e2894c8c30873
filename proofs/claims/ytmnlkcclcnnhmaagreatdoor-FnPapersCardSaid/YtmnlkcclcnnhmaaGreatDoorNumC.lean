/- FormatInt: the program's side through strconv.Itoa; the law's walk. -/
import Derived.Test.YtmnlkcclcnnhmaaGreatDoorNumS
import Derived.Test.YtmnlkcclcnnhmaaGreatDoorShelf
import Derived.Test.YtmnlkcclcnnhmaaGreatDoorFrame
import Derived.Stop.LaidErr
import Derived.Lib.LaidTab
import Derived.Lib.SmallJoins
import Derived.Lib.AppendIntMem
namespace Go.Proofs.YtmnlkcclcnnhmaaGreatDoor
open Go.RowKit

abbrev PowTab (w : World) : Prop := Lib.TabIs Tryz.prog w "internal/strconv.uint64pow10" .u64 Lib.pow10Tab
set_option maxRecDepth 100000 in
theorem itoa_any (n : Int) (h1 : -9223372036854775808 ≤ n) (h2 : n ≤ 9223372036854775807) (w : World) (htab : PowTab w) : Calls Tryz.prog 58 #[.int .i64 n] w fun e w' => e = .returned (.string (numF n)) ∧ Below w.heap.size w w' :=
  (Tryz.strconv_Itoa n h1 h2 w htab).mono fun _ _ ⟨he, k, os, hw⟩ => ⟨he, hw ▸ Lib.below_grow _ w (Nat.le_refl _) k os⟩
theorem PowTab.stays {w w' : World} {B : Nat} (h : PowTab w) (hb : Below B w w') (hB : w.heap.size ≤ B) : PowTab w' := Go.Joins.tab_stays (g := 3) (by kernel_rfl) h hb hB
theorem PowTab.dr {w w' : World} (h : PowTab w) (hb : Dr w w') : PowTab w' := by obtain ⟨k, rfl⟩ := hb; exact h
set_option maxRecDepth 100000 in
theorem powTab_of {x y : String × DataW Unit} {rest : List (String × DataW Unit)} {w : World} (h : laidMet Tryz.prog (x :: y :: ("internal/strconv.uint64pow10", Rows.laid_internal_strconv_uint64pow10) :: rest) w) : PowTab w :=
  Lib.tabIs_of_head (g := 3) (t := 131) (e := 61) (n := 20) (by kernel_rfl) (by kernel_rfl) Tryz.underlying131 Tryz.underlying61 (by kernel_rfl) (by kernel_rfl) (laidMet.tail (laidMet.tail h))
end Go.Proofs.YtmnlkcclcnnhmaaGreatDoor
