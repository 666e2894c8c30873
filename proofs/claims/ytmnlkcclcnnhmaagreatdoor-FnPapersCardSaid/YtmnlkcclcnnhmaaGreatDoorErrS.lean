/- The two listed error variables of strconv, opened. -/
import Derived.Test.YtmnlkcclcnnhmaaGreatDoorFrame
import Derived.Test.YtmnlkcclcnnhmaaGreatDoorNumC
import Derived.Stop.LaidErr
namespace Go.Proofs.YtmnlkcclcnnhmaaGreatDoor
open Go.RowKit Go.ChangeShapes Go.WideShapes Go.ChangeAt

theorem star_err : "*" ++ "errors.errorString" = "*errors.errorString" := by decide
set_option maxRecDepth 100000 in
theorem row_err (u : TypeId) (h : Tryz.prog.typeName? 3 u = some "*errors.errorString") : u = 141 :=
  typeName_ptr_named (nm := "errors.errorString") (by rw [star_err]; kernel_rfl) (by kernel_rfl) (by decide) u (by rw [star_err]; exact h)
/-- the variable holds an error that is not nil -/
def ErrVar (w : World) (n : String) : Prop := ∃ tp p, w.var? Tryz.prog n = some #[.iface tp p]
set_option maxRecDepth 100000 in
theorem err_range {r : List (String × DataW Unit)} {w : World} (h : laidMet Tryz.prog (("strconv.ErrRange", Rows.laid_strconv_ErrRange) :: r) w) : ErrVar w "strconv.ErrRange" := by
  obtain ⟨a, s, h1, _⟩ := laid_sentinel (g := 2) (ti := 80) (tp := 141) (te := 143) (ts := 9) h (by kernel_rfl) (by kernel_rfl) Tryz.underlying80 row_err Tryz.underlying141 Tryz.underlying143 rfl rfl Tryz.underlying9 (by kernel_rfl) (by kernel_rfl)
  exact ⟨_, _, h1⟩
set_option maxRecDepth 100000 in
theorem err_second {r : List (String × DataW Unit)} {w : World} (h : laidMet Tryz.prog (("strconv.ErrSyntax", Rows.laid_strconv_ErrSyntax) :: r) w) : ErrVar w "strconv.ErrSyntax" := by
  obtain ⟨a, s, h1, _⟩ := laid_sentinel (g := 1) (ti := 80) (tp := 141) (te := 143) (ts := 9) h (by kernel_rfl) (by kernel_rfl) Tryz.underlying80 row_err Tryz.underlying141 Tryz.underlying143 rfl rfl Tryz.underlying9 (by kernel_rfl) (by kernel_rfl)
  exact ⟨_, _, h1⟩
end Go.Proofs.YtmnlkcclcnnhmaaGreatDoor
