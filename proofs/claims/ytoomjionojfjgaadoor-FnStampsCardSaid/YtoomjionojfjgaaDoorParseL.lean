/- The law of ParseStamp, walked out of the contracts. -/
import Derived.Test.YtoomjionojfjgaaDoorParseR
import Derived.Test.YtoomjionojfjgaaDoorStampA
namespace Go.Proofs.YtoomjionojfjgaaDoor
open Go.ChangeShapes Go.WideShapes Go.ChangeAt Go.RowKit

theorem err_range_4 {x y z u : String × DataW Unit} {rest : List (String × DataW Unit)} {w : World} (h : laidMet Tryd.prog (x :: y :: z :: u :: ("strconv.ErrRange", Rows.laid_strconv_ErrRange) :: rest) w) : ErrVar w "strconv.ErrRange" := err_range (laidMet.tail (laidMet.tail (laidMet.tail (laidMet.tail h))))
theorem err_second_5 {x y z u v : String × DataW Unit} {rest : List (String × DataW Unit)} {w : World} (h : laidMet Tryd.prog (x :: y :: z :: u :: v :: ("strconv.ErrSyntax", Rows.laid_strconv_ErrSyntax) :: rest) w) : ErrVar w "strconv.ErrSyntax" := err_second (laidMet.tail (laidMet.tail (laidMet.tail (laidMet.tail (laidMet.tail h)))))
end Go.Proofs.YtoomjionojfjgaaDoor
