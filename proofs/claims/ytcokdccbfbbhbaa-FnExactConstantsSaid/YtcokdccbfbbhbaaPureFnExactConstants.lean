/- The law FnExactConstants: each exported constant has the document's value. No condition. -/
import Derived.Test.YtcokdccbfbbhbaaPFnExactConstantsx1
import Derived.Laws.BitsLemmas
namespace Go.Proofs.Ytcokdccbfbbhbaa.Pure
open Go.RowKit Go.Proofs.Ytcokdccbfbbhbaa.PFnExactConstants Go.Proofs.YtcokdccbfbbhbaaW.PrintWords Go.Proofs.YtcokdccbfbbhbaaW.PrintLast

theorem FnExactConstants : laws_FnExactConstants.Pure := by
  unfold laws_FnExactConstants.Pure
  rfl

end Go.Proofs.Ytcokdccbfbbhbaa.Pure
