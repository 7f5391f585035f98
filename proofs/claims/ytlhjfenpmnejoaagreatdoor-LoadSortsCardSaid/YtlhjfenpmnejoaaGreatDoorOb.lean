/-  a truth value that is handed over.  -/
import Derived.Test.YtlhjfenpmnejoaaGreatDoorOpen
namespace Go.Proofs.YtlhjfenpmnejoaaGreatDoor
open Go Go.RowKit X Go.ChangeShapes Go.WideShapes Go.ChangeAt
section
variable {W : World}
set_option linter.constructorNameAsVariable false in
set_option maxRecDepth 100000 in
theorem open_boolT {base : Nat} {v : Value} (hval : Value.okWide P W .any base T_bool v) : ∃ b, v = .bool b := okWide_bool (by kernel_rfl) hval
end
end Go.Proofs.YtlhjfenpmnejoaaGreatDoor
