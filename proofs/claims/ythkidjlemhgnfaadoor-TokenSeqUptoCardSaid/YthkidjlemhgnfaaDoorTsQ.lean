/-
  THE LAW's CLOSED PART: the machine's run of it.
-/
import Derived.Test.YthkidjlemhgnfaaDoorTsP
set_option linter.unusedVariables false
set_option linter.unusedSimpArgs false
set_option linter.unusedSectionVars false
section
namespace AI.Tok
open Go AI

theorem f7 {k : Nat} : R (k + 400) (.fn 7) [] [] = some (.ret (.pv (.bool true)), []) := isRet_eq (p := .bool true) (by kernel_rfl)
end AI.Tok
end
