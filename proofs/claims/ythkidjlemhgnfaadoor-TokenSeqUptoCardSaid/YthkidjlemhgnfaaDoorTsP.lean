/-
  THE RUN of some functions, by tables and at closed arguments.
-/
import Derived.Test.YthkidjlemhgnfaaDoorTsO
set_option linter.unusedVariables false
set_option linter.unusedSimpArgs false
set_option linter.unusedSectionVars false
section
namespace AI.Tok
open Go AI

theorem f12 {k : Nat} (c : UInt8) : R (k + 20) (.fn 12) [bV c] [] = some (.ret (.pv (.int .i64 (pickN c))), []) := byByte (f := fun c => R (k + 20) (.fn 12) [bV c] []) (g := fun c => .int .i64 (pickN c)) (by kernel_rfl) c
theorem f30m {k : Nat} (c : UInt8) : R (k + 20) (.fn 30) [.pv (.str [123, 125, 91, 93, 58, 44]), bV c] [] = some (.ret (.pv (.int .i64 (markN c - 1))), []) := byByte (f := fun c => R (k + 20) (.fn 30) [.pv (.str [123, 125, 91, 93, 58, 44]), bV c] []) (g := fun c => .int .i64 (markN c - 1)) (by kernel_rfl) c
theorem f52 {k : Nat} (c : UInt8) : R (k + 20) (.fn 52) [bV c] [] = some (.ret (.pv (.int .i64 (hexN c))), []) := byByte (f := fun c => R (k + 20) (.fn 52) [bV c] []) (g := fun c => .int .i64 (hexN c)) (by kernel_rfl) c
theorem f61 {k : Nat} (c : UInt8) : R (k + 20) (.fn 61) [bV c] [] = some (.ret (.pv (.int .i32 (hexN c))), []) := byByte (f := fun c => R (k + 20) (.fn 61) [bV c] []) (g := fun c => .int .i32 (hexN c)) (by kernel_rfl) c
theorem f56 {k : Nat} (c : UInt8) : R (k + 20) (.fn 56) [bV c] [] = some (.ret (.pv (.int .i32 (shortP c))), []) := byByte (f := fun c => R (k + 20) (.fn 56) [bV c] []) (g := fun c => .int .i32 (shortP c)) (by kernel_rfl) c
end AI.Tok
end
