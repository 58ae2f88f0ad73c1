/-
  512 noughts, made.
-/
import Derived.Test.YtfngadidlmbfdaaDisk0
namespace Go.Proofs.Ytfngadidlmbfdaa
open Go.RowKit
set_option linter.unusedVariables false
set_option linter.unusedSimpArgs false
def zsA : Array Value := (zeroSec.map (Value.int .u8)).toArray
theorem run_make512 (W : World) : (Instr.makeSlice 33 (.int .i64 512) (.int .i64 512)).run Try.prog W = .ok (.slice (some ⟨W.heap.size, 0, none⟩) 512 512) (W.alloc (.cells zsA 5)) := by kernel_rfl
end Go.Proofs.Ytfngadidlmbfdaa
