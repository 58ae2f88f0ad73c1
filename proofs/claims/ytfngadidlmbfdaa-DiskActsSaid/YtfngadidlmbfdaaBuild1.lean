/-
  A slice of one element of many cells, built.
-/
import Derived.Test.YtfngadidlmbfdaaRegU
import Derived.Great.FillDense
namespace Go.Proofs.Ytfngadidlmbfdaa
open Go.RowKit
set_option linter.unusedVariables false
set_option linter.unusedSimpArgs false
theorem run_buildSlice1 {P : Program} {t e sz bytes : Nat} (T : SlTy P t e sz bytes) (hsz : sz ≤ 16777216) (w : World) (vs : List Value) (hl : vs.length = sz) :
    (Instr.buildSlice t 1 #[(0, .agg vs.toArray)]).run P w = .ok (.slice (some ⟨w.heap.size, 0, none⟩) 1 1) (w.alloc (.cells vs.toArray e)) := by
  obtain ⟨i, z, hi, hz, hs, _, hzc⟩ := T.inf
  obtain ⟨r, hr, hrs, hrk⟩ := Go.Great.fill_dense (s := sz) T.pos [.agg vs.toArray] 0 ((Array.range (1 * sz)).map (z.cells[· % z.cells.size]!)) (by simp [Value.cells, hl]) (by simp)
  have hre : r = vs.toArray := by
    apply Array.ext_getElem?
    intro k
    rw [hrk k]
    by_cases hk : k < sz
    · rw [if_pos ⟨by omega, by simpa using hk⟩, Nat.div_eq_of_lt hk, Nat.mod_eq_of_lt hk]
      simp [Value.cells]
    · rw [if_neg (by simp; omega), Array.getElem?_eq_none (by simp; omega)]
      symm
      rw [Array.getElem?_eq_none (by simp; omega)]
  subst hre
  have hp := T.pos
  have hr' : Instr.fill (fun i => some (i * sz, sz)) ((Array.range sz).map (z.cells[· % z.cells.size]!)) [(0, .agg vs.toArray)] = some vs.toArray := by simpa using hr
  have hsize : (sizeOf e).run P w = .ok sz w := by simp [sizeOf, typeInfo, hi, hs, Sem.run_bind]
  have hzero : (zeroValue e).run P w = .ok z w := by simp [zeroValue, typeInfo, hi, hz, Sem.run_bind]
  simp [Instr.buildSlice, Sem.run_bind, run_underlying T.und, Result.andThen, hsize, hzero, show ¬ 16777216 < sz by omega, show sz ≠ 0 by omega, hr', newRow]
end Go.Proofs.Ytfngadidlmbfdaa
