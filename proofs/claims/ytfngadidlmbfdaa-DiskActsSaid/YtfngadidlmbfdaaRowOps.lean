/-
  Laws for single operations: a value of several cells loaded from anywhere; a map written, looked up.
-/
import Derived.Test.YtfngadidlmbfdaaDisk3
import Derived.StillTailTactics
namespace Go.Proofs.Ytfngadidlmbfdaa
open Go.RowKit Go.ChangeMaps
set_option linter.unusedVariables false
set_option linter.unusedSimpArgs false
section
variable {P : Program} {ops : Array Oper} {rest : List Oper} {o : Oper} {a : Act} {w : World} {Q : Exit → Act → World → Prop} {R : Act → Prop}
theorem exec_load_at (ty : TypeId) (x : Operand) (ho : o.op = .load ty x) (ad : Addr) (hx : a.eval x = .pointer (some ad)) (vs : Array Value) {d : TypeDesc} (hu : P.underlying ty = some d)
    (hd : (match d with | .struct _ | .array _ _ => true | _ => false) = true) (hi : (P.info? ty).map (·.size) = some vs.size) (hc : ∀ j v, vs.toList[j]? = some v → w.cell? (ad.add j) = some v) :
    (execOp a.eval o).run P w = .ok (.value (.agg vs)) w := by
  have hl := run_loadVar_at (P := P) w ad vs.toList hu hd (by simpa using hi) hc
  simp only [execOp, ho, hx, Instr.loadAt, Instr.sureAddr, Sem.run_bind, Sem.run_pure, Result.andThen_ok, hl]
theorem wpList_load_at (hgd : o.guard = none) (ty : TypeId) (x : Operand) (ho : o.op = .load ty x) (ad : Addr) (hx : a.eval x = .pointer (some ad)) (vs : Array Value) {d : TypeDesc} (hu : P.underlying ty = some d)
    (hd : (match d with | .struct _ | .array _ _ => true | _ => false) = true) (hi : (P.info? ty).map (·.size) = some vs.size) (hc : ∀ j v, vs.toList[j]? = some v → w.cell? (ad.add j) = some v)
    (h : wpList P ops Q rest (a.put o.dst (.agg vs)) w) : wpList P ops Q (o :: rest) a w := by
  refine wpList_plain hgd fun _ hK => ?_
  unfold Oper.wp
  rw [exec_load_at ty x ho ad hx vs hu hd hi hc]
  exact hK _ _ h
theorem wpStill_load_at (hgd : o.guard = none) (ty : TypeId) (x : Operand) (ho : o.op = .load ty x) (ad : Addr) (hx : a.eval x = .pointer (some ad)) (vs : Array Value) {d : TypeDesc} (hu : P.underlying ty = some d)
    (hd : (match d with | .struct _ | .array _ _ => true | _ => false) = true) (hi : (P.info? ty).map (·.size) = some vs.size) (hc : ∀ j v, vs.toList[j]? = some v → w.cell? (ad.add j) = some v)
    (h : wpStill P ops w R rest (a.put o.dst (.agg vs))) : wpStill P ops w R (o :: rest) a := by
  refine wpStill_step fun K hK => ?_
  simp only [Region.wanted, hgd, if_true]
  unfold Oper.still
  rw [exec_load_at ty x ho ad hx vs hu hd hi hc, Oper.stillUpon_value]
  exact hK _ h
theorem wpList_update_I (hgd : o.guard = none) (t : TypeId) (m k v : Operand) (ho : o.op = .mapUpdate t m k v) (g : Nat) (i : Int) (u : Value) (hm : a.eval m = .map (some g)) (hk : a.eval k = .int .i64 i) (hv : a.eval v = u)
    {f : Int → Option Value} (hM : MapI w g f) {kt e : TypeId} (ht : P.underlying t = some (.map kt e)) (hkt : P.underlying kt = some (.int .i64))
    (h : ∀ W, (∃ ob, W = setBlock w g ob) → MapI W g (fun z => if z = i then some u else f z) → wpList P ops Q rest (a.put o.dst undef) W) : wpList P ops Q (o :: rest) a w := by
  refine wpList_plain hgd fun _ hK => ?_
  obtain ⟨ob, hr, hI⟩ := hM.update ht hkt i u
  unfold Oper.wp
  have : (execOp a.eval o).run P w = .ok .skip (setBlock w g ob) := by
    simp only [execOp, ho, hm, hk, hv, Sem.run_bind, hr, Result.andThen_ok, Sem.run_pure]
  rw [this]
  exact hK _ _ (h _ ⟨ob, rfl⟩ hI)
theorem wpList_lookup_I (hgd : o.guard = none) (t : TypeId) (m k : Operand) (ho : o.op = .lookup t m k false) (g : Nat) (i : Int) (hm : a.eval m = .map (some g)) (hk : a.eval k = .int .i64 i)
    {f : Int → Option Value} (hM : MapI w g f) {kt e : TypeId} (ht : P.underlying t = some (.map kt e)) (hkt : P.underlying kt = some (.int .i64)) {z : Value} (hz : (zeroValue e).run P w = .ok z w)
    (h : wpList P ops Q rest (a.put o.dst ((f i).getD z)) w) : wpList P ops Q (o :: rest) a w := by
  refine wpList_plain hgd fun _ hK => ?_
  have hr := hM.lookup ht hkt hz i
  unfold Oper.wp
  have : (execOp a.eval o).run P w = .ok (.value ((f i).getD z)) w := by
    simp only [execOp, ho, hm, hk, Sem.run_bind, hr, Result.andThen_ok, Sem.run_pure]
  rw [this]
  exact hK _ _ h
end
end Go.Proofs.Ytfngadidlmbfdaa
