/-
  Small lemmas for the use of the region rule.
-/
import Derived.Test.YtfngadidlmbfdaaBase
import Derived.Test.YtfngadidlmbfdaaAppB
namespace Go.Proofs.Ytfngadidlmbfdaa
open Go.RowKit
set_option linter.unusedVariables false
set_option linter.unusedSimpArgs false

/-- A slice value that reads as a list. -/
def RdV {α : Type} (enc : α → Value) (w : World) (v : Value) (xs : List α) : Prop := ∃ A c, v = .slice A xs.length c ∧ xs.length ≤ c ∧ c ≤ maxLen ∧ Rd enc w A xs
theorem RdV.below {α : Type} {enc : α → Value} {w w' : World} {v : Value} {xs : List α} (h : RdV enc w v xs) (hb : Below w.heap.size w w') : RdV enc w' v xs := by
  obtain ⟨A, c, h1, h2, h3, h4⟩ := h
  exact ⟨A, c, h1, h2, h3, h4.below hb⟩
theorem RdV.own {α : Type} {enc : α → Value} {w : World} {B e n : Nat} {v : Value} {xs : List α} (hl : xs.length = n) (h : w.ownsRow B e 1 v n (xs.map enc)) : RdV enc w v xs := by
  obtain ⟨A, c, rfl, h1, h2⟩ := own_form h
  subst hl
  exact ⟨A, c, rfl, h1, h2, own_rd h⟩
theorem Rd.off {α : Type} {enc : α → Value} {w w' : World} {A : Option Addr} {xs : List α} (h : Rd enc w A xs) (g : Nat) (hg : ∀ i x, w.cell? ⟨g, i, none⟩ ≠ some (enc x)) (hk : ∀ k, k ≠ g → w'.heap[k]? = w.heap[k]?) : Rd enc w' A xs := fun hn => by
  obtain ⟨b, o, e, hc⟩ := h hn
  refine ⟨b, o, e, fun j hj => ?_⟩
  have hne : b ≠ g := fun e' => by subst e'; exact hg _ _ (hc j hj)
  rw [← hc j hj]
  exact World.cell?_of_block (w := w) (hk b hne)
/-- It reads so still, where a block is written that holds nothing of the kind. -/
theorem RdV.off {α : Type} {enc : α → Value} {w w' : World} {v : Value} {xs : List α} (h : RdV enc w v xs) (g : Nat) (hg : ∀ i x, w.cell? ⟨g, i, none⟩ ≠ some (enc x)) (hk : ∀ k, k ≠ g → w'.heap[k]? = w.heap[k]?) : RdV enc w' v xs := by
  obtain ⟨A, c, h1, h2, h3, h4⟩ := h
  refine ⟨A, c, h1, h2, h3, fun hn => ?_⟩
  obtain ⟨b, o, e, hc⟩ := h4 hn
  refine ⟨b, o, e, fun j hj => ?_⟩
  have hne : b ≠ g := fun e' => by subst e'; exact hg _ _ (hc j hj)
  rw [← hc j hj]
  exact World.cell?_of_block (w := w) (hk b hne)
theorem set_other (w : World) (g i : Nat) (v : Value) {k : Nat} (h : k ≠ g) : (w.setCell ⟨g, i, none⟩ v).heap[k]? = w.heap[k]? := Below.heap_setCell w _ v k h
/-- An empty slice that is not nil. -/
def Emp (v : Value) : Prop := ∃ a, v = .slice (some a) 0 0

section
variable {P : Program} {ops : Array Oper} {Q : Exit → Act → World → Prop} {w0 : World} {D : Nat → Option Value} {G : (Nat → Bool) → (Nat → Value) → World → Prop} {i : Nat} {d : Nat → Bool} {x : Nat → Value} {a : Act} {w : World}
/-- An operation whose value is known. -/
theorem rstep_det {o : Oper} {s : Nat} {c : Value} (ho : ops[i]? = some o) (hg : o.guard = none) (hd : o.dst = some s) (hD : D i = some c) (hrun : (execOp a.eval o).run P w = .ok (.value c) w)
    (hG : G (updB d i) (updV x i c) w) (hb : Below w0.heap.size w0 w) : RStep P ops Q w0 D G i d x a w := by
  have hr : rdst ops i = some s := by simp [rdst, ho, hd]
  unfold RStep wpOp
  rw [ho]
  simp only [Region.wanted, hg, if_true]
  refine .inl ?_
  unfold Oper.wp
  rw [hrun]
  show _
  refine ⟨c, by rw [hr, hd], (fun h => by rw [hr] at h; cases h), fun c' h => by rw [hD] at h; injection h, hG, hb⟩
/-- An operation that gives a value in a new world. -/
theorem rstep_run {o : Oper} {s : Nat} {v : Value} {w' : World} (ho : ops[i]? = some o) (hg : o.guard = none) (hd : o.dst = some s) (hD : D i = none) (hrun : (execOp a.eval o).run P w = .ok (.value v) w')
    (hG : G (updB d i) (updV x i v) w') (hb : Below w0.heap.size w0 w') : RStep P ops Q w0 D G i d x a w := by
  have hr : rdst ops i = some s := by simp [rdst, ho, hd]
  unfold RStep wpOp
  rw [ho]
  simp only [Region.wanted, hg, if_true]
  refine .inl ?_
  unfold Oper.wp
  rw [hrun]
  show _
  refine ⟨v, by rw [hr, hd], (fun h => by rw [hr] at h; cases h), (fun c' h => by rw [hD] at h; cases h), hG, hb⟩
/-- A call by its contract. -/
theorem rstep_call {o : Oper} {s f : Nat} {args : Array Value} {R : Ending → World → Prop} (ho : ops[i]? = some o) (hg : o.guard = none) (hd : o.dst = some s) (hD : D i = none) (hrun : (execOp a.eval o).run P w = .ok (.enter f args) w)
    (hc : Calls P f args w R) (hR : ∀ e w', R e w' → ∃ v, e = .returned v ∧ G (updB d i) (updV x i v) w' ∧ Below w0.heap.size w0 w') : RStep P ops Q w0 D G i d x a w := by
  have hr : rdst ops i = some s := by simp [rdst, ho, hd]
  unfold RStep wpOp
  rw [ho]
  simp only [Region.wanted, hg, if_true]
  refine .inl ?_
  unfold Oper.wp
  rw [hrun]
  show Calls P f args w _
  refine hc.mono fun e w' h => ?_
  obtain ⟨v, rfl, hG, hb⟩ := hR e w' h
  exact ⟨v, by rw [hr, hd], (fun h => by rw [hr] at h; cases h), (fun c' h => by rw [hD] at h; cases h), hG, hb⟩
theorem exec_app {o : Oper} {s u : Operand} {t tu : Nat} {vs vx v : Value} {w' : World} (ho : o.op = .call { callee := .builtin .append, args := #[s, u], argTypes := #[t, tu] }) (hs : a.eval s = vs) (hx : a.eval u = vx)
    (hr : (Builtin.append_ #[t, tu] o.type #[vs, vx]).run P w = .ok v w') : (execOp a.eval o).run P w = .ok (.value v) w' := by
  unfold execOp
  simp only [ho, resolve, invoke, builtin, Sem.run_bind, Sem.run_pure, Result.andThen_ok, List.map_toArray, List.map_cons, List.map_nil, hs, hx, hr]
end
end Go.Proofs.Ytfngadidlmbfdaa
