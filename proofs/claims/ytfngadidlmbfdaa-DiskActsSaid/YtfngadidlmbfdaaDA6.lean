/-
  The law DiskActs: what its regions that draw their order hold.
-/
import Derived.Test.YtfngadidlmbfdaaDA5
namespace Go.Proofs.Ytfngadidlmbfdaa
open Go.RowKit
set_option linter.unusedVariables false
set_option linter.unusedSimpArgs false
theorem sz_act : (Try.prog.info? 46).map (·.size) = some 4 := by kernel_rfl
theorem acts_index (W : World) (g o n c k : Nat) (hk : k < n) : (Instr.indexAt 34 (.slice (some ⟨g, o, none⟩) n c) (.int .i64 k)).run Try.prog W = .ok (.pointer (some ⟨g, o + k * 4, none⟩)) W := by
  obtain ⟨i, hi, hs⟩ := Option.map_eq_some_iff.1 sz_act
  have hadd : (⟨g, o, none⟩ : Addr).add (k * 4) = ⟨g, o + k * 4, none⟩ := by unfold Addr.add; split <;> simp_all
  simp [Instr.indexAt, asIntOf, Sem.run_bind, Sem.run_pure, Result.andThen, run_underlying Try.underlying34, sizeOf, typeInfo, hi, hs, hk, hadd]
theorem sz_int : (Try.prog.info? 3).map (·.size) = some 1 := by kernel_rfl
theorem act_at (W : World) (g p : Nat) : (Instr.fieldAt 46 (.pointer (some ⟨g, p, none⟩)) 1).run Try.prog W = .ok (.pointer (some ⟨g, p + 1, none⟩)) W := by
  obtain ⟨i, hi, hs⟩ := Option.map_eq_some_iff.1 sz_int
  simp [Instr.fieldAt, Instr.sureAddr, Sem.run_bind, Sem.run_pure, Result.andThen, run_underlying Try.underlying46, fieldPlace, sizeOf, typeInfo, hi, hs, Addr.add]
/-- Calls that came in, as a row. -/
structure ActsIn (w : World) (A : Option Addr) (l : List ActD) : Prop where
  at_ : 0 < l.length → ∃ g o, A = some ⟨g, o, none⟩ ∧ ∀ k (hk : k < l.length) j v, l[k].cells[j]? = some v → w.cell? ⟨g, o + k * 4 + j, none⟩ = some v
  each : ∀ a ∈ l, ActIn w a
theorem ActIn.below {w w' : World} {a : ActD} (h : ActIn w a) (hb : Below w.heap.size w w') : ActIn w' a := ⟨h.rb.below hb, h.rk.below hb, h.lb, h.lk, h.at_⟩
theorem rd_lt {α : Type} {enc : α → Value} {w : World} {A : Option Addr} {xs : List α} (h : Rd enc w A xs) (hn : 0 < xs.length) : ∀ x, A = some x → x.block < w.heap.size := fun x hx => by
  obtain ⟨g, o, rfl, hc⟩ := h hn
  injection hx with hx
  rw [← hx]
  exact block_lt_of_cell (hc 0 hn)
theorem ActIn.off {w : World} {a : ActD} {F : Nat → Prop} (h : ActIn w a) (hF : ∀ k, F k → w.heap.size ≤ k) : ActOff F a :=
  ⟨fun hn x hx hf => by have := rd_lt h.rb hn x hx; have := hF _ hf; omega, fun hn x hx hf => by have := rd_lt h.rk hn x hx; have := hF _ hf; omega⟩
/-- One call of what turns the world, at operation 6; nothing else does. -/
structure PA (W0 : World) (p : World → Prop) (d : Nat → Bool) (x : Nat → Value) (w : World) : Prop where
  pre : d 6 = false → w = W0
  post : d 6 = true → x 6 = .bool true ∧ p w
theorem PA.init (W0 : World) (p : World → Prop) : PA W0 p (fun _ => false) (fun _ => undef) W0 := ⟨fun _ => rfl, nofun⟩
theorem PA.other {W0 w : World} {p : World → Prop} {d : Nat → Bool} {x : Nat → Value} (h : PA W0 p d x w) {j : Nat} {c : Value} (hj : j ≠ 6) : PA W0 p (updB d j) (updV x j c) w :=
  ⟨fun z => h.pre (by rwa [updB_ne d (Ne.symm hj)] at z), fun z => by rw [updV_ne x c (Ne.symm hj)]; exact h.post (by rwa [updB_ne d (Ne.symm hj)] at z)⟩
theorem PA.call {W0 w w' : World} {p : World → Prop} {d : Nat → Bool} {x : Nat → Value} (_h : PA W0 p d x w) (hp : p w') : PA W0 p (updB d 6) (updV x 6 (.bool true)) w' :=
  ⟨(fun z => by rw [updB_same] at z; cases z), fun _ => ⟨by rw [updV_same], hp⟩⟩
/-- Two calls that hand back rows that read alike, at i and j. -/
structure PB (W0 : World) (xs : List Int) (i j : Nat) (d : Nat → Bool) (x : Nat → Value) (w : World) : Prop where
  below : Below W0.heap.size W0 w
  ci : d i = true → RdV (Value.int .u8) w (x i) xs
  cj : d j = true → RdV (Value.int .u8) w (x j) xs
section
variable {W0 w w' : World} {xs : List Int} {i j : Nat} {d : Nat → Bool} {x : Nat → Value}
theorem PB.init (W0 : World) (xs : List Int) (i j : Nat) : PB W0 xs i j (fun _ => false) (fun _ => undef) W0 := ⟨Below.refl _ _, nofun, nofun⟩
theorem PB.other (h : PB W0 xs i j d x w) {k : Nat} {c : Value} (hk : k ≠ i ∧ k ≠ j) : PB W0 xs i j (updB d k) (updV x k c) w :=
  ⟨h.below, fun z => by rw [updV_ne x c (Ne.symm hk.1)]; exact h.ci (by rwa [updB_ne d (Ne.symm hk.1)] at z), fun z => by rw [updV_ne x c (Ne.symm hk.2)]; exact h.cj (by rwa [updB_ne d (Ne.symm hk.2)] at z)⟩
theorem PB.call {k : Nat} {v : Value} (h : PB W0 xs i j d x w) (hr : RdV (Value.int .u8) w' v xs) (hb : Below w.heap.size w w') : PB W0 xs i j (updB d k) (updV x k v) w' := by
  refine ⟨h.below.trans (hb.mono h.below.size), fun z => ?_, fun z => ?_⟩
  · by_cases e : k = i
    · subst e; rw [updV_same]; exact hr
    · rw [updV_ne x v (Ne.symm e)]; exact (h.ci (by rwa [updB_ne d (Ne.symm e)] at z)).below hb
  · by_cases e : k = j
    · subst e; rw [updV_same]; exact hr
    · rw [updV_ne x v (Ne.symm e)]; exact (h.cj (by rwa [updB_ne d (Ne.symm e)] at z)).below hb
end
end Go.Proofs.Ytfngadidlmbfdaa
