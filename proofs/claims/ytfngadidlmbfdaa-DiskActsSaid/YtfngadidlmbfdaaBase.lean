/-
  Words of memory for this seat: a slice that reads as a list; rows of the call's own; append's law over both.
-/
import Derived.Test.YtfngadidlmbfdaaProg
import Derived.Test.YtfngadidlmbfdaaReg
import Derived.WalkKit
import Derived.WalkSpells
import Derived.WalkLawsBesides
import Derived.Lib.Hide
import Derived.Lib.AppendZeros
import Derived.Maps.AppendAt
namespace Go.Proofs.Ytfngadidlmbfdaa
open Go.RowKit
set_option linter.unusedVariables false
set_option linter.unusedSimpArgs false

/-! ### what is read -/
theorem cell_kept {w w' : World} (hb : Below w.heap.size w w') {p : Addr} {v : Value} (h : w.cell? p = some v) : w'.cell? p = some v :=
  (hb.cell (World.block_lt_of_cell? w p h)).trans h

/-- The cells behind a slice's address are these: n elements, sz cells each. -/
def RdC (sz : Nat) (w : World) (A : Option Addr) (n : Nat) (cs : List Value) : Prop :=
  cs.length = n * sz ∧ (0 < n → ∃ b o, A = some ⟨b, o, none⟩ ∧ ∀ j u, cs[j]? = some u → w.cell? ⟨b, o + j, none⟩ = some u)

/-- The cells behind a slice's address read as a list, each element one cell. -/
def Rd {α : Type} (enc : α → Value) (w : World) (A : Option Addr) (xs : List α) : Prop :=
  0 < xs.length → ∃ b o, A = some ⟨b, o, none⟩ ∧ ∀ j (h : j < xs.length), w.cell? ⟨b, o + j, none⟩ = some (enc xs[j])

section
variable {α : Type} {enc : α → Value} {w w' : World} {A : Option Addr} {xs : List α} {sz n : Nat} {cs : List Value}
theorem RdC.below (h : RdC sz w A n cs) (hb : Below w.heap.size w w') : RdC sz w' A n cs := ⟨h.1, fun hn => by
  obtain ⟨b, o, e, hc⟩ := h.2 hn
  exact ⟨b, o, e, fun j u hu => cell_kept hb (hc j u hu)⟩⟩
theorem RdC.nil : RdC sz w A 0 [] := ⟨by simp, fun h => absurd h (by omega)⟩
theorem Rd.nil : Rd enc w A [] := fun h => absurd h (by simp)
theorem Rd.below (h : Rd enc w A xs) (hb : Below w.heap.size w w') : Rd enc w' A xs := fun hn => by
  obtain ⟨b, o, e, hc⟩ := h hn
  exact ⟨b, o, e, fun j hj => cell_kept hb (hc j hj)⟩
theorem Rd.at_ (h : Rd enc w A xs) {k : Nat} (hk : k < xs.length) : ∃ b o, A = some ⟨b, o, none⟩ ∧ w.cell? ⟨b, o + k, none⟩ = some (enc xs[k]) := by
  obtain ⟨b, o, e, hc⟩ := h (by omega)
  exact ⟨b, o, e, hc k hk⟩
theorem Rd.cells (h : Rd enc w A xs) : RdC 1 w A xs.length (xs.map enc) := ⟨by simp, fun hn => by
  obtain ⟨b, o, e, hc⟩ := h hn
  refine ⟨b, o, e, fun j u hu => ?_⟩
  rw [List.getElem?_map] at hu
  obtain ⟨x, hx, rfl⟩ := Option.map_eq_some_iff.1 hu
  obtain ⟨hj, rfl⟩ := List.getElem?_eq_some_iff.1 hx
  exact hc j hj⟩
theorem RdC.take (h : RdC 1 w A n cs) {m : Nat} (hm : m ≤ n) : RdC 1 w A m (cs.take m) := by
  have hl := h.1
  refine ⟨by rw [List.length_take]; omega, fun hp => ?_⟩
  obtain ⟨b, o, e, hc⟩ := h.2 (by omega)
  exact ⟨b, o, e, fun j u hu => by
    rw [List.getElem?_take] at hu
    split at hu
    · exact hc j u hu
    · cases hu⟩
theorem RdC.rd (h : RdC 1 w A n (xs.map enc)) : Rd enc w A xs := fun hn => by
  have hl : xs.length = n := by have := h.1; simpa using this
  obtain ⟨b, o, e, hc⟩ := h.2 (by omega)
  exact ⟨b, o, e, fun j hj => hc j _ (by simp [hj])⟩
end

/-! ### rows of the call's own -/
theorem own_rdC {w : World} {B e sz n : Nat} {A : Option Addr} {c : Nat} {cs : List Value} (h : w.ownsRow B e sz (.slice A n c) n cs) : RdC sz w A n cs := by
  refine ⟨h.1, fun hn => ?_⟩
  rcases h.2 with ⟨hv, h0⟩ | ⟨g, cap, cur, hv, _⟩
  · omega
  · injection hv with hA _ _
    subst hA
    exact ⟨g, 0, rfl, fun j u hu => by
      have := h.cells (g := g) rfl j u hu
      rw [Nat.zero_add]
      have ha : (⟨g, 0, none⟩ : Addr).add j = ⟨g, j, none⟩ := by unfold Addr.add; split <;> simp_all
      rwa [ha] at this⟩
theorem own_rd {α : Type} {enc : α → Value} {w : World} {B e n : Nat} {A : Option Addr} {c : Nat} {xs : List α} (h : w.ownsRow B e 1 (.slice A n c) n (xs.map enc)) : Rd enc w A xs := (own_rdC h).rd
/-- The shape of what is owned. -/
theorem own_form {w : World} {B e sz n : Nat} {v : Value} {cs : List Value} (h : w.ownsRow B e sz v n cs) : ∃ A c, v = .slice A n c ∧ n ≤ c ∧ c ≤ maxLen := by
  rcases h.2 with ⟨rfl, rfl⟩ | ⟨g, cap, cur, rfl, _, _, h1, h2, _⟩
  · exact ⟨none, 0, rfl, Nat.le_refl _, by simp [maxLen]⟩
  · exact ⟨_, cap, rfl, h1, h2⟩
theorem own_le {w : World} {B B' e sz n : Nat} {v : Value} {cs : List Value} (h : w.ownsRow B e sz v n cs) (hb : B' ≤ B) : w.ownsRow B' e sz v n cs := by
  refine ⟨h.1, ?_⟩
  rcases h.2 with h1 | ⟨g, cap, cur, rfl, h1, h2⟩
  · exact .inl h1
  · exact .inr ⟨g, cap, cur, rfl, Nat.le_trans hb h1, h2⟩
theorem own_base {w : World} {B e sz n : Nat} {v : Value} {cs : List Value} (h : w.ownsRow B e sz v n cs) : ∀ k, v.ownBlock = some k → B ≤ k ∧ k < w.heap.size := World.ownsRow.lt h
theorem grown_below {w w1 : World} (h : Below w.heap.size w w1) (row : Option Nat) : w.grownBy w1 row := ⟨h.os, h.tape, h.output, h.size, fun i hi _ => h.block i hi⟩
theorem own_below {w w1 : World} {B e sz n : Nat} {v : Value} {cs : List Value} (h : w.ownsRow B e sz v n cs) (hb : Below w.heap.size w w1) : w1.ownsRow B e sz v n cs :=
  h.kept (grown_below hb none) (by cases v.ownBlock <;> simp)
theorem own_nil (w : World) (B e sz : Nat) : w.ownsRow B e sz (.slice none 0 0) 0 [] := World.ownsRow_nil w B e sz
/-- '[]T{}', a row of no element. -/
theorem own_empty (w : World) (B e sz : Nat) (hb : B ≤ w.heap.size) : (w.alloc (.cells #[] e)).ownsRow B e sz (.slice (some ⟨w.heap.size, 0, none⟩) 0 0) 0 [] :=
  World.ownsRow_made w #[] 0 hb (Nat.zero_le _) (by simp)
/-- A row that has just been laid, full. -/
theorem own_full (w : World) (B e sz n : Nat) (cs : List Value) (hb : B ≤ w.heap.size) (hl : cs.length = n * sz) (hn : n ≤ maxLen) : (w.alloc (.cells cs.toArray e)).ownsRow B e sz (.slice (some ⟨w.heap.size, 0, none⟩) n n) n cs :=
  ⟨hl, .inr ⟨w.heap.size, n, cs.toArray, rfl, hb, heap_alloc_new w _, Nat.le_refl _, hn, by simpa using hl, by simp [← hl]⟩⟩
theorem below_grown {B : Nat} {w0 w w' : World} {row : Option Nat} (h : Below B w0 w) (hg : w.grownBy w' row) (hB : B ≤ w.heap.size) (hr : ∀ k, row = some k → B ≤ k) : Below B w0 w' := h.grown hg hB hr
theorem below_then {B : Nat} {w w1 w2 : World} (h : Below B w w1) (hB : B ≤ w.heap.size) (k : Below w1.heap.size w1 w2) : Below B w w2 := h.trans (k.mono (Nat.le_trans hB h.size))

/-- A row that has just been laid reads as its cells. -/
theorem rdC_new (w : World) (sz e n : Nat) (cs : List Value) (hl : cs.length = n * sz) : RdC sz (w.alloc (.cells cs.toArray e)) (some ⟨w.heap.size, 0, none⟩) n cs :=
  ⟨hl, fun _ => ⟨w.heap.size, 0, rfl, fun j u hu => by
    rw [Nat.zero_add, cell_of_row _ w.heap.size j cs.toArray e (0, 0) (heap_alloc_new w _)]
    simpa using hu⟩⟩

/-! ### the element types -/
/-- Slice type t of element type e: sz cells, 'bytes' bytes each. -/
structure SlTy (P : Program) (t e sz bytes : Nat) : Prop where
  und : P.underlying t = some (.slice e)
  inf : ∃ i z, P.info? e = some i ∧ i.zero = some z ∧ i.size = sz ∧ i.bytes = bytes ∧ z.cells.size = sz
  pos : 0 < sz
theorem SlTy.mk' {P : Program} {t e sz bytes : Nat} (z : Value) (hu : P.underlying t = some (.slice e)) (hi : (P.info? e).map (fun i => (i.zero, i.size, i.bytes)) = some (some z, sz, bytes)) (hz : z.cells.size = sz) (hp : 0 < sz) : SlTy P t e sz bytes := by
  obtain ⟨i0, h1, h2⟩ := Option.map_eq_some_iff.1 hi
  simp only [Prod.mk.injEq] at h2
  exact ⟨hu, ⟨i0, z, h1, h2.1, h2.2.1, h2.2.2, hz⟩, hp⟩

/-! ### append -/
section
variable {P : Program}
theorem run_append_zero (w : World) {B t ty e sz bytes : Nat} (T : SlTy P t e sz bytes) {v : Value} {n : Nat} {cs : List Value} (hown : w.ownsRow B e sz v n cs) (A : Option Addr) (c : Nat) :
    (Builtin.append_ #[t, t] ty #[v, .slice A 0 c]).run P w = .ok v w := by
  obtain ⟨hu, ⟨i, z, hi, hz, hs, hby, hzs⟩, hp⟩ := T
  rcases hown.2 with ⟨rfl, rfl⟩ | ⟨g, cap, cur, rfl, _, _, hnc, _⟩
  · simp [Builtin.append_, run_underlying hu, sizeOf, typeInfo, hi, Builtin.lenOf, Builtin.firstCells]
    cases A <;> simp [loadCells, loadCellsFrom]
  · simp [Builtin.append_, run_underlying hu, sizeOf, typeInfo, hi, Builtin.lenOf, Builtin.firstCells, hnc]
    cases A <;> simp [loadCells, loadCellsFrom, storeCells]

/-- append onto a row of the call's own, whatever the source. -/
theorem run_app (w : World) {B t ty e sz bytes : Nat} (T : SlTy P t e sz bytes) {v : Value} {n : Nat} {cs : List Value} (hown : w.ownsRow B e sz v n cs)
    {A : Option Addr} {m c : Nat} {news : List Value} (hr : RdC sz w A m news) (h1 : ∀ u ∈ news, u.oneCell' = true) (hby : (n + m) * bytes ≤ 140737488355328) (hn : n + m ≤ maxLen) (hB : B ≤ w.heap.size) :
    ∃ v' w', (Builtin.append_ #[t, t] ty #[v, .slice A m c]).run P w = .ok v' w' ∧ w'.ownsRow B e sz v' (n + m) (cs ++ news) ∧ w.grownBy w' v.ownBlock ∧ (v'.ownBlock = v.ownBlock ∨ v'.ownBlock = some w.heap.size) := by
  rcases Nat.eq_zero_or_pos m with h0 | h0
  · subst h0
    obtain rfl : news = [] := List.eq_nil_of_length_eq_zero (by simpa using hr.1)
    exact ⟨v, w, run_append_zero w T hown A c, by simpa using hown, ⟨rfl, rfl, rfl, Nat.le_refl _, fun _ _ _ => rfl⟩, .inl rfl⟩
  · obtain ⟨b, o, rfl, hc⟩ := hr.2 h0
    obtain ⟨hu, ⟨i, z, hi, hz, hs, hby', hzs⟩, hp⟩ := T
    obtain ⟨v', w', hrun, h2, h3, _, h5⟩ := run_append_own_at (P := P) w B t ty e i z sz bytes hu hi hz hs hby' hzs hp v n cs hown ⟨b, o, none⟩ m c news hr.1
      (fun j u hu => by
        have ha : (⟨b, o, none⟩ : Addr).add j = ⟨b, o + j, none⟩ := by unfold Addr.add; split <;> simp_all
        rw [ha]; exact hc j u hu) h1 hn hby hB
    exact ⟨v', w', hrun, h2, h3, h5⟩

/-- append onto an empty row without room, whatever the source: nothing that was there is written. -/
theorem run_app0 (w : World) {t ty e sz bytes : Nat} (T : SlTy P t e sz bytes) (a0 : Addr) {A : Option Addr} {m c : Nat} {news : List Value} (hr : RdC sz w A m news) (hby : m * bytes ≤ 140737488355328) (hn : m ≤ maxLen) :
    ∃ v' w', (Builtin.append_ #[t, t] ty #[.slice (some a0) 0 0, .slice A m c]).run P w = .ok v' w' ∧ Below w.heap.size w w' ∧ ((m = 0 ∧ v' = .slice (some a0) 0 0) ∨ w'.ownsRow w.heap.size e sz v' m news) := by
  obtain ⟨hu, ⟨i, z, hi, hz, hs, hby', hzs⟩, hp⟩ := T
  rcases Nat.eq_zero_or_pos m with h0 | h0
  · subst h0
    refine ⟨.slice (some a0) 0 0, w, ?_, Below.refl _ _, .inl ⟨rfl, rfl⟩⟩
    simp [Builtin.append_, run_underlying hu, sizeOf, typeInfo, hi, Builtin.lenOf]
    cases A <;> simp [Builtin.firstCells, loadCells, loadCellsFrom, storeCells]
  · obtain ⟨b, o, rfl, hc⟩ := hr.2 h0
    have hcap := grownCap_ge w m 0 e
    have hfit : Builtin.nextslicecap (0 + m) 0 * i.bytes ≤ 281474976710656 := by
      rw [Nat.zero_add, nextslicecap_zero h0, hby']
      omega
    have hrun := run_append_grow (P := P) w t ty e i z hu hi hz a0 0 0 [] (by simp) (by simp) ⟨b, o, none⟩ m c news (by rw [hs]; exact hr.1)
      (fun j u hu => by
        have ha : (⟨b, o, none⟩ : Addr).add j = ⟨b, o + j, none⟩ := by unfold Addr.add; split <;> simp_all
        rw [ha]; exact hc j u hu) (by omega) (by simp [maxLen] at hn; omega) hfit
    refine ⟨_, _, hrun, ((Below.refl _ w).drew).alloc (Nat.le_refl _) _, .inr ?_⟩
    simp only [Nat.zero_add, List.toList_toArray, Array.empty_append]
    have hl := hr.1
    refine ⟨hl, .inr ⟨w.heap.size, grownCap w m 0 e, _, rfl, Nat.le_refl _, heap_alloc_new w.drew _, hcap, grownCap_le_maxLen _ _ _ _ hn, ?_, ?_⟩⟩
    · simp only [Array.size_append, List.size_toArray, size_zeroCells, hzs, hl]
      rw [← Nat.add_mul]
      congr 1
      omega
    · simp [← hl]

theorem wp_app (w : World) {o : Oper} {a : Act} {K : Act → World → Prop} {Q : Exit → Act → World → Prop} (s x : Operand) {B t e sz bytes : Nat} (T : SlTy P t e sz bytes)
    (ho : o.op = .call { callee := .builtin .append, args := #[s, x], argTypes := #[t, t] })
    (v : Value) (n : Nat) (cs : List Value) (hs : a.eval s = v) (hown : w.ownsRow B e sz v n cs)
    (A : Option Addr) (m c : Nat) (news : List Value) (hx : a.eval x = .slice A m c) (hr : RdC sz w A m news) (h1 : ∀ u ∈ news, u.oneCell' = true) (hby : (n + m) * bytes ≤ 140737488355328) (hn : n + m ≤ maxLen) (hB : B ≤ w.heap.size)
    (h : ∀ v' w', w'.ownsRow B e sz v' (n + m) (cs ++ news) → w.grownBy w' v.ownBlock → (v'.ownBlock = v.ownBlock ∨ v'.ownBlock = some w.heap.size) → K (a.put o.dst v') w') : o.wp P a w K Q := by
  obtain ⟨v', w', hrun, h2, h3, h4⟩ := run_app w (ty := o.type) T hown (c := c) hr h1 hby hn hB
  unfold Oper.wp execOp
  simp only [ho, resolve, invoke, builtin, Sem.run_bind, Sem.run_pure, Result.andThen_ok, List.map_toArray, List.map_cons, List.map_nil, hs, hx, hrun]
  exact h v' w' h2 h3 h4

theorem wpList_app (w : World) {ops : Array Oper} {rest : List Oper} {o : Oper} {a : Act} {Q : Exit → Act → World → Prop} (hgd : o.guard = none) (s x : Operand) {B t e sz bytes : Nat} (T : SlTy P t e sz bytes)
    (ho : o.op = .call { callee := .builtin .append, args := #[s, x], argTypes := #[t, t] })
    (v : Value) (n : Nat) (cs : List Value) (hs : a.eval s = v) (hown : w.ownsRow B e sz v n cs)
    (A : Option Addr) (m c : Nat) (news : List Value) (hx : a.eval x = .slice A m c) (hr : RdC sz w A m news) (h1 : ∀ u ∈ news, u.oneCell' = true) (hby : (n + m) * bytes ≤ 140737488355328) (hn : n + m ≤ maxLen) (hB : B ≤ w.heap.size)
    (h : ∀ v' w', w'.ownsRow B e sz v' (n + m) (cs ++ news) → w.grownBy w' v.ownBlock → (v'.ownBlock = v.ownBlock ∨ v'.ownBlock = some w.heap.size) → wpList P ops Q rest (a.put o.dst v') w') : wpList P ops Q (o :: rest) a w :=
  wpList_plain hgd fun _ hK => wp_app w s x T ho v n cs hs hown A m c news hx hr h1 hby hn hB fun v' w' h2 h3 h4 => hK _ _ (h v' w' h2 h3 h4)
end

/-- What a call hands back that returns a row of its own and turns nothing. -/
def RetOwn (w : World) (e sz n : Nat) (cs : List Value) (en : Ending) (w' : World) : Prop := ∃ v, en = .returned v ∧ w'.ownsRow w.heap.size e sz v n cs ∧ Below w.heap.size w w'

/-! ### the element types of this program -/
theorem inf_strs : (Try.prog.info? 9).map (fun i => (i.zero, i.size, i.bytes)) = some (some (.string ByteArray.empty), 1, 16) := by kernel_rfl
theorem inf_ints : (Try.prog.info? 3).map (fun i => (i.zero, i.size, i.bytes)) = some (some (.int .i64 0), 1, 8) := by kernel_rfl
theorem inf_bytes : (Try.prog.info? 5).map (fun i => (i.zero, i.size, i.bytes)) = some (some (.int .u8 0), 1, 1) := by kernel_rfl
theorem und_string : Try.prog.underlying 9 = some .string := Try.underlying9
theorem ty_strs : SlTy Try.prog 22 9 1 16 := SlTy.mk' _ Try.underlying22 inf_strs rfl (by decide)
theorem ty_ints : SlTy Try.prog 23 3 1 8 := SlTy.mk' _ Try.underlying23 inf_ints rfl (by decide)
theorem ty_bytes : SlTy Try.prog 33 5 1 1 := SlTy.mk' _ Try.underlying33 inf_bytes rfl (by decide)

end Go.Proofs.Ytfngadidlmbfdaa
