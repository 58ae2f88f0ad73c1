/-
  Words for what follows: what a call may touch (Fr), whole arrays in memory, a disk as it lies in memory.
-/
import Derived.Test.YtfngadidlmbfdaaMapI
import Derived.Test.YtfngadidlmbfdaaAppB
import Derived.Laws.CopyRow
namespace Go.Proofs.Ytfngadidlmbfdaa
open Go.RowKit Go.ChangeMaps
set_option linter.unusedVariables false
set_option linter.unusedSimpArgs false

/-- A call touches nothing but F and what is new; what it leaves as its own (F') is of F or new. -/
structure Fr (F F' : Nat → Prop) (w w' : World) : Prop where
  os : w'.os = w.os
  tape : w'.tape = w.tape
  output : w'.output = w.output
  size : w.heap.size ≤ w'.heap.size
  block : ∀ k, k < w.heap.size → ¬ F k → w'.heap[k]? = w.heap[k]?
  sub : ∀ k, F' k → F k ∨ w.heap.size ≤ k
theorem Fr.refl (F : Nat → Prop) (w : World) : Fr F F w w := ⟨rfl, rfl, rfl, Nat.le_refl _, fun _ _ _ => rfl, fun _ h => .inl h⟩
theorem Fr.trans {F F' F'' : Nat → Prop} {w w' w'' : World} (h : Fr F F' w w') (k : Fr F' F'' w' w'') : Fr F F'' w w'' :=
  ⟨k.os.trans h.os, k.tape.trans h.tape, k.output.trans h.output, Nat.le_trans h.size k.size,
   fun b hb hF => (k.block b (Nat.lt_of_lt_of_le hb h.size) (fun hF' => (h.sub b hF').elim hF (fun h' => absurd hb (by omega)))).trans (h.block b hb hF),
   fun b hF => (k.sub b hF).elim (fun h' => h.sub b h') (fun h' => .inr (Nat.le_trans h.size h'))⟩
theorem Fr.below {F : Nat → Prop} {w w' : World} (h : Below w.heap.size w w') : Fr F F w w' := ⟨h.os, h.tape, h.output, h.size, fun k hk _ => h.block k hk, fun _ h => .inl h⟩
/-- Nothing below B is touched, if F lies above. -/
theorem Fr.toBelow {F F' : Nat → Prop} {w w' : World} {B : Nat} (h : Fr F F' w w') (hF : ∀ k, F k → B ≤ k) (hB : B ≤ w.heap.size) : Below B w w' :=
  ⟨h.os, h.tape, h.output, h.size, fun k hk => h.block k (Nat.lt_of_lt_of_le hk hB) (fun hf => by have := hF k hf; omega)⟩
theorem Fr.thenBelow {F F' : Nat → Prop} {w w' w'' : World} (h : Fr F F' w w') (k : Below w'.heap.size w' w'') : Fr F F' w w'' := h.trans (Fr.below k)
/-- What lies apart from F stays apart from F'. -/
theorem Fr.apart {F F' G : Nat → Prop} {w w' : World} (h : Fr F F' w w') (hG : ∀ k, G k → k < w.heap.size) (hd : ∀ k, F k → ¬ G k) : ∀ k, F' k → ¬ G k :=
  fun k hk hg => (h.sub k hk).elim (fun hf => hd k hf hg) (fun h' => absurd (hG k hg) (by omega))
theorem Fr.keeps {F F' G : Nat → Prop} {w w' : World} (h : Fr F F' w w') (hG : ∀ k, G k → k < w.heap.size) (hd : ∀ k, F k → ¬ G k) : ∀ k, G k → w'.heap[k]? = w.heap[k]? :=
  fun k hk => h.block k (hG k hk) (fun hf => hd k hf hk)
theorem Fr.setCell {F : Nat → Prop} {w : World} (a : Addr) (v : Value) (h : F a.block) : Fr F F w (w.setCell a v) :=
  ⟨rfl, rfl, rfl, by simp [World.setCell], fun k _ hk => Below.heap_setCell w a v k (fun e => hk (e ▸ h)), fun _ h => .inl h⟩
theorem Fr.alloc {F : Nat → Prop} (w : World) (o : Obj) : Fr F F w (w.alloc o) := Fr.below ((Below.refl w.heap.size w).alloc (Nat.le_refl _) o)

section
variable {P : Program} (w : World)
/-- A value of several cells, read from anywhere. -/
theorem run_loadVar_at {ty : TypeId} {d : TypeDesc} (a : Addr) (vs : List Value) (hu : P.underlying ty = some d) (hd : (match d with | .struct _ | .array _ _ => true | _ => false) = true) (hi : (P.info? ty).map (·.size) = some vs.length)
    (h : ∀ j v, vs[j]? = some v → w.cell? (a.add j) = some v) : (loadVar ty a).run P w = .ok (.agg vs.toArray) w := by
  have hl := run_loadCells_list (P := P) w a vs h
  cases hq : P.info? ty with
  | none => simp [hq] at hi
  | some i =>
    have hs : i.size = vs.length := by simpa [hq] using hi
    have hagg : (isAgg ty).run P w = .ok true w := by
      unfold isAgg
      rw [Sem.run_bind, run_underlying hu w]
      cases d <;> simp_all
    simp [loadVar, Sem.run_bind, hagg, sizeOf, typeInfo, hq, hs, hl]
/-- .. and written anywhere into a row. -/
theorem run_storeVar_at {ty : TypeId} (g o t : Nat) (vs : List Value) (cur : Array Value) (hg : w.heap[g]? = some (.cells cur t (0, 0))) (hi : (P.info? ty).map (·.size) = some vs.length) (hl : o + vs.length ≤ cur.size) (h1 : ∀ v ∈ vs, v.oneCell' = true) :
    (storeVar ty ⟨g, o, none⟩ (.agg vs.toArray)).run P w = .ok () (w.setRow g (cur.toList.take o ++ vs ++ cur.toList.drop (o + vs.length)).toArray) := by
  have := run_storeCells_at (P := P) g o t vs 0 cur w hg (by simpa using hl) h1
  cases hq : P.info? ty with
  | none => simp [hq] at hi
  | some i =>
    have hs : vs.length = i.size := by simp [hq] at hi; omega
    simp at this
    simp [storeVar, sizeOf, typeInfo, hq, Value.cells, hs, this]
end

/-! ### a disk -/
/-- Bytes as cells; a sector's value; a write's cells. -/
def secV (b : List Int) : Value := .agg (b.map (Value.int .u8)).toArray
def wrCells (p : Int × List Int) : List Value := .int .i64 p.1 :: p.2.map (Value.int .u8)
def zeroSec : List Int := List.replicate 512 0
/-- What a disk is, to whoever asks. -/
structure DS where
  n : Nat
  fast : Int → List Int
  since : List (Int × List Int)
  left : Int
  dead : Bool
/-- The disk's words hold: each sector has 512 bytes. -/
structure DS.Ok (S : DS) : Prop where
  n : S.n ≤ 4096
  fast : ∀ z, (S.fast z).length = 512
  since : ∀ p ∈ S.since, p.2.length = 512
  len : S.since.length ≤ 1000000000
  left : -1 ≤ S.left ∧ S.left ≤ 9223372036854775807
/-- A disk lies at d; F are its blocks. -/
def DiskAt (w : World) (F : Nat → Prop) (d : Nat) (S : DS) : Prop :=
  ∃ (m : Nat) (sv : Value) (f : Int → Option Value), w.heap[d]? = some (.cells #[.int .i64 S.n, .map (some m), sv, .int .i64 S.left, .bool S.dead] 132 (0, 0)) ∧
    MapI w m f ∧ (∀ z, (f z).getD (secV zeroSec) = secV (S.fast z)) ∧ w.ownsRow 0 173 513 sv S.since.length (S.since.flatMap wrCells) ∧ F = (fun k => k = d ∨ k = m ∨ sv.ownBlock = some k) ∧ S.Ok
section
variable {w w' : World} {F : Nat → Prop} {d : Nat} {S : DS}
theorem DiskAt.lt (h : DiskAt w F d S) : ∀ k, F k → k < w.heap.size := by
  obtain ⟨m, sv, f, h1, h2, h3, h4, rfl, _⟩ := h
  rintro k (rfl | rfl | hk)
  · exact (Array.getElem?_eq_some_iff.1 h1).1
  · exact h2.lt
  · exact (own_base h4 k hk).2
theorem DiskAt.at_ (h : DiskAt w F d S) : F d := by
  obtain ⟨m, sv, f, h1, h2, h3, h4, rfl, _⟩ := h
  exact .inl rfl
theorem own_at {B e sz n : Nat} {v : Value} {cs : List Value} (h : w.ownsRow B e sz v n cs) (hk : ∀ k, v.ownBlock = some k → w'.heap[k]? = w.heap[k]?) : w'.ownsRow B e sz v n cs := by
  refine ⟨h.1, ?_⟩
  rcases h.2 with h' | ⟨g, cap, cur, rfl, h3, h4, h5⟩
  · exact .inl h'
  · exact .inr ⟨g, cap, cur, rfl, h3, (hk g (by simp [Value.ownBlock])).trans h4, h5⟩
theorem DiskAt.kept (h : DiskAt w F d S) (hk : ∀ k, F k → w'.heap[k]? = w.heap[k]?) : DiskAt w' F d S := by
  obtain ⟨m, sv, f, h1, h2, h3, h4, rfl, h5⟩ := h
  exact ⟨m, sv, f, (hk d (.inl rfl)).trans h1, h2.kept (hk m (.inr (.inl rfl))), h3, own_at h4 (fun k hk' => hk k (.inr (.inr hk'))), rfl, h5⟩
theorem DiskAt.below (h : DiskAt w F d S) (hb : Below w.heap.size w w') : DiskAt w' F d S := h.kept (fun k hk => hb.block k (h.lt k hk))
end
end Go.Proofs.Ytfngadidlmbfdaa
