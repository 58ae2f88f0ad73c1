/-
  The document's disk (aukletref19), as it lies in memory.
-/
import Derived.Test.YtfngadidlmbfdaaDisk7
namespace Go.Proofs.Ytfngadidlmbfdaa
open Go.RowKit Go.ChangeMaps
set_option linter.unusedVariables false
set_option linter.unusedSimpArgs false
/-- What it is, to whoever asks. -/
structure RS where
  n : Nat
  fs : List (Int × List Int)
  since : List (Int × List Int)
  left : Int
  armed : Bool
  dead : Bool
structure RS.Ok (R : RS) : Prop where
  n : R.n ≤ 4096
  fs : R.fs.length ≤ 1000000000
  since : R.since.length ≤ 1000000000
  left : -1000000000 ≤ R.left ∧ R.left ≤ 9223372036854775807
/-- A sector's bytes, in a row of their own that nobody writes. -/
structure RSec (w : World) (F : Nat → Prop) (v : Value) (xs : List Int) : Prop where
  row : w.ownsRow 0 5 1 v 512 (xs.map (Value.int .u8))
  foot : ∀ k, v.ownBlock = some k → F k
def RSecs (w : World) (F : Nat → Prop) (vs : List Value) (l : List (Int × List Int)) : Prop := vs.length = l.length ∧ ∀ (k : Nat) (v : Value) (p : Int × List Int), vs[k]? = some v → l[k]? = some p → RSec w F v p.2
def ints (l : List (Int × List Int)) : List Value := l.map fun p => .int .i64 p.1
structure RefP (w : World) (F : Nat → Prop) (r : Nat) (R : RS) (av bv tv wv : Value) (bs ws : List Value) : Prop where
  cells : w.heap[r]? = some (.cells #[.int .i64 R.n, av, bv, tv, wv, .int .i64 R.left, .bool R.armed, .bool R.dead] 42 (0, 0))
  ra : w.ownsRow 0 3 1 av R.fs.length (ints R.fs)
  rb : w.ownsRow 0 33 1 bv R.fs.length bs
  rt : w.ownsRow 0 3 1 tv R.since.length (ints R.since)
  rw : w.ownsRow 0 33 1 wv R.since.length ws
  sb : RSecs w F bs R.fs
  sw : RSecs w F ws R.since
  ne1 : ∀ k, av.ownBlock = some k → tv.ownBlock ≠ some k
  ne2 : ∀ k, bv.ownBlock = some k → wv.ownBlock ≠ some k
  fr : F r
  fa : ∀ k, av.ownBlock = some k → F k
  fb : ∀ k, bv.ownBlock = some k → F k
  ft : ∀ k, tv.ownBlock = some k → F k
  fw : ∀ k, wv.ownBlock = some k → F k
  lt : ∀ k, F k → k < w.heap.size
  ok : R.Ok
def RefAt (w : World) (F : Nat → Prop) (r : Nat) (R : RS) : Prop := ∃ av bv tv wv bs ws, RefP w F r R av bv tv wv bs ws
def RetRef (w : World) (F : Nat → Prop) (r : Nat) (v : Value) (R : RS) (e : Ending) (w' : World) : Prop := e = .returned v ∧ ∃ F', RefAt w' F' r R ∧ Fr F F' w w'
section
variable {w w' : World} {F F' : Nat → Prop} {r : Nat} {R : RS} {av bv tv wv : Value} {bs ws : List Value}
theorem RSec.kept {v : Value} {xs : List Int} (h : RSec w F v xs) (hk : ∀ k, F k → w'.heap[k]? = w.heap[k]?) (hF : ∀ k, F k → F' k) : RSec w' F' v xs := ⟨own_at h.row (fun k e => hk k (h.foot k e)), fun k e => hF k (h.foot k e)⟩
theorem RSec.byte {v : Value} {xs : List Int} (h : RSec w F v xs) (hk : ∀ (k : Nat) (cs : Array Value) (t : TypeId) (fr : Nat × Nat), t = 5 → w.heap[k]? = some (Obj.cells cs t fr) → w'.heap[k]? = w.heap[k]?) (hF : ∀ k, F k → F' k) : RSec w' F' v xs := by
  refine ⟨own_at h.row (fun k e => ?_), fun k e => hF k (h.foot k e)⟩
  rcases h.row.2 with ⟨rfl, _⟩ | ⟨g, cap, cur, rfl, _, hh, _⟩
  · simp [Value.ownBlock] at e
  · have : g = k := by simpa [Value.ownBlock] using e
    subst this
    exact hk g _ _ _ rfl hh
theorem RSec.len {v : Value} {xs : List Int} (h : RSec w F v xs) : xs.length = 512 := by have := h.row.1; simpa using this
theorem RSecs.map {vs : List Value} {l : List (Int × List Int)} (h : RSecs w F vs l) (hs : ∀ v xs, RSec w F v xs → RSec w' F' v xs) : RSecs w' F' vs l := ⟨h.1, fun k v p h1 h2 => hs _ _ (h.2 k v p h1 h2)⟩
theorem RSecs.snoc {vs : List Value} {l : List (Int × List Int)} (h : RSecs w F vs l) {v : Value} {p : Int × List Int} (hv : RSec w F v p.2) : RSecs w F (vs ++ [v]) (l ++ [p]) := by
  refine ⟨by simp [h.1], fun k u q h1 h2 => ?_⟩
  have hl := h.1
  rcases Nat.lt_trichotomy k vs.length with hk | hk | hk
  · rw [List.getElem?_append_left hk] at h1
    rw [List.getElem?_append_left (by omega)] at h2
    exact h.2 k u q h1 h2
  · subst hk
    rw [List.getElem?_append_right (Nat.le_refl _), Nat.sub_self] at h1
    rw [List.getElem?_append_right (by omega), show vs.length - l.length = 0 by omega] at h2
    simp at h1 h2
    subst h1; subst h2
    exact hv
  · rw [List.getElem?_eq_none (by simp; omega)] at h1
    cases h1
theorem RefP.kept (h : RefP w F r R av bv tv wv bs ws) (hk : ∀ k, F k → w'.heap[k]? = w.heap[k]?) (hs : w.heap.size ≤ w'.heap.size) : RefP w' F r R av bv tv wv bs ws :=
  ⟨(hk r h.fr).trans h.cells, own_at h.ra (fun k e => hk k (h.fa k e)), own_at h.rb (fun k e => hk k (h.fb k e)), own_at h.rt (fun k e => hk k (h.ft k e)), own_at h.rw (fun k e => hk k (h.fw k e)),
   h.sb.map (fun _ _ x => x.kept hk fun _ z => z), h.sw.map (fun _ _ x => x.kept hk fun _ z => z), h.ne1, h.ne2, h.fr, h.fa, h.fb, h.ft, h.fw, fun k hF => Nat.lt_of_lt_of_le (h.lt k hF) hs, h.ok⟩
theorem RefP.below (h : RefP w F r R av bv tv wv bs ws) (hb : Below w.heap.size w w') : RefP w' F r R av bv tv wv bs ws := h.kept (fun k hk => hb.block k (h.lt k hk)) hb.size
theorem RefAt.kept (h : RefAt w F r R) (hk : ∀ k, F k → w'.heap[k]? = w.heap[k]?) (hs : w.heap.size ≤ w'.heap.size) : RefAt w' F r R := by
  obtain ⟨_, _, _, _, _, _, h⟩ := h
  exact ⟨_, _, _, _, _, _, h.kept hk hs⟩
theorem RefAt.below (h : RefAt w F r R) (hb : Below w.heap.size w w') : RefAt w' F r R := by
  obtain ⟨_, _, _, _, _, _, h⟩ := h
  exact ⟨_, _, _, _, _, _, h.below hb⟩
theorem RefAt.lt (h : RefAt w F r R) : ∀ k, F k → k < w.heap.size := by
  obtain ⟨_, _, _, _, _, _, h⟩ := h
  exact h.lt
theorem RefAt.at_ (h : RefAt w F r R) : F r := by
  obtain ⟨_, _, _, _, _, _, h⟩ := h
  exact h.fr
/-- A row's block is none of another type. -/
theorem own_ne_typed {k t B e sz n : Nat} {cs : Array Value} {fr : Nat × Nat} {v : Value} {xs : List Value} (hq : w.heap[k]? = some (.cells cs t fr)) (h : w.ownsRow B e sz v n xs) (hne : t ≠ e) : v.ownBlock ≠ some k := own_ne_cells hq h hne
/-- Its own cells. -/
def RCells (w : World) (r : Nat) (c0 c1 c2 c3 c4 c5 c6 c7 : Value) : Prop := w.heap[r]? = some (.cells #[c0, c1, c2, c3, c4, c5, c6, c7] 42 (0, 0))
theorem RCells.cells {c0 c1 c2 c3 c4 c5 c6 c7 : Value} (h : RCells w r c0 c1 c2 c3 c4 c5 c6 c7) :
    (w.cell? ⟨r, 0, none⟩ = some c0 ∧ w.cell? ⟨r, 1, none⟩ = some c1 ∧ w.cell? ⟨r, 2, none⟩ = some c2 ∧ w.cell? ⟨r, 3, none⟩ = some c3 ∧ w.cell? ⟨r, 4, none⟩ = some c4 ∧ w.cell? ⟨r, 5, none⟩ = some c5 ∧ w.cell? ⟨r, 6, none⟩ = some c6 ∧ w.cell? ⟨r, 7, none⟩ = some c7) ∧ ∀ i, w.frozen? ⟨r, i, none⟩ = false := by
  have hc : ∀ i, w.cell? ⟨r, i, none⟩ = (#[c0, c1, c2, c3, c4, c5, c6, c7] : Array Value)[i]? := fun i => cell_of_row w r i _ _ (0, 0) h
  exact ⟨⟨hc 0, hc 1, hc 2, hc 3, hc 4, hc 5, hc 6, hc 7⟩, fun i => frozen_of_row w r i _ _ h⟩
/-- Only its numbers are written. -/
theorem RefP.turn (h : RefP w F r R av bv tv wv bs ws) {left : Int} {armed dead : Bool} (hc : RCells w' r (.int .i64 R.n) av bv tv wv (.int .i64 left) (.bool armed) (.bool dead)) (hk : ∀ k, k ≠ r → w'.heap[k]? = w.heap[k]?) (hs : w.heap.size ≤ w'.heap.size)
    (hl : -1000000000 ≤ left ∧ left ≤ 9223372036854775807) : RefP w' F r { R with left := left, armed := armed, dead := dead } av bv tv wv bs ws := by
  have hne : ∀ {B e n : Nat} {v : Value} {xs : List Value}, w.ownsRow B e 1 v n xs → 42 ≠ e → ∀ k, v.ownBlock = some k → w'.heap[k]? = w.heap[k]? := fun ho hte k e => hk k (fun e' => own_ne_cells h.cells ho hte (e' ▸ e))
  have hsec : ∀ v xs, RSec w F v xs → RSec w' F v xs := fun v xs x => x.byte (fun k cs t fr ht hh => hk k (fun e => by
    subst e
    have := h.cells
    rw [hh] at this
    injection this with this
    injection this with _ this
    exact absurd (ht.symm.trans this) (by decide))) (fun _ z => z)
  exact ⟨hc, own_at h.ra (hne h.ra (by decide)), own_at h.rb (hne h.rb (by decide)), own_at h.rt (hne h.rt (by decide)), own_at h.rw (hne h.rw (by decide)), h.sb.map hsec, h.sw.map hsec, h.ne1, h.ne2, h.fr, h.fa, h.fb, h.ft, h.fw,
    fun k hF => Nat.lt_of_lt_of_le (h.lt k hF) hs, ⟨h.ok.n, h.ok.fs, h.ok.since, hl⟩⟩
end
end Go.Proofs.Ytfngadidlmbfdaa
