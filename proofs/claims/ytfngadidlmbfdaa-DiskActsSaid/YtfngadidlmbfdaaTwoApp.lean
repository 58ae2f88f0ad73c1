/-
  Two rows that are appended to in one region, among loads and what is laid for them: what holds in between.
-/
import Derived.Test.YtfngadidlmbfdaaRegJ
import Derived.Test.YtfngadidlmbfdaaDisk0
namespace Go.Proofs.Ytfngadidlmbfdaa
open Go.RowKit
set_option linter.unusedVariables false
set_option linter.unusedSimpArgs false
/-- Rows of two types lie apart. -/
theorem own_ne {w : World} {B B' e e' sz sz' n n' : Nat} {v v' : Value} {xs xs' : List Value} (h : w.ownsRow B e sz v n xs) (h' : w.ownsRow B' e' sz' v' n' xs') (hne : e ≠ e') : ∀ k, v.ownBlock = some k → v'.ownBlock ≠ some k := by
  intro k hk hk'
  rcases h.2 with ⟨rfl, _⟩ | ⟨g, cap, cur, rfl, _, hh, _⟩
  · simp [Value.ownBlock] at hk
  · rcases h'.2 with ⟨rfl, _⟩ | ⟨g', cap', cur', rfl, _, hh', _⟩
    · simp [Value.ownBlock] at hk'
    · have e1 : g = k := by simpa [Value.ownBlock] using hk
      have e2 : g' = k := by simpa [Value.ownBlock] using hk'
      subst e1; subst e2
      rw [hh] at hh'
      injection hh' with hh'
      injection hh' with _ hh'
      exact hne hh'
structure AG (w0 : World) (e1 e2 : Nat) (av bv : Value) (n1 n2 : Nat) (ls bs : List Value) (u : Value) (vf : (Nat → Value) → Value) (i7 i8 i14 i15 : Nat) (d : Nat → Bool) (x : Nat → Value) (w : World) : Prop where
  size : w0.heap.size ≤ w.heap.size
  keep : ∀ k, k < w0.heap.size → (d i8 = true → av.ownBlock ≠ some k) → (d i15 = true → bv.ownBlock ≠ some k) → w.heap[k]? = w0.heap[k]?
  l7 : d i7 = true → ∃ g, x i7 = .slice (some ⟨g, 0, none⟩) 1 1 ∧ w0.heap.size ≤ g ∧ (d i8 = false → w.heap[g]? = some (.cells #[u] e1 (0, 0)))
  l14 : d i14 = true → ∃ g, x i14 = .slice (some ⟨g, 0, none⟩) 1 1 ∧ w0.heap.size ≤ g ∧ (d i15 = false → w.heap[g]? = some (.cells #[vf x] e2 (0, 0)))
  a8 : d i8 = true → w.ownsRow 0 e1 1 (x i8) (n1 + 1) (ls ++ [u]) ∧ ((x i8).ownBlock = av.ownBlock ∨ ∃ k, (x i8).ownBlock = some k ∧ w0.heap.size ≤ k)
  a15 : d i15 = true → w.ownsRow 0 e2 1 (x i15) (n2 + 1) (bs ++ [vf x]) ∧ ((x i15).ownBlock = bv.ownBlock ∨ ∃ k, (x i15).ownBlock = some k ∧ w0.heap.size ≤ k)
theorem row_stays {w w' : World} {k t : Nat} {cs : Array Value} {fr : Nat × Nat} (h : w.heap[k]? = some (.cells cs t fr)) (hb : Below w.heap.size w w') : w'.heap[k]? = some (.cells cs t fr) := (hb.block k (Array.getElem?_eq_some_iff.1 h).1).trans h
section
variable {w0 w w' : World} {e1 e2 : Nat} {av bv : Value} {n1 n2 : Nat} {ls bs : List Value} {u : Value} {vf : (Nat → Value) → Value} {i7 i8 i14 i15 : Nat} {d : Nat → Bool} {x : Nat → Value}
theorem AG.init (hw : w.heap = w0.heap) : AG w0 e1 e2 av bv n1 n2 ls bs u vf i7 i8 i14 i15 (fun _ => false) (fun _ => undef) w :=
  ⟨by rw [hw]; exact Nat.le_refl _, (fun _ _ _ _ => by rw [hw]), nofun, nofun, nofun, nofun⟩
/-- What lies still when new blocks are laid. -/
theorem AG.below (h : AG w0 e1 e2 av bv n1 n2 ls bs u vf i7 i8 i14 i15 d x w) (hb : Below w.heap.size w w') : AG w0 e1 e2 av bv n1 n2 ls bs u vf i7 i8 i14 i15 d x w' :=
  ⟨Nat.le_trans h.size hb.size, fun k hk h1 h2 => (hb.block k (Nat.lt_of_lt_of_le hk h.size)).trans (h.keep k hk h1 h2),
   fun hd => by obtain ⟨g, z1, z2, z3⟩ := h.l7 hd; exact ⟨g, z1, z2, fun z => row_stays (z3 z) hb⟩, fun hd => by obtain ⟨g, z1, z2, z3⟩ := h.l14 hd; exact ⟨g, z1, z2, fun z => row_stays (z3 z) hb⟩,
   fun hd => ⟨own_below (h.a8 hd).1 hb, (h.a8 hd).2⟩, fun hd => ⟨own_below (h.a15 hd).1 hb, (h.a15 hd).2⟩⟩
/-- Another operation. -/
theorem AG.other (h : AG w0 e1 e2 av bv n1 n2 ls bs u vf i7 i8 i14 i15 d x w) {j : Nat} {c : Value} (hj : j ≠ i7 ∧ j ≠ i8 ∧ j ≠ i14 ∧ j ≠ i15) (hv : vf (updV x j c) = vf x ∨ (d i14 = false ∧ d i15 = false)) : AG w0 e1 e2 av bv n1 n2 ls bs u vf i7 i8 i14 i15 (updB d j) (updV x j c) w := by
  obtain ⟨h1, h2, h3, h4⟩ := hj
  have b7 : updB d j i7 = d i7 := updB_ne d (Ne.symm h1)
  have b8 : updB d j i8 = d i8 := updB_ne d (Ne.symm h2)
  have b14 : updB d j i14 = d i14 := updB_ne d (Ne.symm h3)
  have b15 : updB d j i15 = d i15 := updB_ne d (Ne.symm h4)
  have x7 : updV x j c i7 = x i7 := updV_ne x c (Ne.symm h1)
  have x8 : updV x j c i8 = x i8 := updV_ne x c (Ne.symm h2)
  have x14 : updV x j c i14 = x i14 := updV_ne x c (Ne.symm h3)
  have x15 : updV x j c i15 = x i15 := updV_ne x c (Ne.symm h4)
  refine ⟨h.size, fun k hk z1 z2 => h.keep k hk (by rw [b8] at z1; exact z1) (by rw [b15] at z2; exact z2), ?_, ?_, ?_, ?_⟩
  · rw [b7, x7, b8]; exact h.l7
  · rw [b14, x14, b15]
    rcases hv with hv | ⟨hv, _⟩
    · rw [hv]; exact h.l14
    · intro z; rw [hv] at z; cases z
  · rw [b8, x8]; exact h.a8
  · rw [b15, x15]
    rcases hv with hv | ⟨_, hv⟩
    · rw [hv]; exact h.a15
    · intro z; rw [hv] at z; cases z
theorem AG.build7 (h : AG w0 e1 e2 av bv n1 n2 ls bs u vf i7 i8 i14 i15 d x w) (hn : i7 ≠ i8 ∧ i7 ≠ i14 ∧ i7 ≠ i15) (hd : d i8 = false) (hv : ∀ c, vf (updV x i7 c) = vf x) :
    AG w0 e1 e2 av bv n1 n2 ls bs u vf i7 i8 i14 i15 (updB d i7) (updV x i7 (.slice (some ⟨w.heap.size, 0, none⟩) 1 1)) (w.alloc (.cells #[u] e1)) := by
  have hb : Below w.heap.size w (w.alloc (.cells #[u] e1)) := (Below.refl w.heap.size w).alloc (Nat.le_refl _) _
  have h' := h.below hb
  obtain ⟨h1, h2, h3⟩ := hn
  have b8 : updB d i7 i8 = d i8 := updB_ne d (Ne.symm h1)
  have b14 : updB d i7 i14 = d i14 := updB_ne d (Ne.symm h2)
  have b15 : updB d i7 i15 = d i15 := updB_ne d (Ne.symm h3)
  have x8 : ∀ c, updV x i7 c i8 = x i8 := fun c => updV_ne x c (Ne.symm h1)
  have x14 : ∀ c, updV x i7 c i14 = x i14 := fun c => updV_ne x c (Ne.symm h2)
  have x15 : ∀ c, updV x i7 c i15 = x i15 := fun c => updV_ne x c (Ne.symm h3)
  refine ⟨h'.size, fun k hk z1 z2 => h'.keep k hk (by rw [b8] at z1; exact z1) (by rw [b15] at z2; exact z2), fun _ => ⟨w.heap.size, updV_same _ _ _, h.size, fun _ => heap_alloc_new w _⟩, ?_, ?_, ?_⟩
  · rw [b14, x14, b15, hv]; exact h'.l14
  · rw [b8]; intro z; rw [hd] at z; cases z
  · rw [b15, x15, hv]; exact h'.a15
theorem AG.build14 (h : AG w0 e1 e2 av bv n1 n2 ls bs u vf i7 i8 i14 i15 d x w) (hn : i14 ≠ i7 ∧ i14 ≠ i8 ∧ i14 ≠ i15) (hd : d i15 = false) (hv : ∀ c, vf (updV x i14 c) = vf x) :
    AG w0 e1 e2 av bv n1 n2 ls bs u vf i7 i8 i14 i15 (updB d i14) (updV x i14 (.slice (some ⟨w.heap.size, 0, none⟩) 1 1)) (w.alloc (.cells #[vf x] e2)) := by
  have hb : Below w.heap.size w (w.alloc (.cells #[vf x] e2)) := (Below.refl w.heap.size w).alloc (Nat.le_refl _) _
  have h' := h.below hb
  obtain ⟨h1, h2, h3⟩ := hn
  have b7 : updB d i14 i7 = d i7 := updB_ne d (Ne.symm h1)
  have b8 : updB d i14 i8 = d i8 := updB_ne d (Ne.symm h2)
  have b15 : updB d i14 i15 = d i15 := updB_ne d (Ne.symm h3)
  have x7 : ∀ c, updV x i14 c i7 = x i7 := fun c => updV_ne x c (Ne.symm h1)
  have x8 : ∀ c, updV x i14 c i8 = x i8 := fun c => updV_ne x c (Ne.symm h2)
  refine ⟨h'.size, fun k hk z1 z2 => h'.keep k hk (by rw [b8] at z1; exact z1) (by rw [b15] at z2; exact z2), ?_, fun _ => ⟨w.heap.size, updV_same _ _ _, h.size, fun _ => by rw [hv]; exact heap_alloc_new w _⟩, ?_, ?_⟩
  · rw [b7, x7, b8]; exact h'.l7
  · rw [b8, x8]; exact h'.a8
  · rw [b15]; intro z; rw [hd] at z; cases z
/-- The first append. -/
theorem AG.app8 (h : AG w0 e1 e2 av bv n1 n2 ls bs u vf i7 i8 i14 i15 d x w) (ha : w0.ownsRow 0 e1 1 av n1 ls) (hee : e1 ≠ e2) (hn : i8 ≠ i7 ∧ i8 ≠ i14 ∧ i8 ≠ i15) (hd : d i15 = false) (hv : ∀ c, vf (updV x i8 c) = vf x) {v8 : Value} {w8 : World} (hg : w.grownBy w8 av.ownBlock) (ho : w8.ownsRow 0 e1 1 v8 (n1 + 1) (ls ++ [u]))
    (hb : v8.ownBlock = av.ownBlock ∨ v8.ownBlock = some w.heap.size) : AG w0 e1 e2 av bv n1 n2 ls bs u vf i7 i8 i14 i15 (updB d i8) (updV x i8 v8) w8 := by
  obtain ⟨h1, h2, h3⟩ := hn
  have b7 : updB d i8 i7 = d i7 := updB_ne d (Ne.symm h1)
  have b14 : updB d i8 i14 = d i14 := updB_ne d (Ne.symm h2)
  have b15 : updB d i8 i15 = d i15 := updB_ne d (Ne.symm h3)
  have b8 : updB d i8 i8 = true := updB_same _ _
  have x7 : updV x i8 v8 i7 = x i7 := updV_ne x v8 (Ne.symm h1)
  have x14 : updV x i8 v8 i14 = x i14 := updV_ne x v8 (Ne.symm h2)
  have hlt : ∀ k, av.ownBlock = some k → k < w0.heap.size := fun k hk => (own_base ha k hk).2
  refine ⟨Nat.le_trans h.size hg.size, fun k hk z1 z2 => ?_, ?_, ?_, fun _ => ⟨by rw [updV_same]; exact ho, by rw [updV_same]; rcases hb with hb | hb; exact .inl hb; exact .inr ⟨_, hb, h.size⟩⟩, ?_⟩
  · have hne : av.ownBlock ≠ some k := z1 b8
    exact (hg.block k (Nat.lt_of_lt_of_le hk h.size) (Ne.symm hne)).trans (h.keep k hk (fun _ => hne) (fun z => by rw [hd] at z; cases z))
  · rw [b7, x7, b8]
    intro z
    obtain ⟨g, y1, y2, y3⟩ := h.l7 z
    exact ⟨g, y1, y2, fun z => by cases z⟩
  · rw [b14, x14, b15, hv]
    intro z
    obtain ⟨g, y1, y2, y3⟩ := h.l14 z
    refine ⟨g, y1, y2, fun z' => ?_⟩
    have := y3 z'
    exact (hg.block g (Array.getElem?_eq_some_iff.1 this).1 (fun e => by have := hlt g e.symm; omega)).trans this
  · rw [b15]; intro z; rw [hd] at z; cases z
/-- The second. -/
theorem AG.app15 (h : AG w0 e1 e2 av bv n1 n2 ls bs u vf i7 i8 i14 i15 d x w) (hb0 : w0.ownsRow 0 e2 1 bv n2 bs) (ha0 : w0.ownsRow 0 e1 1 av n1 ls) (hee : e1 ≠ e2) (hn : i15 ≠ i7 ∧ i15 ≠ i8 ∧ i15 ≠ i14) (hv : ∀ c, vf (updV x i15 c) = vf x) {v15 : Value} {w15 : World} (hg : w.grownBy w15 bv.ownBlock) (ho : w15.ownsRow 0 e2 1 v15 (n2 + 1) (bs ++ [vf x]))
    (hbk : v15.ownBlock = bv.ownBlock ∨ v15.ownBlock = some w.heap.size) (hd8 : d i8 = true) : AG w0 e1 e2 av bv n1 n2 ls bs u vf i7 i8 i14 i15 (updB d i15) (updV x i15 v15) w15 := by
  obtain ⟨h1, h2, h3⟩ := hn
  have b7 : updB d i15 i7 = d i7 := updB_ne d (Ne.symm h1)
  have b8 : updB d i15 i8 = d i8 := updB_ne d (Ne.symm h2)
  have b14 : updB d i15 i14 = d i14 := updB_ne d (Ne.symm h3)
  have b15 : updB d i15 i15 = true := updB_same _ _
  have x7 : updV x i15 v15 i7 = x i7 := updV_ne x v15 (Ne.symm h1)
  have x8 : updV x i15 v15 i8 = x i8 := updV_ne x v15 (Ne.symm h2)
  have x14 : updV x i15 v15 i14 = x i14 := updV_ne x v15 (Ne.symm h3)
  have hlt : ∀ k, bv.ownBlock = some k → k < w0.heap.size := fun k hk => (own_base hb0 k hk).2
  refine ⟨Nat.le_trans h.size hg.size, fun k hk z1 z2 => ?_, ?_, ?_, ?_, fun _ => ⟨by rw [updV_same, hv]; exact ho, by rw [updV_same]; rcases hbk with hb | hb; exact .inl hb; exact .inr ⟨_, hb, h.size⟩⟩⟩
  · have hne : bv.ownBlock ≠ some k := z2 b15
    exact (hg.block k (Nat.lt_of_lt_of_le hk h.size) (Ne.symm hne)).trans (h.keep k hk (fun z => z1 (by rw [b8]; exact z)) (fun _ => hne))
  · rw [b7, x7, b8]
    intro z
    obtain ⟨g, y1, y2, y3⟩ := h.l7 z
    exact ⟨g, y1, y2, fun z => by rw [hd8] at z; cases z⟩
  · rw [b14, x14, b15]
    intro z
    obtain ⟨g, y1, y2, y3⟩ := h.l14 z
    exact ⟨g, y1, y2, fun z => by cases z⟩
  · rw [b8, x8]
    intro z
    obtain ⟨y1, y2⟩ := h.a8 z
    refine ⟨own_at y1 (fun k hk => hg.block k (own_base y1 k hk).2 (fun e => ?_)), y2⟩
    rcases y2 with y2 | ⟨k', y2, y3⟩
    · exact own_ne ha0 hb0 hee k (y2 ▸ hk) e.symm
    · have : k' = k := by rw [y2] at hk; injection hk
      have := hlt k e.symm
      omega
/-- The rows ls they lie before their appends. -/
theorem AG.row8 (h : AG w0 e1 e2 av bv n1 n2 ls bs u vf i7 i8 i14 i15 d x w) (ha : w0.ownsRow 0 e1 1 av n1 ls) (hd : d i8 = false) (hd15 : d i15 = false) : w.ownsRow 0 e1 1 av n1 ls :=
  own_at ha (fun k hk => h.keep k (own_base ha k hk).2 (fun z => by rw [hd] at z; cases z) (fun z => by rw [hd15] at z; cases z))
theorem AG.row15 (h : AG w0 e1 e2 av bv n1 n2 ls bs u vf i7 i8 i14 i15 d x w) (ha : w0.ownsRow 0 e1 1 av n1 ls) (hb : w0.ownsRow 0 e2 1 bv n2 bs) (hee : e1 ≠ e2) (hd15 : d i15 = false) : w.ownsRow 0 e2 1 bv n2 bs :=
  own_at hb (fun k hk => h.keep k (own_base hb k hk).2 (fun _ => own_ne hb ha (Ne.symm hee) k hk) (fun z => by rw [hd15] at z; cases z))
end
/-- .. and behind the first store: only moves come then. -/
def AGS (G : (Nat → Bool) → (Nat → Value) → World → Prop) (I : World → Prop) (r i8 i18 f : Nat) (d : Nat → Bool) (x : Nat → Value) (w : World) : Prop :=
  (d i18 = false → G d x w) ∧ (d i18 = true → ∃ w', G d x w' ∧ I w' ∧ w = w'.setCell ⟨r, f, none⟩ (x i8))
section
variable {G : (Nat → Bool) → (Nat → Value) → World → Prop} {I : World → Prop} {r i8 i18 f : Nat} {d : Nat → Bool} {x : Nat → Value} {w : World}
theorem AGS.init (h : G (fun _ => false) (fun _ => undef) w) : AGS G I r i8 i18 f (fun _ => false) (fun _ => undef) w := ⟨fun _ => h, nofun⟩
theorem AGS.keep (h : AGS G I r i8 i18 f d x w) {j : Nat} {c : Value} (hj : j ≠ i8 ∧ j ≠ i18) (hG : ∀ w', G d x w' → G (updB d j) (updV x j c) w') : AGS G I r i8 i18 f (updB d j) (updV x j c) w := by
  have b : updB d j i18 = d i18 := updB_ne d (Ne.symm hj.2)
  have e : updV x j c i8 = x i8 := updV_ne x c (Ne.symm hj.1)
  refine ⟨fun z => hG _ (h.1 (by rw [b] at z; exact z)), fun z => ?_⟩
  rw [b] at z
  obtain ⟨w', h1, h2, h3⟩ := h.2 z
  exact ⟨w', hG _ h1, h2, by rw [e]; exact h3⟩
theorem AGS.step {j : Nat} {c : Value} (hj : j ≠ i18) (hd : d i18 = false) (hG : G (updB d j) (updV x j c) w) : AGS G I r i8 i18 f (updB d j) (updV x j c) w := by
  have b : updB d j i18 = d i18 := updB_ne d (Ne.symm hj)
  exact ⟨fun _ => hG, fun z => by rw [b, hd] at z; cases z⟩
theorem AGS.store (h : AGS G I r i8 i18 f d x w) (hne : i8 ≠ i18) (hd : d i18 = false) (hI : I w) (hG : ∀ w', G d x w' → G (updB d i18) (updV x i18 undef) w') : AGS G I r i8 i18 f (updB d i18) (updV x i18 undef) (w.setCell ⟨r, f, none⟩ (x i8)) := by
  refine ⟨fun z => (by rw [updB_same] at z; cases z), fun _ => ⟨w, hG _ (h.1 hd), hI, by rw [updV_ne x undef hne]⟩⟩
end
end Go.Proofs.Ytfngadidlmbfdaa
