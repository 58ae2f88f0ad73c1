/-
  Contracts of the disk's small methods: call, there, Arm, Dead, Pending, Sectors.
-/
import Derived.Test.YtfngadidlmbfdaaDisk0
import Derived.Test.YtfngadidlmbfdaaRegU
namespace Go.Proofs.Ytfngadidlmbfdaa
open Go.RowKit Go.ChangeMaps
set_option linter.unusedVariables false
set_option linter.unusedSimpArgs false
/-- What a call answers, and the disk behind it. -/
def DS.callE (S : DS) : Int := if S.dead = true ∨ S.left = 0 then 190 else 0
def DS.call (S : DS) : DS := if S.dead = true ∨ S.left = 0 then { S with dead := true } else { S with left := if 0 < S.left then S.left - 1 else S.left }
theorem DS.dead_eq {S : DS} (h : S.dead = true) : { S with dead := true } = S := by cases S; simp_all
def DS.thereE (S : DS) (i : Int) : Int := if i < 0 then 1 else if (S.n : Int) ≤ i then 8 else 0
def RetDisk (w : World) (F : Nat → Prop) (d : Nat) (v : Value) (S : DS) (e : Ending) (w' : World) : Prop := e = .returned v ∧ ∃ F', DiskAt w' F' d S ∧ Fr F F' w w'
/-- The disk's own cells. -/
def DCells (w : World) (d : Nat) (c0 c1 c2 c3 c4 : Value) : Prop := w.heap[d]? = some (.cells #[c0, c1, c2, c3, c4] 132 (0, 0))
theorem DCells.cells {w : World} {d : Nat} {c0 c1 c2 c3 c4 : Value} (h : DCells w d c0 c1 c2 c3 c4) :
    (w.cell? ⟨d, 0, none⟩ = some c0 ∧ w.cell? ⟨d, 1, none⟩ = some c1 ∧ w.cell? ⟨d, 2, none⟩ = some c2 ∧ w.cell? ⟨d, 3, none⟩ = some c3 ∧ w.cell? ⟨d, 4, none⟩ = some c4) ∧ ∀ i, w.frozen? ⟨d, i, none⟩ = false := by
  have hc : ∀ i, w.cell? ⟨d, i, none⟩ = (#[c0, c1, c2, c3, c4] : Array Value)[i]? := fun i => cell_of_row w d i _ _ (0, 0) h
  exact ⟨⟨hc 0, hc 1, hc 2, hc 3, hc 4⟩, fun i => frozen_of_row w d i _ _ h⟩
theorem set_same {w : World} {g i t : Nat} {cs : Array Value} {v : Value} (h : w.heap[g]? = some (.cells cs t (0, 0))) : (w.setCell ⟨g, i, none⟩ v).heap[g]? = some (.cells (cs.setIfInBounds i v) t (0, 0)) := heap_setCell_same w g i cs t v h
section
variable {w : World} {F : Nat → Prop} {d : Nat} {S : DS}
/-- The disk, when its left and dead are written. -/
theorem DiskAt.turn {w' : World} (h : DiskAt w F d S) {left : Int} {dead : Bool} {m0 s0 : Value} (hc : DCells w d (.int .i64 S.n) m0 s0 (.int .i64 S.left) (.bool S.dead)) (hc' : DCells w' d (.int .i64 S.n) m0 s0 (.int .i64 left) (.bool dead))
    (hk : ∀ k, k ≠ d → w'.heap[k]? = w.heap[k]?) (hl : -1 ≤ left ∧ left ≤ 9223372036854775807) : DiskAt w' F d { S with left := left, dead := dead } := by
  obtain ⟨m, sv, f, h1, h2, h3, h4, rfl, h5⟩ := h
  have e := hc.symm.trans h1
  simp at e
  obtain ⟨rfl, rfl⟩ := e
  have hm : m ≠ d := by
    rintro rfl
    obtain ⟨es, clock, ms, hb, _⟩ := h2
    rw [h1] at hb; cases hb
  have hs : ∀ k, s0.ownBlock = some k → k ≠ d := by
    rintro k hk rfl
    rcases h4.2 with ⟨rfl, _⟩ | ⟨g, cap, cur, rfl, _, hh, _⟩
    · simp [Value.ownBlock] at hk
    · have : g = k := by simpa [Value.ownBlock] using hk
      subst this
      rw [h1] at hh
      injection hh with hh
      injection hh with _ ht
      exact absurd ht (by decide)
  exact ⟨m, s0, f, hc', h2.kept (hk m hm), h3, own_at h4 (fun k hk' => hk k (hs k hk')), rfl, ⟨h5.n, h5.fast, h5.since, h5.len, hl⟩⟩
theorem DiskAt.dcells (h : DiskAt w F d S) : ∃ m sv, DCells w d (.int .i64 S.n) (.map (some m)) sv (.int .i64 S.left) (.bool S.dead) := by
  obtain ⟨m, sv, f, h1, _⟩ := h
  exact ⟨m, sv, h1⟩
set_option maxRecDepth 100000 in
theorem disk_call (h : DiskAt w F d S) : Calls Try.prog 131 #[.pointer (some ⟨d, 0, none⟩)] w (RetDisk w F d (.int .i64 S.callE) S.call) := by
  have H := Lib.hid h; clear h
  obtain ⟨m, sv, hc⟩ := H.out.dcells
  have HC := Lib.hid hc; clear hc
  obtain ⟨⟨c0, c1, c2, c3, c4⟩, hf⟩ := HC.out.cells
  have hl : -1 ≤ S.left ∧ S.left ≤ 9223372036854775807 := by obtain ⟨_, _, _, _, _, _, _, _, h5⟩ := H.out; exact h5.left
  obtain ⟨L, hL⟩ : ∃ L, L = S.left := ⟨_, rfl⟩
  obtain ⟨D, hD⟩ : ∃ D, D = S.dead := ⟨_, rfl⟩
  rw [← hL] at c3 hl
  rw [← hD] at c4
  have EL := Lib.hid hL; clear hL
  have ED := Lib.hid hD; clear hD
  have f3 := hf 3
  have f4 := hf 4
  clear hf
  by_cases h0 : L = 0
  · subst h0
    have e1 : S.callE = 190 := by simp [DS.callE, ← EL.out]
    have e2 : S.call = { S with left := S.left, dead := true } := by simp [DS.call, ← EL.out]
    go_enter Try.func131, Try.ntmps131
    go_wp2_with fail
    go_ret
    refine ⟨by first | rfl | (rw [e1]; rfl), F, ?_, Fr.setCell _ _ H.out.at_⟩
    rw [e2]
    exact H.out.turn HC.out (set_same HC.out) (fun k hk => set_other w d 4 _ hk) (by rw [← EL.out]; omega)
  · cases D
    · have hcr : ¬(S.dead = true ∨ S.left = 0) := by rw [← EL.out, ← ED.out]; simp [h0]
      have e1 : S.callE = 0 := by simp only [DS.callE, if_neg hcr]
      by_cases hp : 0 < L
      · have e2 : S.call = { S with left := S.left - 1, dead := S.dead } := by simp only [DS.call, if_neg hcr]; rw [if_pos (by rw [← EL.out]; exact hp)]
        go_enter Try.func131, Try.ntmps131
        go_wp2_with fail
        go_ret
        refine ⟨by first | rfl | (rw [e1]; rfl), F, ?_, Fr.setCell _ _ H.out.at_⟩
        rw [e2]
        exact H.out.turn HC.out (by rw [← EL.out]; exact set_same HC.out) (fun k hk => set_other w d 3 _ hk) (by rw [← EL.out]; omega)
      · have e2 : S.call = S := by simp only [DS.call, if_neg hcr]; rw [if_neg (by rw [← EL.out]; exact hp)]
        go_enter Try.func131, Try.ntmps131
        go_wp2_with fail
        go_ret
        exact ⟨by first | rfl | (rw [e1]; rfl), F, by first | exact H.out | (rw [e2]; exact H.out), Fr.refl _ _⟩
    · have hcr : S.dead = true ∨ S.left = 0 := by rw [← ED.out]; simp
      have e1 : S.callE = 190 := by simp only [DS.callE, if_pos hcr]
      have e2 : S.call = S := by
        simp only [DS.call, if_pos hcr]
        exact DS.dead_eq ED.out.symm
      go_enter Try.func131, Try.ntmps131
      go_wp2_with fail
      go_ret
      exact ⟨by first | rfl | (rw [e1]; rfl), F, by first | exact H.out | (rw [e2]; exact H.out), Fr.refl _ _⟩
set_option maxRecDepth 100000 in
theorem disk_there (h : DiskAt w F d S) (i : Int) : Calls Try.prog 132 #[.pointer (some ⟨d, 0, none⟩), .int .i64 i] w (RetDisk w F d (.int .i64 (S.thereE i)) S) := by
  have H := Lib.hid h; clear h
  obtain ⟨m, sv, hc⟩ := H.out.dcells
  obtain ⟨⟨c0, c1, c2, c3, c4⟩, _⟩ := hc.cells
  clear hc
  by_cases h1 : i < 0
  · have e1 : S.thereE i = 1 := by simp only [DS.thereE, if_pos h1]
    go_enter Try.func132, Try.ntmps132
    go_wp2_with fail
    go_ret
    exact ⟨by first | rfl | (rw [e1]; rfl), F, H.out, Fr.refl _ _⟩
  · by_cases h2 : (S.n : Int) ≤ i
    · have e1 : S.thereE i = 8 := by simp only [DS.thereE, if_neg h1, if_pos h2]
      go_enter Try.func132, Try.ntmps132
      go_wp2_with fail
      go_ret
      exact ⟨by first | rfl | (rw [e1]; rfl), F, H.out, Fr.refl _ _⟩
    · have e1 : S.thereE i = 0 := by simp only [DS.thereE, if_neg h1, if_neg h2]
      go_enter Try.func132, Try.ntmps132
      go_wp2_with fail
      go_ret
      exact ⟨by first | rfl | (rw [e1]; rfl), F, H.out, Fr.refl _ _⟩
set_option maxRecDepth 100000 in
theorem disk_arm (h : DiskAt w F d S) (n : Int) (hn : n ≤ 9223372036854775807) : Calls Try.prog 41 #[.pointer (some ⟨d, 0, none⟩), .int .i64 n] w (RetDisk w F d (.tuple #[]) { S with left := max n 0 }) := by
  have H := Lib.hid h; clear h
  obtain ⟨m, sv, hc⟩ := H.out.dcells
  have HC := Lib.hid hc; clear hc
  obtain ⟨⟨c0, c1, c2, c3, c4⟩, hf⟩ := HC.out.cells
  have f3 := hf 3
  clear hf
  have hT : ∀ x, x = max n 0 → DiskAt (w.setCell ⟨d, 3, none⟩ (.int .i64 x)) F d { S with left := max n 0 } := by
    rintro x rfl
    exact H.out.turn HC.out (set_same HC.out) (fun k hk => set_other w d 3 _ hk) (by omega)
  go_enter Try.func41, Try.ntmps41
  go_wp2_with fail
  all_goals exact ⟨rfl, .tuple #[], by simp [results, Try.results41], rfl, F, hT _ (by omega), Fr.setCell _ _ H.out.at_⟩
set_option maxRecDepth 100000 in
theorem disk_dead (h : DiskAt w F d S) : Calls Try.prog 27 #[.pointer (some ⟨d, 0, none⟩)] w (RetDisk w F d (.bool S.dead) S) := by
  have H := Lib.hid h; clear h
  obtain ⟨m, sv, hc⟩ := H.out.dcells
  obtain ⟨⟨c0, c1, c2, c3, c4⟩, _⟩ := hc.cells
  clear hc
  go_enter Try.func27, Try.ntmps27
  go_wp2_with fail
  go_ret
  exact ⟨rfl, F, H.out, Fr.refl _ _⟩
set_option maxRecDepth 100000 in
theorem disk_sectors (h : DiskAt w F d S) : Calls Try.prog 24 #[.pointer (some ⟨d, 0, none⟩)] w (RetDisk w F d (.int .i64 (S.n : Int)) S) := by
  have H := Lib.hid h; clear h
  obtain ⟨m, sv, hc⟩ := H.out.dcells
  obtain ⟨⟨c0, c1, c2, c3, c4⟩, _⟩ := hc.cells
  clear hc
  go_enter Try.func24, Try.ntmps24
  go_wp2_with fail
  go_ret
  exact ⟨rfl, F, H.out, Fr.refl _ _⟩
set_option maxRecDepth 100000 in
theorem disk_pending (h : DiskAt w F d S) : Calls Try.prog 26 #[.pointer (some ⟨d, 0, none⟩)] w (RetDisk w F d (.int .i64 S.since.length) S) := by
  have H := Lib.hid h; clear h
  obtain ⟨m, sv, f, hc, _, _, ho, _⟩ := H.out
  obtain ⟨A, c, rfl, _⟩ := own_form ho
  obtain ⟨⟨c0, c1, c2, c3, c4⟩, _⟩ := DCells.cells hc
  clear hc ho
  go_enter Try.func26, Try.ntmps26
  go_wp2_with fail
  go_ret
  exact ⟨rfl, F, H.out, Fr.refl _ _⟩
end
end Go.Proofs.Ytfngadidlmbfdaa
