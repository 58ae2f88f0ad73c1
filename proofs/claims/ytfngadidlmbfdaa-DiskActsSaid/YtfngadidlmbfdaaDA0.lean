/-
  A disk and the document's disk: what they have in common, and that each call keeps it.
-/
import Derived.Test.YtfngadidlmbfdaaRD7
import Derived.Test.YtfngadidlmbfdaaDisk10
namespace Go.Proofs.Ytfngadidlmbfdaa
open Go.RowKit
set_option linter.unusedVariables false
set_option linter.unusedSimpArgs false
structure Rel (S : DS) (R : RS) : Prop where
  n : S.n = R.n
  fast : ∀ z, S.fast z = lookL z R.fs
  since : S.since = R.since
  dead : S.dead = R.dead
  left : S.dead = false → (R.armed = true → S.left = max R.left 0) ∧ (R.armed = false → S.left = -1)
section
variable {S : DS} {R : RS}
theorem Rel.call (h : Rel S R) : Rel S.call R.call ∧ S.callE = if R.call.dead = true then 190 else 0 := by
  obtain ⟨h1, h2, h3, h4, h5⟩ := h
  have hd : R.call.dead = (R.dead || (R.armed && decide (R.left ≤ 0))) := rfl
  have hc : (S.dead = true ∨ S.left = 0) ↔ R.call.dead = true := by
    rw [hd, ← h4]
    cases hS : S.dead
    · obtain ⟨a, b⟩ := h5 hS
      cases hA : R.armed
      · have := b hA; simp; omega
      · have := a hA; simp; omega
    · simp
  unfold DS.callE DS.call
  by_cases hcc : S.dead = true ∨ S.left = 0
  · have hr := hc.1 hcc
    rw [if_pos hcc, if_pos hcc, if_pos hr]
    exact ⟨⟨h1, h2, h3, hr.symm, nofun⟩, rfl⟩
  · have hr : ¬ R.call.dead = true := fun z => hcc (hc.2 z)
    rw [if_neg hcc, if_neg hcc, if_neg hr]
    have hS : S.dead = false := by cases e : S.dead with | false => rfl | true => exact absurd (.inl e) hcc
    have hR : R.call.dead = false := by cases e : R.call.dead with | false => rfl | true => exact absurd e hr
    refine ⟨⟨h1, h2, h3, hS.trans hR.symm, fun _ => ⟨fun ha => ?_, fun ha => ?_⟩⟩, rfl⟩
    · have h6 := (h5 hS).1 ha
      have : ¬ S.left = 0 := fun z => hcc (.inr z)
      show (if 0 < S.left then S.left - 1 else S.left) = max (R.left - 1) 0
      rw [if_pos (by omega)]
      omega
    · have h6 := (h5 hS).2 ha
      show (if 0 < S.left then S.left - 1 else S.left) = -1
      rw [if_neg (by omega)]
      exact h6
theorem Rel.write (h : Rel S R) (i : Int) (b : List Int) : S.writeE i b = R.writeE i b ∧ Rel (S.write i b) (R.write i b) := by
  obtain ⟨hc, he⟩ := h.call
  have e : S.writeE i b = R.writeE i b := by
    unfold DS.writeE RS.writeE DS.thereE
    rw [he, h.n]
    by_cases hd : R.call.dead = true
    · simp [hd]
    · simp only [if_neg hd]
      by_cases h1 : i < 0
      · simp [h1]
      · by_cases h2 : (R.n : Int) ≤ i
        · simp [h1, h2]
        · simp [h1, h2]
  refine ⟨e, ?_⟩
  unfold DS.write RS.write
  rw [e]
  split
  · exact ⟨hc.n, hc.fast, by rw [h.since], hc.dead, hc.left⟩
  · exact hc
theorem Rel.bytes (h : Rel S R) (i : Int) : S.bytes i = R.bytes i := by
  unfold DS.bytes RS.bytes
  rw [h.n, h.fast]
theorem Rel.read (h : Rel S R) (i : Int) : S.readE i = R.readE i ∧ (S.readE i = 0 → S.readB i = R.readB i) := by
  obtain ⟨hc, he⟩ := h.call
  have e : S.readE i = R.readE i := by
    unfold DS.readE RS.readE DS.thereE
    rw [he, h.n]
    by_cases hd : R.call.dead = true
    · simp [hd]
    · simp only [if_neg hd]
      simp
  refine ⟨e, fun h0 => ?_⟩
  unfold DS.readB RS.readB
  rw [h.since]
  have hb : S.fast i = R.bytes i := by
    rw [e] at h0
    unfold RS.readE at h0
    unfold RS.bytes
    by_cases hd : R.call.dead = true
    · rw [if_pos hd] at h0; cases h0
    · rw [if_neg hd] at h0
      by_cases h1 : i < 0
      · rw [if_pos h1] at h0; cases h0
      · rw [if_neg h1] at h0
        by_cases h2 : (R.n : Int) ≤ i
        · rw [if_pos h2] at h0; cases h0
        · rw [if_neg (by omega)]; exact h.fast i
  rw [hb]
  rfl
theorem keepF_look (p : Nat → Bool) : ∀ (l : List (Int × List Int)) (k : Nat) (f : Int → List Int) (fs : List (Int × List Int)), (∀ z, f z = lookL z fs) → ∀ z, keepF p k l f z = lookL z (keepL p k l fs)
  | [], _, _, _, h, z => h z
  | x :: r, k, f, fs, h, z => by
    unfold keepF keepL
    refine keepF_look p r (k + 1) _ _ (fun y => ?_) z
    split
    · rw [lookL_set]
      show (if y = x.1 then x.2 else f y) = _
      rw [h y]
    · exact h y
theorem Rel.keeps (h : Rel S R) (p : Nat → Bool) : Rel (S.keeps p) (R.keeps p) := by
  refine ⟨h.n, fun z => ?_, rfl, h.dead, h.left⟩
  show keepF p 0 S.since S.fast z = lookL z (keepL p 0 R.since R.fs)
  rw [h.since]
  exact keepF_look p R.since 0 S.fast R.fs h.fast z
theorem Rel.flush (h : Rel S R) : Rel S.flush R.flush := by
  obtain ⟨hc, he⟩ := h.call
  unfold DS.flush RS.flush
  rw [he]
  by_cases hd : R.call.dead = true
  · rw [if_pos hd, if_pos hd, if_neg (by decide)]; exact hc
  · rw [if_neg hd, if_neg hd, if_pos rfl]; exact hc.keeps _
theorem Rel.arm (h : Rel S R) (n : Int) : Rel { S with left := max n 0 } { R with left := max n 0, armed := true } :=
  ⟨h.n, h.fast, h.since, h.dead, fun _ => ⟨fun _ => by show max n 0 = max (max n 0) 0; omega, nofun⟩⟩
theorem Rel.crash (h : Rel S R) (ks : List Bool) : Rel (S.crash ks) (R.crash ks) := by
  have := h.keeps (keepB ks)
  exact ⟨this.n, this.fast, this.since, rfl, fun _ => ⟨nofun, fun _ => rfl⟩⟩
theorem Rel.load {n : Int} {b : List Int} (h1 : R.n = (RS.new n).n) (h2 : R.since = []) (h3 : R.armed = false) (h4 : R.dead = false) (h5 : ∀ z, lookL z R.fs = (DS.load n b).fast z) : Rel (DS.load n b) R :=
  ⟨h1.symm, fun z => (h5 z).symm, h2.symm, h4.symm, fun _ => ⟨(fun h => by rw [h3] at h; cases h), fun _ => rfl⟩⟩
/-! ### how much there is -/
theorem DS.write_len (i : Int) (b : List Int) : (S.write i b).since.length ≤ S.since.length + 1 := by
  unfold DS.write
  split
  · simp
  · rw [DS.since_call]; omega
theorem RS.write_len (i : Int) (b : List Int) : (R.write i b).fs.length + (R.write i b).since.length ≤ R.fs.length + R.since.length + 1 := by
  unfold RS.write
  split
  · show R.fs.length + (R.since ++ [(i, pad512 b)]).length ≤ _; simp; omega
  · show R.fs.length + R.since.length ≤ _; omega
theorem keepL_len (p : Nat → Bool) : ∀ (l : List (Int × List Int)) (k : Nat) (fs : List (Int × List Int)), (keepL p k l fs).length ≤ fs.length + l.length
  | [], _, _ => by simp [keepL]
  | x :: r, k, fs => by
    unfold keepL
    have h1 := keepL_len p r (k + 1) (if p k = true then setL x.1 x.2 fs else fs)
    have h2 : (if p k = true then setL x.1 x.2 fs else fs).length ≤ fs.length + 1 := by
      split
      · exact setL_len _ _ _
      · omega
    simp
    omega
theorem RS.keeps_len (p : Nat → Bool) : (R.keeps p).fs.length + (R.keeps p).since.length ≤ R.fs.length + R.since.length := by
  have := keepL_len p R.since 0 R.fs
  show (keepL p 0 R.since R.fs).length + ([] : List (Int × List Int)).length ≤ _
  simpa using this
theorem RS.flush_len : R.flush.fs.length + R.flush.since.length ≤ R.fs.length + R.since.length := by
  unfold RS.flush
  split
  · exact Nat.le_refl _
  · exact RS.keeps_len _
theorem RS.call_left : R.call.left = R.left - 1 := rfl
theorem RS.write_left (i : Int) (b : List Int) : (R.write i b).left = R.left - 1 := by unfold RS.write; split <;> rfl
theorem RS.flush_left : R.flush.left = R.left - 1 := by unfold RS.flush; split <;> rfl
end
end Go.Proofs.Ytfngadidlmbfdaa
