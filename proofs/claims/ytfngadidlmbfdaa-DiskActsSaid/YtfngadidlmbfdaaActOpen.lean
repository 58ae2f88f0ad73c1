/-
  What comes in, laid open: a row of calls.
-/
import Derived.Test.YtfngadidlmbfdaaDA6
import Derived.Test.YtfngadidlmbfdaaOpenB
import Derived.Deep.Slices
import Derived.Deep.Fields
import Derived.Deep.Grids
import Derived.ChangeSame
namespace Go.Proofs.Ytfngadidlmbfdaa
open Go.ChangeShapes Go.WideShapes Go.ChangeAt Go.RowKit Go.Deep
set_option linter.unusedVariables false
set_option linter.unusedSimpArgs false
section
variable {H : Type} {enc : TypeId × Value → H} {P : Program} {w : World} {base : Nat} {spare : Nat → Bool} {held : Bool}
theorem open_slice_fields {t e : TypeId} {fs : Array Field} {fuel : Nat} {cs : List Value} {x : DataW H × List MemPlace} (ht : P.underlying t = some (.slice e)) (he : P.underlying e = some (.struct fs))
    (hone : oneCellFields P fs = true) (hC : P.cellsOf e = fs.size) (h : DataW.trod enc P w base spare held fuel t cs = some x) :
    (cs = [.slice none 0 0] ∧ x = (.nil, [])) ∨
    ∃ (a : Addr) (len cap m : Nat) (D : Nat → DataW H) (Pl : Nat → List MemPlace), cs = [.slice (some a) len cap] ∧ base ≤ a.block ∧ len ≤ cap ∧ cap ≤ maxLen ∧ m = (if spare a.block then cap else len) ∧
      x = (.slice ((List.range len).map D) ((List.range (m - len)).map fun j => D (len + j)), MemPlace.row a (m * fs.size) ++ (List.range m).flatMap Pl) ∧
      ∀ i, i < m → ∃ (ys : List (DataW H × List MemPlace)) (n : Nat), D i = .agg (ys.map (·.1)) ∧ Pl i = ys.flatMap (·.2) ∧ ys.length = fs.size ∧
        ∀ (j : Nat) (f : Field), fs[j]? = some f → ∃ (v : Value) (y : DataW H × List MemPlace), w.cell? (a.add (i * fs.size + j)) = some v ∧ ys[j]? = some y ∧ DataW.trod enc P w base spare held n f.type [v] = some y := by
  rcases open_slice ht h with h0 | ⟨a, len, cap, m, n, D, Pl, hcs, hb, hl, hm, hmm, hx, hi⟩
  · exact .inl h0
  · refine .inr ⟨a, len, cap, m, D, Pl, hcs, hb, hl, hm, hmm, by rw [hC] at hx; exact hx, fun i him => ?_⟩
    obtain ⟨cs', hc, ht'⟩ := hi i him
    rw [hC] at hc
    obtain ⟨ys, n', hn', hy, hlen, hyl, hf⟩ := DataW.trod_struct he ht'
    obtain ⟨_, hcl, hat⟩ := World.cells?_some hc
    simp only [Prod.mk.injEq] at hy
    refine ⟨ys, n', hy.1, hy.2, hyl, fun j f hj => ?_⟩
    obtain ⟨ho, hk⟩ := hone_of hone j f hj
    have hjl : j < fs.size := (Array.getElem?_eq_some_iff.1 hj).1
    have hcell := hat j hjl
    have hv : cs'[j]? = some (cs'[j]'(by omega)) := List.getElem?_eq_getElem (by omega)
    have h1 := hf j f hj
    rw [ho, hk] at h1
    have hone' : (cs'.drop j).take 1 = [cs'[j]'(by omega)] := by
      rw [List.drop_eq_getElem_cons (by omega)]
      rfl
    rw [hone'] at h1
    have hys : ys[j]? = some (ys[j]'(by omega)) := List.getElem?_eq_getElem (by omega)
    refine ⟨_, _, ?_, hys, h1.trans hys⟩
    rw [← Go.Deep.add_add, hcell, hv]
theorem weights_all_mem {e : TypeId} {d : DataW H} {n : Nat} (hn : n ∈ d.weights P e) : ∀ {l : List (DataW H)}, d ∈ l → n ∈ DataW.weightsAll P e l
  | x :: r, h => by
    simp only [DataW.weightsAll, List.mem_append]
    rcases List.mem_cons.1 h with rfl | h
    · exact .inl hn
    · exact .inr (weights_all_mem hn h)
theorem sized_part {t e : TypeId} {fs : Array Field} {elems rest : List (DataW H)} (ht : P.underlying t = some (.slice e)) (he : P.underlying e = some (.struct fs)) (hw : ∀ n ∈ (DataW.slice elems rest).weights P t, n ≤ reachBytes)
    {ds : List (DataW H)} (hd : DataW.agg ds ∈ elems) {j : Nat} {f : Field} {y : DataW H} (hf : fs[j]? = some f) (hy : ds[j]? = some y) : ∀ n ∈ y.weights P f.type, n ≤ reachBytes := fun n hn => by
  refine hw n ?_
  simp only [DataW.weights, ht, List.mem_cons, List.mem_append]
  refine .inr (.inl (weights_all_mem ?_ hd))
  simp only [DataW.weights, he]
  exact DataW.weights_mem_each (j := j) (t := f.type) (by simp [hf]) hy n hn
theorem sized_len {t e : TypeId} {elems rest : List (DataW H)} (ht : P.underlying t = some (.slice e)) (hb : P.bytesOf e = 1) (hw : ∀ n ∈ (DataW.slice elems rest).weights P t, n ≤ reachBytes) : elems.length ≤ 140737488351232 := by
  have := hw _ (by simp only [DataW.weights, ht, List.mem_cons]; exact .inl rfl)
  rw [hb] at this
  unfold reachBytes at this
  omega
end
section
variable {H : Type} {enc : TypeId × Value → H} {w : World} {base b0 : Nat} {held : Bool} {r : Reach}
theorem open_bytesS {fuel : Nat} {v : Value} {x : DataW H × List MemPlace} (h : DataW.trod enc Try.prog w base (fun _ => true) held fuel 33 [v] = some x) (hw : ∀ n ∈ x.1.weights Try.prog 33, n ≤ reachBytes) :
    ∃ (A : Option Addr) (c : Nat) (zs : List Int), v = .slice A zs.length c ∧ Rd (Value.int .u8) w A zs ∧ zs.length ≤ c ∧ c ≤ maxLen ∧ zs.length ≤ 140737488351232 := by
  rcases Go.ChangeShapes.open_ints Try.underlying33 Try.underlying5 (by kernel_rfl) h with ⟨hcs, _⟩ | ⟨a, len, cap, ss, hcs, _, hl, hm, hz, hx, hcell, hwz⟩
  · simp at hcs
    exact ⟨none, 0, [], hcs, Rd.nil, Nat.le_refl _, by simp [maxLen], by simp⟩
  · simp at hcs hz
    have ht : (ss.take len).length = len := by simp; omega
    have hs := sized_len Try.underlying33 (by kernel_rfl) (by rw [hx] at hw; exact hw)
    refine ⟨some a, cap, ss.take len, by rw [ht]; exact hcs, rd_open fun i hi => ?_, by omega, hm, by simpa [lits] using hs⟩
    have hi' : i < ss.length := by omega
    rw [hcell i hi']
    simp [List.getD_eq_getElem?_getD, List.getElem?_eq_getElem hi']
theorem open_boolsS {fuel : Nat} {v : Value} {x : DataW H × List MemPlace} (h : DataW.trod enc Try.prog w base (fun _ => true) held fuel 44 [v] = some x) (hw : ∀ n ∈ x.1.weights Try.prog 44, n ≤ reachBytes) :
    ∃ (A : Option Addr) (c : Nat) (zs : List Bool), v = .slice A zs.length c ∧ Rd Value.bool w A zs ∧ zs.length ≤ c ∧ c ≤ maxLen ∧ zs.length ≤ 140737488351232 := by
  rcases Go.Deep.open_bools Try.underlying44 Try.underlying4 (by kernel_rfl) h with ⟨hcs, _⟩ | ⟨a, len, cap, B, hcs, _, hl, hm, hx, hcell⟩
  · simp at hcs
    exact ⟨none, 0, [], hcs, Rd.nil, Nat.le_refl _, by simp [maxLen], by simp⟩
  · simp at hcs
    have ht : ((List.range len).map B).length = len := by simp
    have hs := sized_len Try.underlying44 (by kernel_rfl) (by rw [hx] at hw; exact hw)
    refine ⟨some a, cap, (List.range len).map B, by rw [ht]; exact hcs, rd_open fun i hi => ?_, by omega, hm, by simpa using hs⟩
    have hi' : i < len := by omega
    rw [hcell i (by omega)]
    simp
theorem open_acts {fuel : Nat} {v : Value} {x : DataW H × List MemPlace} (h : DataW.trod enc Try.prog w base (fun _ => true) held fuel 34 [v] = some x) (hw : ∀ n ∈ x.1.weights Try.prog 34, n ≤ reachBytes) :
    ∃ (A : Option Addr) (c : Nat) (l : List ActD), v = .slice A l.length c ∧ ActsIn w A l ∧ l.length ≤ c ∧ c ≤ maxLen := by
  rcases open_slice_fields Try.underlying34 Try.underlying46 (by kernel_rfl) (by kernel_rfl) h with ⟨hcs, _⟩ | ⟨a, len, cap, m, D, Pl, hcs, _, hl, hm, hmm, hx, hf⟩
  · simp at hcs
    exact ⟨none, 0, [], hcs, ⟨fun h => absurd h (by simp), by simp⟩, Nat.le_refl _, by simp [maxLen]⟩
  · simp at hcs hmm
    subst hmm
    have hone : ∀ i, i < len → ∃ b : ActD, (∀ j u, b.cells[j]? = some u → w.cell? (a.add (i * 4 + j)) = some u) ∧ ActIn w b := by
      intro i hi
      obtain ⟨ys, n, hD, _, _, hfs⟩ := hf i (by omega)
      obtain ⟨v0, y0, c0, _, t0⟩ := hfs 0 _ rfl
      obtain ⟨v1, y1, c1, _, t1⟩ := hfs 1 _ rfl
      obtain ⟨v2, y2, c2, e2, t2⟩ := hfs 2 _ rfl
      obtain ⟨v3, y3, c3, e3, t3⟩ := hfs 3 _ rfl
      rw [hx] at hw
      have hmem : DataW.agg (ys.map (·.1)) ∈ (List.range len).map D := List.mem_map.2 ⟨i, List.mem_range.2 hi, hD⟩
      have w2 := sized_part Try.underlying34 Try.underlying46 hw hmem (j := 2) rfl (y := y2.1) (by simp [e2])
      have w3 := sized_part Try.underlying34 Try.underlying46 hw hmem (j := 3) rfl (y := y3.1) (by simp [e3])
      obtain ⟨z0, h0, _, _⟩ := DataW.trod_int Try.underlying3 t0
      obtain ⟨z1, h1, _, hz1⟩ := DataW.trod_int Try.underlying3 t1
      obtain ⟨BA, BC, B, rfl, rB, _, _, lB⟩ := open_bytesS t2 w2
      obtain ⟨KA, KC, K, rfl, rK, _, _, lK⟩ := open_boolsS t3 w3
      obtain rfl : v0 = .int .i64 z0 := by simpa using h0
      obtain rfl : v1 = .int .i64 z1 := by simpa using h1
      refine ⟨⟨z0, z1, BA, B, BC, KA, K, KC⟩, fun j u hj => ?_, ⟨rB, rK, lB, lK, ?_⟩⟩
      · match j, hj with
        | 0, hj => injection hj with hj; rw [← hj]; exact c0
        | 1, hj => injection hj with hj; rw [← hj]; exact c1
        | 2, hj => injection hj with hj; rw [← hj]; exact c2
        | 3, hj => injection hj with hj; rw [← hj]; exact c3
        | (k + 4), hj => simp [ActD.cells] at hj
      · simp only [Lit.wf, Bool.and_eq_true, decide_eq_true_eq] at hz1
        exact hz1
    haveI : Inhabited ActD := ⟨⟨0, 0, none, [], 0, none, [], 0⟩⟩
    obtain ⟨f, hf2⟩ := choose_lt hone
    have hll : ((List.range len).map f).length = len := by simp
    refine ⟨some a, m, (List.range len).map f, by rw [hll]; exact hcs, ⟨fun h0 => ?_, fun b hb => ?_⟩, by rw [hll]; exact hl, hm⟩
    · rw [hll] at h0
      obtain ⟨g, o, spot⟩ := a
      have h1 := (hf2 0 h0).1 0 _ rfl
      have hs : spot = none := by simpa [Addr.add] using World.cell?_spot h1
      subst hs
      refine ⟨g, o, rfl, fun k hk j u hj => ?_⟩
      have hk' : k < len := by rw [hll] at hk; exact hk
      have h2 := (hf2 k hk').1 j u (by simpa using hj)
      have e : (⟨g, o, none⟩ : Addr).add (k * 4 + j) = ⟨g, o + k * 4 + j, none⟩ := by
        unfold Addr.add
        split
        · rename_i e0; rw [Nat.add_assoc, e0]; rfl
        · simp [Nat.add_assoc]
      rw [e] at h2
      exact h2
    · obtain ⟨i, hi, rfl⟩ := List.mem_map.1 hb
      exact (hf2 i (List.mem_range.1 hi)).2
end
end Go.Proofs.Ytfngadidlmbfdaa
