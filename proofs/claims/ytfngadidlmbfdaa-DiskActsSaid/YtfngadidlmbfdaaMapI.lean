/-
  A map from whole numbers, as a function of its keys: looked up and written, whatever its elements are.
-/
import Derived.Test.YtfngadidlmbfdaaBase
import Derived.Maps.Keyed
namespace Go.Proofs.Ytfngadidlmbfdaa
open Go.RowKit Go.Instr Go.ChangeMaps
set_option linter.unusedVariables false
set_option linter.unusedSimpArgs false
/-- What a list of pairs holds at a key: the first. -/
def pairAt (z : Int) : List (Int × Value) → Option Value
  | [] => none
  | p :: r => if p.1 = z then some p.2 else pairAt z r
/-- The pairs with one more, or with one in another's place. -/
def pairPut (z : Int) (v : Value) : List (Int × Value) → List (Int × Value)
  | [] => [(z, v)]
  | p :: r => if p.1 = z then (z, v) :: r else p :: pairPut z v r
theorem pairAt_put (z : Int) (v : Value) (y : Int) : ∀ m, pairAt y (pairPut z v m) = if y = z then some v else pairAt y m
  | [] => by
    simp only [pairPut, pairAt]
    by_cases h : y = z
    · simp [h]
    · simp [h, Ne.symm h]
  | p :: r => by
    simp only [pairPut]
    by_cases hp : p.1 = z
    · simp only [hp, if_true, pairAt]
      by_cases h : y = z
      · simp [h]
      · simp [h, Ne.symm h]
    · simp only [hp, if_false, pairAt, pairAt_put z v y r]
      by_cases h : y = z
      · subst h; simp [hp]
      · simp [h]
def entP (e : MapEntry) : Value × Value := (e.key, e.val)
def prP (p : Int × Value) : Value × Value := (.int .i64 p.1, p.2)
theorem findNow_pairs (z : Int) : ∀ (es : List MapEntry) (m : List (Int × Value)) (i : Nat), es.map entP = m.map prP →
    (pairAt z m = none ∧ findNow (.int .i64) (.int .i64 z) es i = some none ∧ pairPut z = fun v => pairPut z v) ∨
    ∃ j v, pairAt z m = some v ∧ findNow (.int .i64) (.int .i64 z) es i = some (some (i + j, v)) ∧ (∃ e, es[j]? = some e ∧ e.key = .int .i64 z) ∧ ∀ u, pairPut z u m = m.set j (z, u)
  | [], m, i, h => by
    cases m with
    | nil => exact .inl ⟨rfl, rfl, rfl⟩
    | cons p r => simp at h
  | e :: es, m, i, h => by
    cases m with
    | nil => simp at h
    | cons p r =>
      simp only [List.map_cons, List.cons.injEq, entP, prP, Prod.mk.injEq] at h
      obtain ⟨⟨hk, hv⟩, hr⟩ := h
      by_cases hp : p.1 = z
      · refine .inr ⟨0, e.val, by simp [pairAt, hp, hv], by simp [findNow, sameNow, hk, hp], ⟨e, rfl, by rw [hk, hp]⟩, fun u => by simp [pairPut, hp]⟩
      · have hs : sameNow (.int .i64) (.int .i64 z) e.key = some false := by simp [sameNow, hk, Ne.symm hp]
        rcases findNow_pairs z es r (i + 1) hr with ⟨h1, h2, _⟩ | ⟨j, v, h1, h2, h3, h4⟩
        · exact .inl ⟨by simp [pairAt, hp, h1], by simp [findNow, hs, h2], rfl⟩
        · exact .inr ⟨j + 1, v, by simp [pairAt, hp, h1], by simp [findNow, hs, h2]; omega, by simpa using h3, fun u => by simp [pairPut, hp, h4]⟩
theorem pairPut_new (z : Int) (v : Value) : ∀ m, pairAt z m = none → pairPut z v m = m ++ [(z, v)]
  | [], _ => rfl
  | p :: r, h => by
    by_cases hp : p.1 = z
    · simp [pairAt, hp] at h
    · simp only [pairAt, hp, if_false] at h
      simp [pairPut, hp, pairPut_new z v r h]
/-- Block g is a map whose keys are whole numbers; f tells its elements. -/
def MapI (w : World) (g : Nat) (f : Int → Option Value) : Prop := ∃ es clock m, w.heap[g]? = some (.map es clock) ∧ es.toList.map entP = m.map prP ∧ ∀ z, f z = pairAt z m
section
variable {P : Program} {w : World} {g : Nat} {f : Int → Option Value}
theorem MapI.lt (h : MapI w g f) : g < w.heap.size := by
  obtain ⟨es, clock, m, hb, _⟩ := h
  exact (Array.getElem?_eq_some_iff.1 hb).1
theorem MapI.kept {w' : World} (h : MapI w g f) (hk : w'.heap[g]? = w.heap[g]?) : MapI w' g f := by
  obtain ⟨es, clock, m, hb, h⟩ := h
  exact ⟨es, clock, m, hk.trans hb, h⟩
theorem MapI.new (w : World) : MapI (w.alloc (.map #[] 0)) w.heap.size (fun _ => none) := ⟨#[], 0, [], heap_alloc_new w _, rfl, fun _ => rfl⟩
theorem MapI.lookup {t k e : TypeId} (h : MapI w g f) (ht : P.underlying t = some (.map k e)) (hk : P.underlying k = some (.int .i64)) {z : Value} (hz : (zeroValue e).run P w = .ok z w) (i : Int) :
    (Instr.lookup t (.map (some g)) (.int .i64 i) false).run P w = .ok ((f i).getD z) w := by
  obtain ⟨es, clock, m, hb, hm, hf⟩ := h
  have hck : ∀ b, (checkKey b 10000 k (.int .i64 i)).run P w = .ok () w := fun b => MapKept.run_checkKey hk (by trivial) b 9999
  rw [hf i]
  rcases findNow_pairs i es.toList m 0 hm with ⟨h1, h2, _⟩ | ⟨j, v, h1, h2, _, _⟩
  · simp [Instr.lookup, run_underlying ht, MapKept.run_getObj_map hb, hck, findKey, run_underlying hk, h2, hz, h1, Result.andThen]
  · simp [Instr.lookup, run_underlying ht, MapKept.run_getObj_map hb, hck, findKey, run_underlying hk, h2, h1, Result.andThen]
theorem MapI.update {t k e : TypeId} (h : MapI w g f) (ht : P.underlying t = some (.map k e)) (hk : P.underlying k = some (.int .i64)) (i : Int) (v : Value) :
    ∃ o, (Instr.mapUpdate t (.map (some g)) (.int .i64 i) v).run P w = .ok () (setBlock w g o) ∧ MapI (setBlock w g o) g (fun z => if z = i then some v else f z) := by
  obtain ⟨es, clock, m, hb, hm, hf⟩ := h
  have hck : ∀ b, (checkKey b 10000 k (.int .i64 i)).run P w = .ok () w := fun b => MapKept.run_checkKey hk (by trivial) b 9999
  rcases findNow_pairs i es.toList m 0 hm with ⟨h1, h2, _⟩ | ⟨j, u, h1, h2, ⟨e0, h3, h4⟩, h5⟩
  · refine ⟨.map (es.push ⟨.int .i64 i, v, clock⟩) (clock + 1), by simp [Instr.mapUpdate, run_underlying ht, MapKept.run_getObj_map hb, hck, findKey, run_underlying hk, h2, MapKept.run_setObj_map _ hb, Result.andThen, setBlock], _, _, m ++ [(i, v)], heap_setBlock_same hb _, by simp [hm, entP, prP], fun z => ?_⟩
    rw [← pairPut_new i v m h1, pairAt_put]
    show (if z = i then some v else f z) = _
    rw [hf z]
  · have hst : (keyThatStays (.int .i64 i) (.int .i64 i)).run P w = .ok (.int .i64 i) w := by simp [keyThatStays, sameBits]
    have h3' : es[j]? = some e0 := by simpa using h3
    refine ⟨.map (es.modify j fun e => { e with key := .int .i64 i, val := v }) clock, by simp [Instr.mapUpdate, run_underlying ht, MapKept.run_getObj_map hb, hck, findKey, run_underlying hk, h2, h3', h4, hst, MapKept.run_setObj_map _ hb, Result.andThen, setBlock], _, _, m.set j (i, v), heap_setBlock_same hb _, ?_, fun z => ?_⟩
    · apply List.ext_getElem?
      intro n
      have hn : (es.toList.map entP)[n]? = (m.map prP)[n]? := by rw [hm]
      simp only [List.getElem?_map, Array.toList_modify, List.getElem?_modify, List.getElem?_set] at hn ⊢
      by_cases hjn : j = n
      · subst hjn
        have hl : j < m.length := by
          have := (List.getElem?_eq_some_iff.1 h3).1
          have h6 : es.toList.length = m.length := by simpa using congrArg List.length hm
          omega
        simp [h3', entP, prP, hl]
      · simp [hjn]
        simpa using hn
    · rw [← h5 v, pairAt_put]
      show (if z = i then some v else f z) = _
      rw [hf z]
end
end Go.Proofs.Ytfngadidlmbfdaa
