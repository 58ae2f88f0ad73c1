/-
  Both Merges answer alike.
-/
import Derived.Test.YtfngadidlmbfdaaMerge2
import Derived.Test.YtfngadidlmbfdaaRMerge2
import Derived.Test.YtfngadidlmbfdaaFew
namespace Go.Proofs.Ytfngadidlmbfdaa
open Go.RowKit
theorem BlkV.below {w w' : World} {lf : Bool} {ks vs : List ByteArray} {cs : List Int} {v : Value} (h : BlkV w lf ks vs cs v) (hb : Below w.heap.size w w') : BlkV w' lf ks vs cs v := by
  obtain ⟨K, V, C, rfl, h1, h2, h3⟩ := h
  exact ⟨K, V, C, rfl, h1.below hb, h2.below hb, h3.below hb⟩
theorem mergeK_len (la : Bool) (ka : List ByteArray) (key : ByteArray) (kb : List ByteArray) (h1 : ka.length ≤ 300) (h2 : kb.length ≤ 300) : (mergeK la ka key kb).length ≤ 1000 := by
  unfold mergeK
  split <;> simp <;> omega
/-- What a Merge does, by its number. -/
def Merges (f : Nat) (la : Bool) (ka va : List ByteArray) (ca : List Int) (key : ByteArray) (lb : Bool) (kb vb : List ByteArray) (cb : List Int) (ok lf : Bool) (ks vs : List ByteArray) (cs : List Int) : Prop :=
  ∀ (K V C K' V' C' : Option Addr) (kc vc cc kc' vc' cc' : Nat) (w : World), Rd Value.string w K ka → Rd Value.string w V va → Rd (Value.int .i64) w C ca → Rd Value.string w K' kb → Rd Value.string w V' vb → Rd (Value.int .i64) w C' cb →
    Calls Try.prog f #[.agg #[.bool la, .slice K ka.length kc, .slice V va.length vc, .slice C ca.length cc], .string key, .agg #[.bool lb, .slice K' kb.length kc', .slice V' vb.length vc', .slice C' cb.length cc']] w (RetM w ok lf ks vs cs)
theorem merges_both (la : Bool) (ka va : List ByteArray) (ca : List Int) (key : ByteArray) (lb : Bool) (kb vb : List ByteArray) (cb : List Int)
    (l1 : ka.length ≤ 300) (l2 : va.length ≤ 300) (l3 : ca.length ≤ 300) (l4 : kb.length ≤ 300) (l5 : vb.length ≤ 300) (l6 : cb.length ≤ 300) :
    ∃ ok lf ks vs cs, (ks.length ≤ 1000 ∧ vs.length ≤ 1000 ∧ cs.length ≤ 1000) ∧ Merges 18 la ka va ca key lb kb vb cb ok lf ks vs cs ∧ Merges 20 la ka va ca key lb kb vb cb ok lf ks vs cs := by
  by_cases hno : canB la ka va ca = false ∨ canB lb kb vb cb = false ∨ la ≠ lb
  · refine ⟨false, false, [], [], [], by simp, ?_, ?_⟩ <;> intro K V C K' V' C' kc vc cc kc' vc' cc' w h1 h2 h3 h4 h5 h6
    · exact merge_no1 la K V C K' V' C' ka va ca kc vc cc key lb kb vb cb kc' vc' cc' w h1 h2 h3 h4 h5 h6 l1 l2 l3 l4 l5 l6 hno
    · exact rmerge_no1 la K V C K' V' C' ka va ca kc vc cc key lb kb vb cb kc' vc' cc' w h1 h2 h3 h4 h5 h6 l1 l2 l3 l4 l5 l6 hno
  · simp only [not_or, Bool.not_eq_false, ne_eq, Decidable.not_not] at hno
    obtain ⟨ha, hb, rfl⟩ := hno
    have hk := mergeK_len la ka key kb l1 l4
    by_cases hj : canB la (mergeK la ka key kb) (va ++ vb) (ca ++ cb) = true ∧ needB la (mergeK la ka key kb) (va ++ vb) (mergeK la ka key kb).length ≤ 509
    · refine ⟨true, la, mergeK la ka key kb, va ++ vb, ca ++ cb, ⟨hk, by simp; omega, by simp; omega⟩, ?_, ?_⟩ <;> intro K V C K' V' C' kc vc cc kc' vc' cc' w h1 h2 h3 h4 h5 h6
      · cases la
        · exact merge_yesF K V C K' V' C' ka va ca kc vc cc key kb vb cb kc' vc' cc' w h1 h2 h3 h4 h5 h6 l1 l2 l3 l4 l5 l6 ha hb true _ _ _ (by rw [if_pos hj]; simp)
        · exact merge_yesT K V C K' V' C' ka va ca kc vc cc key kb vb cb kc' vc' cc' w h1 h2 h3 h4 h5 h6 l1 l2 l3 l4 l5 l6 ha hb true _ _ _ (by rw [if_pos hj]; simp)
      · cases la
        · exact rmerge_yesF K V C K' V' C' ka va ca kc vc cc key kb vb cb kc' vc' cc' w h1 h2 h3 h4 h5 h6 l1 l2 l3 l4 l5 l6 ha hb true _ _ _ (by rw [if_pos hj]; simp)
        · exact rmerge_yesT K V C K' V' C' ka va ca kc vc cc key kb vb cb kc' vc' cc' w h1 h2 h3 h4 h5 h6 l1 l2 l3 l4 l5 l6 ha hb true _ _ _ (by rw [if_pos hj]; simp)
    · refine ⟨false, false, [], [], [], by simp, ?_, ?_⟩ <;> intro K V C K' V' C' kc vc cc kc' vc' cc' w h1 h2 h3 h4 h5 h6
      · cases la
        · exact merge_yesF K V C K' V' C' ka va ca kc vc cc key kb vb cb kc' vc' cc' w h1 h2 h3 h4 h5 h6 l1 l2 l3 l4 l5 l6 ha hb false _ _ _ (by rw [if_neg hj]; simp)
        · exact merge_yesT K V C K' V' C' ka va ca kc vc cc key kb vb cb kc' vc' cc' w h1 h2 h3 h4 h5 h6 l1 l2 l3 l4 l5 l6 ha hb false _ _ _ (by rw [if_neg hj]; simp)
      · cases la
        · exact rmerge_yesF K V C K' V' C' ka va ca kc vc cc key kb vb cb kc' vc' cc' w h1 h2 h3 h4 h5 h6 l1 l2 l3 l4 l5 l6 ha hb false _ _ _ (by rw [if_neg hj]; simp)
        · exact rmerge_yesT K V C K' V' C' ka va ca kc vc cc key kb vb cb kc' vc' cc' w h1 h2 h3 h4 h5 h6 l1 l2 l3 l4 l5 l6 ha hb false _ _ _ (by rw [if_neg hj]; simp)
end Go.Proofs.Ytfngadidlmbfdaa
