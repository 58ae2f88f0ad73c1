/-
  What comes in, laid open: a Block by value.
-/
import Derived.Test.YtfngadidlmbfdaaRegU
import Derived.WalkKit
import Derived.ProofKit
import Derived.OpenShut
import Derived.ShutString
import Derived.ChangeOld
import Derived.Below
import Derived.SizedLaws
import Derived.SliceStrings
import Derived.ChangeSlices
import Derived.Lib.SmallJoins
namespace Go.Proofs.Ytfngadidlmbfdaa
open Go.ChangeShapes Go.WideShapes Go.ChangeAt Go.RowKit
set_option linter.unusedVariables false
set_option linter.unusedSimpArgs false
theorem rd_open {α : Type} {enc : α → Value} {w : World} {x : Addr} {xs : List α} (h : ∀ i (hi : i < xs.length), w.cell? (x.add i) = some (enc xs[i])) : Rd enc w (some x) xs := fun hn => by
  obtain ⟨b, o, spot⟩ := x
  have h0 := h 0 hn
  have hs : spot = none := by simpa [Addr.add] using World.cell?_spot h0
  subst hs
  refine ⟨b, o, rfl, fun j hj => ?_⟩
  have := h j hj
  unfold Addr.add at this
  split at this
  · rename_i h0; subst h0; simpa using this
  · simpa using this
section
variable {H : Type} {enc : TypeId × Value → H} {w : World} {base b0 : Nat} {held : Bool} {r : Reach}
theorem open_strs {fuel : Nat} {v : Value} {x : DataW H × List MemPlace} (h : DataW.trod enc Try.prog w base (fun _ => true) held fuel 22 [v] = some x) :
    ∃ (A : Option Addr) (c : Nat) (ss : List ByteArray), v = .slice A ss.length c ∧ Rd Value.string w A ss ∧ ss.length ≤ c ∧ c ≤ maxLen ∧ ∀ s ∈ ss, s.size ≤ maxLen := by
  rcases Go.ChangeShapes.open_strings Try.underlying22 Try.underlying9 (by kernel_rfl) h with ⟨hcs, _⟩ | ⟨a, len, cap, ss, hcs, _, hl, hm, hz, _, hcell, hwz⟩
  · simp at hcs
    exact ⟨none, 0, [], hcs, Rd.nil, Nat.le_refl _, by simp [maxLen], by simp⟩
  · simp at hcs hz
    have ht : (ss.take len).length = len := by simp; omega
    refine ⟨some a, cap, ss.take len, by rw [ht]; exact hcs, rd_open fun i hi => ?_, by omega, hm, fun s hs => hwz s (List.mem_of_mem_take hs)⟩
    have hi' : i < ss.length := by omega
    rw [hcell i hi']
    simp [List.getD_eq_getElem?_getD, List.getElem?_eq_getElem hi']
theorem open_intsL {fuel : Nat} {v : Value} {x : DataW H × List MemPlace} (h : DataW.trod enc Try.prog w base (fun _ => true) held fuel 23 [v] = some x) :
    ∃ (A : Option Addr) (c : Nat) (zs : List Int), v = .slice A zs.length c ∧ Rd (Value.int .i64) w A zs ∧ zs.length ≤ c ∧ c ≤ maxLen ∧ ∀ z ∈ zs, (Lit.int .i64 z).wf = true := by
  rcases Go.ChangeShapes.open_ints Try.underlying23 Try.underlying3 (by kernel_rfl) h with ⟨hcs, _⟩ | ⟨a, len, cap, ss, hcs, _, hl, hm, hz, _, hcell, hwz⟩
  · simp at hcs
    exact ⟨none, 0, [], hcs, Rd.nil, Nat.le_refl _, by simp [maxLen], by simp⟩
  · simp at hcs hz
    have ht : (ss.take len).length = len := by simp; omega
    refine ⟨some a, cap, ss.take len, by rw [ht]; exact hcs, rd_open fun i hi => ?_, by omega, hm, fun s hs => hwz s (List.mem_of_mem_take hs)⟩
    have hi' : i < ss.length := by omega
    rw [hcell i hi']
    simp [List.getD_eq_getElem?_getD, List.getElem?_eq_getElem hi']
/-- A Block by value: what it reads as. -/
def BlkIn (w : World) (v : Value) : Prop := ∃ (la : Bool) (K V C : Option Addr) (ks vs : List ByteArray) (cs : List Int) (kc vc cc : Nat), v = .agg #[.bool la, .slice K ks.length kc, .slice V vs.length vc, .slice C cs.length cc] ∧
  Rd Value.string w K ks ∧ Rd Value.string w V vs ∧ Rd (Value.int .i64) w C cs
set_option maxRecDepth 100000 in
theorem open_block {v : Value} {d : DataW H} {p : List MemPlace} (hv : Value.okWide Try.prog w r b0 25 v) (h : DataW.Trod enc Try.prog w base (fun _ => true) held 25 v d p) : BlkIn w v := by
  obtain ⟨v0, v1, v2, v3, y0, y1, y2, y3, n, rfl, _, _, h0, h1, h2, h3⟩ := Go.Joins.open_agg4 Try.underlying25 (by kernel_rfl) (by kernel_rfl) hv h
  obtain ⟨b, hb, _⟩ := DataW.trod_bool Try.underlying4 h0
  obtain rfl : v0 = .bool b := by simpa using hb
  obtain ⟨K, kc, ks, rfl, hk, _⟩ := open_strs h1
  obtain ⟨V, vc, vs, rfl, hv2, _⟩ := open_strs h2
  obtain ⟨C, cc, cs, rfl, hc, _⟩ := open_intsL h3
  exact ⟨b, K, V, C, ks, vs, cs, kc, vc, cc, rfl, hk, hv2, hc⟩
end
end Go.Proofs.Ytfngadidlmbfdaa
