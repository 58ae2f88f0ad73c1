/-
  The law NodeMerges: for every two Blocks and every key, of any size and capacity, it returns true and what came in reads as it did; no condition.
-/
import Derived.Test.YtfngadidlmbfdaaRows
import Derived.Test.YtfngadidlmbfdaaNM1
import Derived.Test.YtfngadidlmbfdaaNM2
import Derived.Test.YtfngadidlmbfdaaOpenB
namespace Go.Proofs.Ytfngadidlmbfdaa
open Go.ChangeShapes Go.WideShapes Go.ChangeAt Go.RowKit
open Go.ChangeMaps (open_string shut_string)
set_option linter.unusedVariables false
theorem nodeMerges_any (key : ByteArray) (w : World) (v v' : Value) (h : BlkIn w v) (h' : BlkIn w v') : Calls Try.prog 3 #[v, .string key, v'] w (RetV w (.bool true)) := by
  obtain ⟨la, K, V, C, ka, va, ca, kc, vc, cc, rfl, hk, hv, hc⟩ := h
  obtain ⟨lb, K', V', C', kb, vb, cb, kc', vc', cc', rfl, hk', hv', hc'⟩ := h'
  by_cases hf : fewB ka va ca = false ∨ fewB kb vb cb = false
  · exact nodeMerges_not K V C K' V' C' la ka va ca kc vc cc key lb kb vb cb kc' vc' cc' w hk hv hk' hv' hf
  · simp only [not_or, Bool.not_eq_false] at hf
    obtain ⟨l1, l2, l3, _, _⟩ := fewB_parts hf.1
    obtain ⟨l4, l5, l6, _, _⟩ := fewB_parts hf.2
    obtain ⟨ok, lf, ks, vs, cs, lr, hm, hrm⟩ := merges_both la ka va ca key lb kb vb cb l1 l2 l3 l4 l5 l6
    exact nodeMerges_few K V C K' V' C' la ka va ca kc vc cc key lb kb vb cb kc' vc' cc' w hk hv hc hk' hv' hc' hf.1 hf.2 ok lf ks vs cs lr hm hrm
theorem nm_own : ownKnob Try.prog.godebug = none := by kernel_rfl
theorem nm_laidOut : laidOutB Try.prog = true := by kernel_rfl
set_option maxRecDepth 100000 in
theorem nm_lifted (os : Os) (started : os.Started) (H : Type) (enc : TypeId × Value → H) :
    ReturnsInHanded {} Try.checked os 3 .any (Rows.nodeMergesSpec.pre6 enc Try.prog Try.f3 Rows.nodeMergesRow.domain false) (Rows.nodeMergesSpec.post enc Try.prog Try.f3 false true false false) := by
  refine returnsInHanded_of_change_sized (C := Try.checked) nm_own started (by kernel_rfl) Try.func3
    (ChangeSpec.witness6 (enc := enc) (C := Try.checked) false ⟨#[], #[.agg #[.bool false, .slice none 0 0, .slice none 0 0, .slice none 0 0], .string ByteArray.empty, .agg #[.bool false, .slice none 0 0, .slice none 0 0, .slice none 0 0]], []⟩ 8 (by kernel_rfl) (by kernel_rfl) (by kernel_rfl) (by kernel_rfl)) ?_
  intro W base args ds gs before hval0 hW hcnd hsz0 _
  have hval : ∀ (j : Nat) t v, Try.f3.params[j]? = some t → args[j]? = some v → Value.okWide Try.prog W .any base t v := hval0
  have hW' := hW
  obtain ⟨p, q, hA0, hV, rfl, hfz, hnd⟩ := hW
  have hA : DataW.TrodAll enc Try.prog W 0 (fun _ => true) true Try.f3.params.toList args.toList ds p := hA0
  rw [Try.params3] at hA hval
  obtain ⟨v0, vs0, d0, ds0, p0, q0, hargs, rfl, rfl, h0, r0⟩ := trodAll_cons hA
  obtain ⟨v1, vs1, d1, ds1, p1, q1, rfl, rfl, rfl, h1, r1⟩ := trodAll_cons r0
  obtain ⟨v2, vs2, d2, ds2, p2, q2, rfl, rfl, rfl, h2, r2⟩ := trodAll_cons r1
  obtain ⟨rfl, rfl, rfl⟩ := trodAll_nil r2
  obtain rfl : args = #[v0, v1, v2] := by cases args; simp_all
  obtain ⟨rfl, rfl⟩ := trodVars_none hV
  have k0 := h0
  have lt0 : ∀ x ∈ p0, x.block < W.heap.size := by obtain ⟨m, hm⟩ := k0; exact DataW.trod_lt m _ _ _ hm
  have k2 := h2
  have lt2 : ∀ x ∈ p2, x.block < W.heap.size := by obtain ⟨m, hm⟩ := k2; exact DataW.trod_lt m _ _ _ hm
  have b0 := open_block (hval 0 25 v0 rfl rfl) h0
  obtain ⟨key, rfl, rfl, rfl, y1⟩ := open_string Try.underlying9 (hval 1 9 v1 rfl rfl) h1
  have b2 := open_block (hval 2 25 v2 rfl rfl) h2
  clear hA0 hval0 hsz0
  refine (nodeMerges_any key W v0 v2 b0 b2).mono fun e W' ⟨he, bel⟩ => ?_
  subst he
  exact ⟨_, rfl, _, _, _, [], _, [], hW', trodAll_mk1 (shut_bool Try.underlying4 _), (trodAll_cons_mk (Below.trod nm_laidOut (by kernel_rfl) (of_decide_eq_true (by kernel_rfl)) k0 bel lt0) (trodAll_cons_mk (shut_string Try.underlying9 y1) (trodAll_cons_mk (Below.trod nm_laidOut (by kernel_rfl) (of_decide_eq_true (by kernel_rfl)) k2 bel lt2) trodAll_mk0))), rfl, bel.frame _, fun h => by cases h⟩
theorem nm_over : Rows.nodeMergesRow.holds Try.pinned (OpenSpec.ofChange Rows.nodeMergesSpec) :=
  OpenClaim.holds_of_wide 3 Try.f3 rfl rfl rfl rfl rfl rfl rfl ⟨rfl, rfl, rfl, rfl, rfl⟩ rfl rfl rfl rfl rfl (by kernel_rfl) Try.func3 (by kernel_rfl)
    (of_decide_eq_true (by kernel_rfl)) (by unfold Func.isWrapper; first | (rw [if_pos (by decide +kernel)]; kernel_rfl) | (rw [if_neg (by decide +kernel)]; exact ⟨rfl, rfl⟩))
    (fun os started H enc _ => nm_lifted os started H enc)
theorem nodeMerges_proved : Rows.NodeMergesSaid := nm_over
#print axioms nodeMerges_proved
end Go.Proofs.Ytfngadidlmbfdaa
