/-
  The law DiskActs: for every input it returns true and what came in reads as it did; no condition.
-/
import Derived.Test.YtfngadidlmbfdaaRows
import Derived.Test.YtfngadidlmbfdaaDA7
import Derived.Test.YtfngadidlmbfdaaActOpen
namespace Go.Proofs.Ytfngadidlmbfdaa
open Go.ChangeShapes Go.WideShapes Go.ChangeAt Go.RowKit
set_option linter.unusedSimpArgs false
set_option linter.unusedVariables false
theorem da_own : ownKnob Try.prog.godebug = none := by kernel_rfl
theorem da_laidOut : laidOutB Try.prog = true := by kernel_rfl
theorem da_weights {H : Type} {t0 t1 t2 : TypeId} {d0 d1 d2 : DataW H} (h : (DataW.weightsEach Try.prog ([t0, t1, t2] ++ []) ([d0, d1, d2] ++ [])).all (· ≤ reachBytes) = true) : (∀ n ∈ d1.weights Try.prog t1, n ≤ reachBytes) ∧ (∀ n ∈ d2.weights Try.prog t2, n ≤ reachBytes) := by
  have hm := List.all_eq_true.1 h
  exact ⟨fun n hn => by simpa using hm n (DataW.weights_mem_each (j := 1) rfl rfl n hn), fun n hn => by simpa using hm n (DataW.weights_mem_each (j := 2) rfl rfl n hn)⟩
set_option maxRecDepth 100000 in
theorem da_lifted (os : Os) (started : os.Started) (H : Type) (enc : TypeId × Value → H) :
    ReturnsInHanded {} Try.checked os 4 .any (Rows.diskActsSpec.pre6 enc Try.prog Try.f4 Rows.diskActsRow.domain false) (Rows.diskActsSpec.post enc Try.prog Try.f4 false true false false) := by
  refine returnsInHanded_of_change_sized (C := Try.checked) da_own started (by kernel_rfl) Try.func4
    (ChangeSpec.witness6 (enc := enc) (C := Try.checked) false ⟨#[], #[.int .i64 0, .slice none 0 0, .slice none 0 0], []⟩ 8 (by kernel_rfl) (by kernel_rfl) (by kernel_rfl) (by kernel_rfl)) ?_
  intro W base args ds gs before hval0 hW hcnd hsz0 _
  have hval : ∀ (j : Nat) t v, Try.f4.params[j]? = some t → args[j]? = some v → Value.okWide Try.prog W .any base t v := hval0
  have hW' := hW
  obtain ⟨p, q, hA0, hV, rfl, hfz, hnd⟩ := hW
  have hA : DataW.TrodAll enc Try.prog W 0 (fun _ => true) true Try.f4.params.toList args.toList ds p := hA0
  have hsz : (DataW.weightsEach Try.prog (Try.f4.params.toList ++ []) (ds ++ gs)).all (· ≤ reachBytes) = true := hsz0
  rw [Try.params4] at hA hval hsz
  obtain ⟨v0, vs0, d0, ds0, p0, q0, hargs, rfl, rfl, h0, r0⟩ := trodAll_cons hA
  obtain ⟨v1, vs1, d1, ds1, p1, q1, rfl, rfl, rfl, h1, r1⟩ := trodAll_cons r0
  obtain ⟨v2, vs2, d2, ds2, p2, q2, rfl, rfl, rfl, h2, r2⟩ := trodAll_cons r1
  obtain ⟨rfl, rfl, rfl⟩ := trodAll_nil r2
  obtain rfl : args = #[v0, v1, v2] := by cases args; simp_all
  obtain ⟨rfl, rfl⟩ := trodVars_none hV
  obtain ⟨w1, w2⟩ := da_weights hsz
  have k1 := h1
  have lt1 : ∀ x ∈ p1, x.block < W.heap.size := by obtain ⟨m, hm⟩ := k1; exact DataW.trod_lt m _ _ _ hm
  have k2 := h2
  have lt2 : ∀ x ∈ p2, x.block < W.heap.size := by obtain ⟨m, hm⟩ := k2; exact DataW.trod_lt m _ _ _ hm
  obtain ⟨z, rfl, rfl, rfl, hz⟩ := open_int Try.underlying3 (hval 0 3 v0 rfl rfl) h0
  obtain ⟨A1, n1, c1, rfl⟩ := okWide_slice Try.underlying33 (hval 1 33 v1 rfl rfl)
  obtain ⟨A2, n2, c2, rfl⟩ := okWide_slice Try.underlying34 (hval 2 34 v2 rfl rfl)
  obtain ⟨m1, hm1⟩ := h1
  obtain ⟨m2, hm2⟩ := h2
  obtain ⟨IA, ic, img, e1, ri, li1, li2, _⟩ := open_bytesS (v := .slice A1 n1 c1) hm1 w1
  obtain ⟨AL, lc, l, e2, rl, ll1, ll2⟩ := open_acts (v := .slice A2 n2 c2) hm2 w2
  have hz' : -9223372036854775808 ≤ z ∧ z ≤ 9223372036854775807 := by simp only [Lit.wf, Bool.and_eq_true, decide_eq_true_eq] at hz; exact hz
  rw [e1, e2]
  rw [e1, e2] at hW'
  rw [e1] at k1
  rw [e2] at k2
  clear hA0 hval0 hsz0 hm1 hm2 w1 w2 hsz
  refine (diskActs_any W z hz' IA img ic ri ⟨li1, li2⟩ AL l lc rl ⟨ll1, ll2⟩).mono fun e W' ⟨he, bel⟩ => ?_
  subst he
  exact ⟨_, rfl, _, _, _, [], _, [], hW', trodAll_mk1 (shut_bool Try.underlying4 _), (trodAll_cons_mk (shut_int Try.underlying3 hz) (trodAll_cons_mk (Below.trod da_laidOut (by kernel_rfl) (of_decide_eq_true (by kernel_rfl)) k1 bel lt1) (trodAll_cons_mk (Below.trod da_laidOut (by kernel_rfl) (of_decide_eq_true (by kernel_rfl)) k2 bel lt2) trodAll_mk0))), rfl, bel.frame _, fun h => by cases h⟩
theorem da_over : Rows.diskActsRow.holds Try.pinned (OpenSpec.ofChange Rows.diskActsSpec) :=
  OpenClaim.holds_of_wide 4 Try.f4 rfl rfl rfl rfl rfl rfl rfl ⟨rfl, rfl, rfl, rfl, rfl⟩ rfl rfl rfl rfl rfl (by kernel_rfl) Try.func4 (by kernel_rfl)
    (of_decide_eq_true (by kernel_rfl)) (by unfold Func.isWrapper; first | (rw [if_pos (by decide +kernel)]; kernel_rfl) | (rw [if_neg (by decide +kernel)]; exact ⟨rfl, rfl⟩))
    (fun os started H enc _ => da_lifted os started H enc)
theorem diskActs_proved : Rows.DiskActsSaid := da_over
#print axioms diskActs_proved
end Go.Proofs.Ytfngadidlmbfdaa
