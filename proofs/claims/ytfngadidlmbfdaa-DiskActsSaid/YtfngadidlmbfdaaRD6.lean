/-
  The document's disk: Flush, Crash.
-/
import Derived.Test.YtfngadidlmbfdaaRD5
import Derived.Laws.MakeOwn
namespace Go.Proofs.Ytfngadidlmbfdaa
open Go.RowKit Go.ChangeMaps
set_option linter.unusedVariables false
set_option linter.unusedSimpArgs false
def RS.flush (R : RS) : RS := if R.call.dead = true then R.call else R.call.keeps (fun _ => true)
def RS.crash (R : RS) (ks : List Bool) : RS := { R.keeps (keepB ks) with armed := false, dead := false }
theorem inf_bool : (Try.prog.info? 4).map (fun i => (i.zero, i.size, i.bytes)) = some (some (.bool false), 1, 1) := by kernel_rfl
theorem keepL_all (p : Nat → Bool) : ∀ (k : Nat) (l f : List (Int × List Int)), (∀ j, j < k + l.length → p j = true) → keepL p k l f = keepL (fun _ => true) k l f
  | _, [], _, _ => rfl
  | k, x :: r, f, h => by
    unfold keepL
    rw [if_pos (h k (by simp)), if_pos rfl]
    exact keepL_all p (k + 1) r _ (fun j hj => h j (by simp; omega))
theorem made_list (z : Value) (n : Nat) : (madeCells #[z] n).toList = List.replicate n z := by
  apply List.ext_getElem?
  intro j
  by_cases hj : j < n
  · simp [madeCells, hj, Nat.mod_one]
  · simp [madeCells, hj]
/-- 'make([]T, n)' of one cell each. -/
theorem wpList_make {P : Program} {ops : Array Oper} {rest : List Oper} {o : Oper} {a : Act} {w : World} {Q : Exit → Act → World → Prop} (hgd : o.guard = none) (t : TypeId) (x y : Operand) (ho : o.op = .makeSlice t x y) (n : Nat) (hx : a.eval x = .int .i64 n) (hy : a.eval y = .int .i64 n)
    {e bytes : Nat} {z : Value} (ht : P.underlying t = some (.slice e)) (hinf : (P.info? e).map (fun i => (i.zero, i.size, i.bytes)) = some (some z, 1, bytes)) (hz : z.cells = #[z]) (hb : bytes * n ≤ 281474976710656) (hn : n ≤ maxLen) (B : Nat) (hB : B ≤ w.heap.size)
    (h : ∀ w', w'.ownsRow B e 1 (.slice (some ⟨w.heap.size, 0, none⟩) n n) n (List.replicate n z) → Below w.heap.size w w' → wpList P ops Q rest (a.put o.dst (.slice (some ⟨w.heap.size, 0, none⟩) n n)) w') : wpList P ops Q (o :: rest) a w := by
  refine wpList_plain hgd fun _ hK => ?_
  obtain ⟨i, hi, h2⟩ := Option.map_eq_some_iff.1 hinf
  simp only [Prod.mk.injEq] at h2
  obtain ⟨hz1, hs1, hby⟩ := h2
  obtain ⟨w', hr, ho', hg⟩ := run_make_full (P := P) w B t e i z 1 ht hi hz1 hs1 .i64 .i64 n (by rw [hby]; exact hb) hn hB
  rw [hz, Nat.mul_one, made_list] at ho'
  unfold Oper.wp execOp
  simp only [ho, hx, hy, Sem.run_bind, hr, Result.andThen_ok, Sem.run_pure]
  exact hK _ _ (h w' ho' ⟨hg.os, hg.tape, hg.output, hg.size, fun k hk => hg.block k hk (by simp)⟩)
section
variable {w w' : World} {F : Nat → Prop} {r : Nat} {R : RS} {av bv tv wv : Value} {bs ws : List Value}
set_option maxRecDepth 100000 in
set_option maxHeartbeats 1000000 in
theorem ref_crash (h : RefAt w F r R) (A : Option Addr) (ks : List Bool) (c : Nat) (hr : Rd Value.bool w A ks) (hA : 0 < ks.length → ∀ a, A = some a → ¬ F a.block) (hkc : ks.length ≤ 9223372036854775807) (hroom : R.fs.length + R.since.length < 1000000000) :
    Calls Try.prog 55 #[.pointer (some ⟨r, 0, none⟩), .slice A ks.length c] w (RetRef w F r (.tuple #[]) (R.crash ks)) := by
  have H1 := Lib.hid (ref_keeps h A ks c hr hA hkc hroom)
  clear h hr hA
  obtain ⟨RE, hRE⟩ : ∃ RE, RE = RetRef w F r (.tuple #[]) (R.crash ks) := ⟨_, rfl⟩
  rw [← hRE]
  have HRE := Lib.hid hRE; clear hRE
  go_enter Try.func55, Try.ntmps55
  go_wp2_with fail
  refine H1.out.mono ?_
  rintro e w1 ⟨rfl, F1, hd1, hf1⟩
  have HF1 := Lib.hid hf1; clear hf1
  have HAT := Lib.hid hd1; clear hd1
  obtain ⟨av, bv, tv, wv, hc, hT⟩ := HAT.out.rcells
  have HC := Lib.hid hc; clear hc
  have HT := Lib.hid hT; clear hT
  obtain ⟨⟨c0, c1, c2, c3, c4, c5, c6, c7⟩, hf⟩ := HC.out.cells
  have f6 := hf 6
  have f7 := hf 7
  clear hf
  have hfin : Hid (RE (.returned (.tuple #[])) ((w1.setCell ⟨r, 6, none⟩ (.bool false)).setCell ⟨r, 7, none⟩ (.bool false))) := by
    show RE _ _
    rw [HRE.out]
    refine ⟨rfl, F1, HT.out _ _ false false (by have := set_same (i := 7) (v := .bool false) (set_same (i := 6) (v := .bool false) HC.out); exact this) (fun k hk => (set_other _ r 7 _ hk).trans (set_other w1 r 6 _ hk)) (by simp [World.setCell]) HAT.out.ok.left, HF1.out.trans ((Fr.setCell _ _ HAT.out.at_).trans (Fr.setCell _ _ HAT.out.at_))⟩
  go_wp2_with fail
  refine ⟨rfl, .tuple #[], by simp [results, Try.results55], hfin.out⟩
set_option maxRecDepth 100000 in
set_option maxHeartbeats 1000000 in
theorem ref_flush (h : RefAt w F r R) (hlow : -1000000000 < R.left) (hroom : R.fs.length + R.since.length < 1000000000) : Calls Try.prog 88 #[.pointer (some ⟨r, 0, none⟩)] w (RetRef w F r (.int .i64 (if R.call.dead = true then 190 else 0)) R.flush) := by
  have H1 := Lib.hid (ref_call h hlow)
  clear h
  obtain ⟨D, hD⟩ : ∃ D, D = R.call.dead := ⟨_, rfl⟩
  rw [← hD] at H1
  have HDD := Lib.hid hD
  obtain ⟨RE, hRE⟩ : ∃ RE, RE = RetRef w F r (.int .i64 (if R.call.dead = true then 190 else 0)) R.flush := ⟨_, rfl⟩
  rw [← hRE]
  clear hD
  have HRE := Lib.hid hRE; clear hRE
  go_enter Try.func88, Try.ntmps88
  go_wp2_with fail
  refine H1.out.mono ?_
  rintro e w1 ⟨rfl, F1, hd1, hf1⟩
  have HF1 := Lib.hid hf1; clear hf1
  have HAT := Lib.hid hd1
  cases D
  · obtain ⟨av, bv, tv, wv, bs, ws, hp⟩ := hd1
    have HC := Lib.hid (show RCells w1 r _ _ _ _ _ _ _ _ from hp.cells)
    obtain ⟨At, ct, htv, hct1, hct2⟩ := own_form hp.rt
    clear hp
    obtain ⟨⟨c0, c1, c2, c3, c4, c5, c6, c7⟩, _⟩ := HC.out.cells
    obtain ⟨m, hm⟩ : ∃ m, m = R.call.since.length := ⟨_, rfl⟩
    have hm2 : m = R.since.length := hm
    have hml : m ≤ 1000000000 := by omega
    rw [htv, ← hm] at c3
    rw [← hm] at hct1
    have HM := Lib.hid hm; clear hm hm2 htv
    have HWT : Hid (∀ (k : Nat) (W : World) (g : Nat), k ≤ m → W.ownsRow w1.heap.size 4 1 (.slice (some ⟨g, 0, none⟩) m m) m (List.replicate k (.bool true) ++ List.replicate (m - k) (.bool false)) → k < m →
        (W.setCell ⟨g, k, none⟩ (.bool true)).ownsRow w1.heap.size 4 1 (.slice (some ⟨g, 0, none⟩) m m) m (List.replicate (k + 1) (.bool true) ++ List.replicate (m - (k + 1)) (.bool false))) := by
      intro k W g _ ho hlt
      have := (ho.stored k (.bool true)).1
      have e : (List.replicate k (Value.bool true) ++ List.replicate (m - k) (Value.bool false)).set k (.bool true) = List.replicate (k + 1) (.bool true) ++ List.replicate (m - (k + 1)) (.bool false) := by
        apply List.ext_getElem?
        intro j
        simp only [List.getElem?_set, List.getElem?_append, List.length_append, List.length_replicate, List.getElem?_replicate]
        by_cases h1 : k = j
        · subst h1; simp; omega
        · simp only [if_neg h1]
          by_cases h2 : j < k
          · simp [h2, show j < k + 1 by omega]
          · simp only [if_neg h2, if_neg (show ¬ j < k + 1 by omega)]
            by_cases h3 : j - k < m - k
            · rw [if_pos h3, if_pos (by omega)]
            · rw [if_neg h3, if_neg (by omega)]
      rw [e] at this
      exact this
    go_wp2_with (refine wpList_make rfl 44 (.tmp 12) (.tmp 12) rfl m rfl rfl Try.underlying44 inf_bool rfl (by omega) (by unfold maxLen; omega) w1.heap.size (Nat.le_refl _) ?_; intro w2 ho2 hb2; have HO2 := Lib.hid ho2; have HB2 := Lib.hid hb2; clear ho2 hb2)
    obtain ⟨g, hg⟩ : ∃ g, g = w1.heap.size := ⟨_, rfl⟩
    rw [← hg] at HO2 ⊢
    have HGG := Lib.hid hg; clear hg c0 c1 c2 c3 c4 c5 c6 c7
    go_loopw [4] (fun i W => ∃ k : Nat, k ≤ m ∧ i = .int .i64 k ∧ Hid (Below w1.heap.size w1 W ∧ W.ownsRow w1.heap.size 4 1 (.slice (some ⟨g, 0, none⟩) m m) m (List.replicate k (.bool true) ++ List.replicate (m - k) (.bool false)))) (fun i _ => m - (intOf i).toNat)
    case atStart => exact ⟨0, Nat.zero_le _, rfl, Lib.hid ⟨HB2.out, by rw [Nat.sub_zero, ← HGG.out]; exact HO2.out⟩⟩
    case round =>
      obtain ⟨k, hk, rfl, HK⟩ := hrel
      by_cases hlt : k < m
      · have hcb := own_cell HK.out.2 (k := k) (by simp; omega)
        have hfb := own_frozen HK.out.2 k
        obtain ⟨zb, hzb⟩ : ∃ zb, zb = (List.replicate k (Value.bool true) ++ List.replicate (m - k) (Value.bool false))[k]'(by simp; omega) := ⟨_, rfl⟩
        rw [← hzb] at hcb
        clear hzb
        go_wp2
        go_roundw
        case rel => exact ⟨k + 1, by omega, by go_num, Lib.hid ⟨HK.out.1.setCell (p := ⟨g, k, none⟩) (Nat.le_of_eq HGG.out.symm) _, HWT.out k _ g hk HK.out.2 hlt⟩⟩
        case measure => simp [intOf]; omega
      · obtain rfl : k = m := by omega
        go_wp2_with fail
        have hr9 : Rd Value.bool wr (some ⟨g, 0, none⟩) (List.replicate k true) := by
          have := HK.out.2
          rw [Nat.sub_self, List.replicate_zero, List.append_nil] at this
          exact own_rd (by rw [List.map_replicate]; exact this)
        have hks := ref_keeps (HAT.out.below HK.out.1) (some ⟨g, 0, none⟩) (List.replicate k true) k hr9 (fun _ a ha hF => by injection ha with ha; subst ha; have h1 := HAT.out.lt _ hF; have h2 := HGG.out; exact absurd h1 (by show ¬ g < _; omega)) (by simp; omega) hroom
        rw [List.length_replicate] at hks
        refine hks.mono ?_
        rintro e w3 ⟨rfl, F3, hr3, hf3⟩
        have HR3 := Lib.hid hr3; have HF3 := Lib.hid hf3
        clear hks hr9 hr3 hf3
        have hfin : Hid (RE (.returned (.int .i64 0)) w3) := by
          show RE _ _
          rw [HRE.out]
          refine ⟨by rw [if_neg (by rw [← HDD.out]; decide)], F3, ?_, (HF1.out.thenBelow HK.out.1).trans HF3.out⟩
          unfold RS.flush
          rw [if_neg (by rw [← HDD.out]; decide)]
          have e : R.call.keeps (keepB (List.replicate k true)) = R.call.keeps (fun _ => true) := by
            unfold RS.keeps
            rw [keepL_all _ 0 _ _ (fun j hj => by have := HM.out; simp [keepB, show j < k by omega])]
          rw [← e]
          exact HR3.out
        go_wp2_with fail
        exact hfin.out
  · have hfin : Hid (RE (.returned (.int .i64 190)) w1) := by
      show RE _ _
      rw [HRE.out]
      refine ⟨by rw [if_pos HDD.out.symm], F1, ?_, HF1.out⟩
      unfold RS.flush
      rw [if_pos HDD.out.symm]
      exact HAT.out
    clear hd1
    go_wp2_with fail
    exact hfin.out
end
end Go.Proofs.Ytfngadidlmbfdaa
