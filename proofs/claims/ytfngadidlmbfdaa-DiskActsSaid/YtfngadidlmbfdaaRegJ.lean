/-
  The region rule once more, with any invariant of the world in place of 'nothing below is touched'.
-/
import Derived.Test.YtfngadidlmbfdaaRegU
namespace Go.Proofs.Ytfngadidlmbfdaa
open Go.RowKit
set_option linter.unusedVariables false
set_option linter.unusedSimpArgs false
section
variable {P : Program} {ops : Array Oper} {Q : Exit → Act → World → Prop}
structure RInvJ (ops : Array Oper) (n : Nat) (a0 : Act) (I : World → Prop) (D : Nat → Option Value) (G : (Nat → Bool) → (Nat → Value) → World → Prop) (listed : Array Bool) (d : Nat → Bool) (x : Nat → Value) (a : Act) (w : World) : Prop where
  head : HeadInv .any ops n listed
  done : ∀ j, j < n → d j = listed.getD j false
  size : a.tmps.size = a0.tmps.size
  defers : a.defers = a0.defers
  same : ∀ s, (∀ j, j < n → listed.getD j false = true → rdst ops j ≠ some s) → a.tmps[s]? = a0.tmps[s]?
  below : I w
  vals : ∀ j, j < n → listed.getD j false = true → rslot a (rdst ops j) = x j ∧ ∀ c, D j = some c → x j = c
  rel : G d x w

def RStepJ (P : Program) (ops : Array Oper) (Q : Exit → Act → World → Prop) (I : World → Prop) (D : Nat → Option Value) (G : (Nat → Bool) → (Nat → Value) → World → Prop) (i : Nat) (d : Nat → Bool) (x : Nat → Value) (a : Act) (w : World) : Prop :=
  wpOp P ops Q i (fun a' w' => ∃ v, a' = a.put (rdst ops i) v ∧ (rdst ops i = none → v = undef) ∧ (∀ c, D i = some c → v = c) ∧ G (updB d i) (updV x i v) w' ∧ I w') a w

theorem region_frontJ {id : Nat} {a0 : Act} {w0 : World} (hm : P.follows .mixedOrders = true) (I : World → Prop) (hI : I { w0 with drawn := w0.drawn + 1 }) (D : Nat → Option Value) (G : (Nat → Bool) → (Nat → Value) → World → Prop) (n N : Nat) (hn : n < ops.size) (hN : a0.tmps.size = N)
    (hgood : rgoodB ops n N = true) (hs : Region.sinkB .any ops n = true) (hc : Region.chainB .any ops n = true)
    (hq : Region.seqB .any ops (ops.size - n) n (Array.replicate n true ++ Array.replicate (ops.size - n) false) = true)
    (init : ∀ w, w.heap = w0.heap → G (fun _ => false) (fun _ => undef) w)
    (step : ∀ i, i < n → ∀ d x a w, I w → (∀ s, (∀ j, j < n → rdst ops j ≠ some s) → a.tmps[s]? = a0.tmps[s]?) →
      (∀ j ∈ rancs ops ops.size i, d j = true ∧ rslot a (rdst ops j) = x j ∧ ∀ c, D j = some c → x j = c) → d i = false → (∀ j, j < n → i ∈ rancs ops ops.size j → d j = false) → G d x w → RStepJ P ops Q I D G i d x a w)
    (fin : ∀ (d : Nat → Bool) (x : Nat → Value) w, I w → (∀ j, j < n → d j = true ∧ ∀ c, D j = some c → x j = c) → G d x w → wpList P ops Q (ops.toList.drop n) (rfill ops x n a0) w) :
    (Code.region id ops true).wp P Q a0 w0 := by
  refine wp_region_any hm ?_
  have hback : ∀ i oi, ops[i]? = some oi → ∀ e ∈ oi.after, Region.binds .any e = true → e.on < i := by
    intro i oi hoi e he hb
    simp only [rgoodB, Bool.and_eq_true] at hgood
    have h1 := List.all_eq_true.1 hgood.1.1 i (List.mem_range.2 (Array.getElem?_eq_some_iff.1 hoi).1)
    rw [hoi] at h1
    have h2 := (Array.all_eq_true'.1 h1) e he
    simpa [hb] using h2
  have hdist : ∀ i j s, i < n → j < n → i ≠ j → rdst ops i = some s → rdst ops j ≠ some s := by
    intro i j s hi hj hne hd
    simp only [rgoodB, Bool.and_eq_true] at hgood
    have h1 := List.all_eq_true.1 (List.all_eq_true.1 hgood.1.2 i (List.mem_range.2 hi)) j (List.mem_range.2 hj)
    simp only [Bool.or_eq_true, decide_eq_true_eq] at h1
    rcases h1 with (h1 | h1) | h1
    · exact absurd h1 hne
    · rw [h1] at hd; cases hd
    · intro h; exact h1 (hd.trans h.symm)
  have hslot : ∀ i s, i < n → rdst ops i = some s → s < a0.tmps.size := by
    intro i s hi hd
    simp only [rgoodB, Bool.and_eq_true] at hgood
    have h1 := List.all_eq_true.1 hgood.2 i (List.mem_range.2 hi)
    rw [hd] at h1
    rw [hN]
    simpa using h1
  have key : ∀ (f : Nat) (listed : Array Bool) (d : Nat → Bool) (x : Nat → Value) (a : Act) (w : World), rleft n listed = f → RInvJ ops n a0 I D G listed d x a w → wpAny P .any ops Q (f + (ops.size - n)) listed a w := by
    intro f
    induction f with
    | zero =>
      intro listed d x a w hf inv
      have hall := rleft_zero hf
      have hl : listed = Array.replicate n true ++ Array.replicate (ops.size - n) false := by
        apply Array.ext
        · simp [inv.head.size]; omega
        · intro i h1 h2
          by_cases hi : i < n
          · have := hall i hi
            rw [Array.getElem_append_left (by simpa using hi)]
            simpa [h1] using this
          · have := inv.head.tail i (by omega) (by rw [← inv.head.size]; exact h1)
            rw [Array.getElem_append_right (by simpa using hi)]
            simpa [h1] using this
      have hx := fin d x w inv.below (fun j hj => ⟨by rw [inv.done j hj]; exact hall j hj, (inv.vals j hj (hall j hj)).2⟩) inv.rel
      have ha : rfill ops x n a0 = a := by
        refine act_ext (fun s => ?_) ((rfill_size _ _ _).2.trans inv.defers.symm)
        by_cases hsd : ∃ j, j < n ∧ rdst ops j = some s
        · obtain ⟨j, hj, hd⟩ := hsd
          by_cases hss : s < a0.tmps.size
          · rw [rfill_at _ s n a0 (fun i j hi hj => hdist i j s hi hj) j hj hd hss]
            rw [← (inv.vals j hj (hall j hj)).1]
            simp only [hd, rslot]
            rw [Array.getElem?_eq_getElem (by rw [inv.size]; exact hss)]
            simp [inv.size, hss]
          · rw [Array.getElem?_eq_none (by rw [(rfill_size _ _ _).1]; omega), Array.getElem?_eq_none (by rw [inv.size]; omega)]
        · rw [rfill_other _ s n a0 (fun j hj hd => hsd ⟨j, hj, hd⟩)]
          exact (inv.same s (fun j hj _ hd => hsd ⟨j, hj, hd⟩)).symm
      rw [ha] at hx
      have hlen : (ops.toList.drop n).length = ops.size - n := by simp
      rw [Nat.zero_add, ← hlen]
      refine wpAny_of_seq (ops.toList.drop n) n listed a w (fun j => ?_) (by rw [hlen, hl]; exact hq) hx
      rw [List.getElem?_drop]
      simp
    | succ f ih =>
      intro listed d x a w hf inv
      -- the least one to come is ready
      have hex : ∃ i, i < n ∧ listed.getD i false = false := by
        by_cases h : ∃ i, i < n ∧ listed.getD i false = false
        · exact h
        · exfalso
          have : rleft n listed = 0 := by
            unfold rleft
            rw [List.length_eq_zero_iff, List.filter_eq_nil_iff]
            intro i hi
            have hi' := List.mem_range.1 hi
            cases hb : listed.getD i false with
            | true => simp
            | false => exact absurd ⟨i, hi', hb⟩ h
          omega
      have hready : ∃ i, i < n ∧ i ∈ Region.ready .any ops listed := by
        obtain ⟨i0, hi0, hl0⟩ := hex
        have : ∀ k i, i ≤ k → i < n → listed.getD i false = false → ∃ i, i < n ∧ i ∈ Region.ready .any ops listed := by
          intro k
          induction k with
          | zero =>
            intro i hik hin hl
            obtain rfl : i = 0 := by omega
            refine ⟨0, hin, mem_ready.2 ⟨getD_in (by rw [inv.head.size]; omega) hl, ops[0]'(by omega), Array.getElem?_eq_getElem (by omega), fun e he hb => ?_⟩⟩
            have := hback 0 _ (Array.getElem?_eq_getElem (by omega)) e he hb
            omega
          | succ k ihk =>
            intro i hik hin hl
            by_cases hw : ∃ i', i' < i ∧ listed.getD i' false = false
            · obtain ⟨i', hi', hl'⟩ := hw
              exact ihk i' (by omega) (by omega) hl'
            · refine ⟨i, hin, mem_ready.2 ⟨getD_in (by rw [inv.head.size]; omega) hl, ops[i]'(by omega), Array.getElem?_eq_getElem (by omega), fun e he hb => ?_⟩⟩
              have hlt := hback i _ (Array.getElem?_eq_getElem (by omega)) e he hb
              cases hb' : listed.getD e.on false with
              | true => rfl
              | false => exact absurd ⟨e.on, hlt, hb'⟩ hw
        exact this i0 i0 (Nat.le_refl _) hi0 hl0
      obtain ⟨i0, hi0, hr0⟩ := hready
      rw [show f + 1 + (ops.size - n) = (f + (ops.size - n)) + 1 by omega]
      refine ⟨fun h => (by rw [h] at hr0; cases hr0), fun i hi => ?_⟩
      have hin : i < n := by
        rcases Nat.lt_or_ge i n with h | h
        · exact h
        · exact absurd hi (tail_waits hs hc hn inv.head _ i0 rfl hi0 (mem_ready.1 hr0).1 i h)
      obtain ⟨hun, oi, hoi, hdeps⟩ := mem_ready.1 hi
      have hunf := getD_both hun
      have hsz : i < listed.size := by rw [inv.head.size]; omega
      have hanc : ∀ j ∈ rancs ops ops.size i, j < n ∧ listed.getD j false = true := fun j hj => by
        have hjl : listed.getD j false = true := rancs_done inv.head.closed ops.size i (fun oi' hoi' e he hb => by
          have : oi' = oi := Option.some.inj (hoi'.symm.trans hoi)
          subst this
          exact hdeps e he hb) j hj
        refine ⟨?_, hjl⟩
        rcases Nat.lt_or_ge j n with h | h
        · exact h
        · have hjs : j < ops.size := by
            rcases Nat.lt_or_ge j listed.size with h' | h'
            · rw [inv.head.size] at h'; exact h'
            · simp [Array.getElem?_eq_none h', Array.getD_eq_getD_getElem?] at hjl
          have := inv.head.tail j h hjs
          rw [getD_both this] at hjl
          cases hjl
      have hst := step i hin d x a w inv.below (fun s hs' => inv.same s (fun j hj _ => hs' j hj)) (fun j hj => by
        obtain ⟨h1, h2⟩ := hanc j hj
        exact ⟨by rw [inv.done j h1]; exact h2, inv.vals j h1 h2⟩) (by rw [inv.done i hin]; exact hunf) (fun j hj hij => by
        rw [inv.done j hj]
        cases hjl : listed.getD j false with
        | false => rfl
        | true =>
          have := rancs_done inv.head.closed ops.size j (fun oj hoj e he hb => inv.head.closed j oj hoj hjl e he hb) i hij
          rw [hunf] at this
          cases this) inv.rel
      refine wpOp_mono ?_ hst
      rintro a' w' ⟨v, rfl, hnone, hD, hG, hb⟩
      refine ih _ (updB d i) (updV x i v) _ _ ?_ ?_
      · have := rleft_set n hin hsz hunf
        omega
      · have hpt := put_tmps a (rdst ops i) v
        refine ⟨inv.head.set hi hin, ?_, hpt.1.trans inv.size, hpt.2.trans inv.defers, ?_, hb, ?_, hG⟩
        · intro j hj
          by_cases hji : i = j
          · subst hji; rw [updB_same]; simp [hsz]
          · rw [updB_ne d (Ne.symm hji), getD_set_ne false hji]; exact inv.done j hj
        · intro s hs'
          have hne : rdst ops i ≠ some s := hs' i hin (by simp [hsz])
          rw [put_get, if_neg hne]
          exact inv.same s (fun j hj hl => hs' j hj (by
            by_cases hji : i = j
            · subst hji; simp [hsz]
            · rw [getD_set_ne false hji]; exact hl))
        · intro j hj hl
          by_cases hji : i = j
          · subst hji
            rw [updV_same]
            refine ⟨?_, hD⟩
            cases hd : rdst ops i with
            | none => rw [hnone hd]; rfl
            | some s =>
              have hss : s < a.tmps.size := by rw [inv.size]; exact hslot i s hin hd
              simp [rslot, Act.put, hss]
          · rw [getD_set_ne false hji] at hl
            have hold := inv.vals j hj hl
            rw [updV_ne x v (Ne.symm hji)]
            refine ⟨?_, hold.2⟩
            rw [← hold.1]
            cases hd : rdst ops j with
            | none => rfl
            | some s =>
              simp only [rslot, Array.getD_eq_getD_getElem?]
              rw [put_get, if_neg (hdist j i s hj hin (Ne.symm hji) hd)]
  have h0 : rleft n (Array.replicate ops.size false) = n := by
    unfold rleft
    rw [List.filter_eq_self.2 (by intro i _; simp [Array.getD_eq_getD_getElem?, Array.getElem?_replicate]; split <;> simp), List.length_range]
  have := key n (Array.replicate ops.size false) (fun _ => false) (fun _ => undef) a0 { w0 with drawn := w0.drawn + 1 } h0 ⟨⟨by simp, (fun j oj _ h => by
      rw [getD_replicate_false] at h; cases h), (fun t _ ht => by simp [ht])⟩, fun j _ => by rw [getD_replicate_false], rfl, rfl, fun _ _ => rfl, hI, (fun j _ h => by rw [getD_replicate_false] at h; cases h), init _ rfl⟩
  rw [show n + (ops.size - n) = ops.size by omega] at this
  exact this
end
section
variable {P : Program} {ops : Array Oper} {Q : Exit → Act → World → Prop} {I : World → Prop} {D : Nat → Option Value} {G : (Nat → Bool) → (Nat → Value) → World → Prop} {i : Nat} {d : Nat → Bool} {x : Nat → Value} {a : Act} {w : World}
/-- An operation whose value is known. -/
theorem rstepJ_det {o : Oper} {s : Nat} {c : Value} (ho : ops[i]? = some o) (hg : o.guard = none) (hd : o.dst = some s) (hD : D i = some c) (hrun : (execOp a.eval o).run P w = .ok (.value c) w)
    (hG : G (updB d i) (updV x i c) w) (hb : I w) : RStepJ P ops Q I D G i d x a w := by
  have hr : rdst ops i = some s := by simp [rdst, ho, hd]
  unfold RStepJ wpOp
  rw [ho]
  simp only [Region.wanted, hg, if_true]
  refine .inl ?_
  unfold Oper.wp
  rw [hrun]
  show _
  refine ⟨c, by rw [hr, hd], (fun h => by rw [hr] at h; cases h), fun c' h => by rw [hD] at h; injection h, hG, hb⟩
/-- An operation that gives a value in a new world. -/
theorem rstepJ_run {o : Oper} {s : Nat} {v : Value} {w' : World} (ho : ops[i]? = some o) (hg : o.guard = none) (hd : o.dst = some s) (hD : D i = none) (hrun : (execOp a.eval o).run P w = .ok (.value v) w')
    (hG : G (updB d i) (updV x i v) w') (hb : I w') : RStepJ P ops Q I D G i d x a w := by
  have hr : rdst ops i = some s := by simp [rdst, ho, hd]
  unfold RStepJ wpOp
  rw [ho]
  simp only [Region.wanted, hg, if_true]
  refine .inl ?_
  unfold Oper.wp
  rw [hrun]
  show _
  refine ⟨v, by rw [hr, hd], (fun h => by rw [hr] at h; cases h), (fun c' h => by rw [hD] at h; cases h), hG, hb⟩
/-- A call by its contract. -/
theorem rstepJ_call {o : Oper} {s f : Nat} {args : Array Value} {R : Ending → World → Prop} (ho : ops[i]? = some o) (hg : o.guard = none) (hd : o.dst = some s) (hD : D i = none) (hrun : (execOp a.eval o).run P w = .ok (.enter f args) w)
    (hc : Calls P f args w R) (hR : ∀ e w', R e w' → ∃ v, e = .returned v ∧ G (updB d i) (updV x i v) w' ∧ I w') : RStepJ P ops Q I D G i d x a w := by
  have hr : rdst ops i = some s := by simp [rdst, ho, hd]
  unfold RStepJ wpOp
  rw [ho]
  simp only [Region.wanted, hg, if_true]
  refine .inl ?_
  unfold Oper.wp
  rw [hrun]
  show Calls P f args w _
  refine hc.mono fun e w' h => ?_
  obtain ⟨v, rfl, hG, hb⟩ := hR e w' h
  exact ⟨v, by rw [hr, hd], (fun h => by rw [hr] at h; cases h), (fun c' h => by rw [hD] at h; cases h), hG, hb⟩
/-- An operation that gives nothing. -/
theorem rstepJ_skip {o : Oper} {w' : World} (ho : ops[i]? = some o) (hg : o.guard = none) (hd : o.dst = none) (hD : D i = none) (hrun : (execOp a.eval o).run P w = .ok .skip w')
    (hG : G (updB d i) (updV x i undef) w') (hb : I w') : RStepJ P ops Q I D G i d x a w := by
  have hr : rdst ops i = none := by simp [rdst, ho, hd]
  unfold RStepJ wpOp
  rw [ho]
  simp only [Region.wanted, hg, if_true]
  refine .inl ?_
  unfold Oper.wp
  rw [hrun]
  show _
  exact ⟨undef, by rw [hr, hd], fun _ => rfl, (fun c' h => by rw [hD] at h; cases h), hG, hb⟩
end
end Go.Proofs.Ytfngadidlmbfdaa
