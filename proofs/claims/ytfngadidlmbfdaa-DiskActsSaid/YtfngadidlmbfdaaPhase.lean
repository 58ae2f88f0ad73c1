/-
  A region in phases: the operations from m on, c of them, in whatever order, where all that come behind wait for all of these.
-/
import Derived.Test.YtfngadidlmbfdaaRegJ
namespace Go.Proofs.Ytfngadidlmbfdaa
open Go.RowKit
set_option linter.unusedVariables false
set_option linter.unusedSimpArgs false
section
variable {P : Program} {ops : Array Oper} {Q : Exit → Act → World → Prop}
/-- The edges of operation i that bind, from m on. -/
def pedges (ops : Array Oper) (m i : Nat) : List Nat := match ops[i]? with
  | some o => ((o.after.toList.filter (fun e => Region.binds .any e)).map (·.on)).filter (fun j => decide (m ≤ j))
  | none => []
def pwalk (ops : Array Oper) (m : Nat) : Nat → List Nat → List Nat → List Nat
  | 0, _, seen => seen
  | _ + 1, [], seen => seen
  | f + 1, i :: todo, seen => if seen.contains i then pwalk ops m f todo seen else pwalk ops m f (pedges ops m i ++ todo) (i :: seen)
/-- What operation i waits for, from m on. -/
def panc (ops : Array Oper) (m i : Nat) : List Nat := pwalk ops m 4000 (pedges ops m i) []
theorem pedges_mem {m i j : Nat} {o : Oper} (ho : ops[i]? = some o) (h : j ∈ pedges ops m i) : m ≤ j ∧ ∃ e ∈ o.after, Region.binds .any e = true ∧ e.on = j := by
  unfold pedges at h
  rw [ho] at h
  obtain ⟨h1, h2⟩ := List.mem_filter.1 h
  obtain ⟨e, he, rfl⟩ := List.mem_map.1 h1
  obtain ⟨he1, he2⟩ := List.mem_filter.1 he
  exact ⟨by simpa using h2, e, by simpa using he1, he2, rfl⟩
theorem pwalk_listed {m : Nat} {listed : Array Bool} (hcl : ∀ j oj, ops[j]? = some oj → listed.getD j false = true → ∀ e ∈ oj.after, Region.binds .any e = true → listed.getD e.on false = true) :
    ∀ (f : Nat) (todo seen : List Nat), (∀ j ∈ todo, m ≤ j ∧ listed.getD j false = true) → (∀ j ∈ seen, m ≤ j ∧ listed.getD j false = true) → ∀ j ∈ pwalk ops m f todo seen, m ≤ j ∧ listed.getD j false = true
  | 0, _, _, _, h2 => h2
  | _ + 1, [], _, _, h2 => h2
  | f + 1, i :: todo, seen, h1, h2 => by
    unfold pwalk
    split
    · exact pwalk_listed hcl f todo seen (fun j hj => h1 j (by simp [hj])) h2
    · have hi := h1 i (by simp)
      refine pwalk_listed hcl f _ _ (fun j hj => ?_) (fun j hj => ?_)
      · rcases List.mem_append.1 hj with hj | hj
        · cases ho : ops[i]? with
          | none => unfold pedges at hj; rw [ho] at hj; cases hj
          | some o =>
            obtain ⟨h3, e, he, hb, rfl⟩ := pedges_mem ho hj
            exact ⟨h3, hcl i o ho hi.2 e he hb⟩
        · exact h1 j (by simp [hj])
      · rcases List.mem_cons.1 hj with rfl | hj
        · exact hi
        · exact h2 j hj
theorem panc_listed {m i : Nat} {listed : Array Bool} (hcl : ∀ j oj, ops[j]? = some oj → listed.getD j false = true → ∀ e ∈ oj.after, Region.binds .any e = true → listed.getD e.on false = true)
    (hi : ∀ oi, ops[i]? = some oi → ∀ e ∈ oi.after, Region.binds .any e = true → listed.getD e.on false = true) : ∀ j ∈ panc ops m i, m ≤ j ∧ listed.getD j false = true :=
  pwalk_listed hcl 4000 _ _ (fun j hj => by
    cases ho : ops[i]? with
    | none => unfold pedges at hj; rw [ho] at hj; cases hj
    | some o =>
      obtain ⟨h3, e, he, hb, rfl⟩ := pedges_mem ho hj
      exact ⟨h3, hi o ho e he hb⟩) (fun j hj => by cases hj)
/-- Every edge leads back; the c operations from m on write different slots. -/
def pgoodB (ops : Array Oper) (m c N : Nat) : Bool :=
  (((List.range ops.size).all fun i => match ops[i]? with
    | some o => o.after.all fun e => !Region.binds .any e || decide (e.on < i)
    | none => true) &&
   ((List.range' m c).all fun i => (List.range' m c).all fun j => decide (i = j) || decide (rdst ops i = none) || decide (rdst ops i ≠ rdst ops j))) &&
  ((List.range' m c).all fun i => match rdst ops i with | some s => decide (s < N) | none => true)
/-- All behind wait for all of these. -/
def pcutB (ops : Array Oper) (m c : Nat) : Bool := (List.range' (m + c) (ops.size - (m + c))).all fun t => let l := panc ops m t; (List.range' m c).all fun i => l.contains i
def pupto (ops : Array Oper) (m : Nat) : Array Bool := Array.replicate m true ++ Array.replicate (ops.size - m) false
theorem pupto_get {m : Nat} (hm : m ≤ ops.size) (j : Nat) (hj : j < ops.size) (b : Bool) : (pupto ops m).getD j b = decide (j < m) := by
  unfold pupto
  rw [Array.getD_eq_getD_getElem?]
  by_cases h : j < m
  · rw [Array.getElem?_append_left (by simpa using h)]; simp [h]
  · rw [Array.getElem?_append_right (by simpa using h)]
    simp [h]
    rw [Array.getElem?_replicate, if_pos (by omega)]
    rfl
theorem pupto_size {m : Nat} (hm : m ≤ ops.size) : (pupto ops m).size = ops.size := by simp [pupto]; omega
/-- The slots of the c operations from m on hold x. -/
def pfill (ops : Array Oper) (x : Nat → Value) (m : Nat) : Nat → Act → Act
  | 0, a => a
  | c + 1, a => (pfill ops x m c a).put (rdst ops (m + c)) (x (m + c))
theorem pfill_size (x : Nat → Value) (m : Nat) : ∀ (c : Nat) (a : Act), (pfill ops x m c a).tmps.size = a.tmps.size ∧ (pfill ops x m c a).defers = a.defers
  | 0, _ => ⟨rfl, rfl⟩
  | c + 1, a => by
    have := pfill_size x m c a
    have h2 := put_tmps (pfill ops x m c a) (rdst ops (m + c)) (x (m + c))
    exact ⟨h2.1.trans this.1, h2.2.trans this.2⟩
theorem pfill_other (x : Nat → Value) (m s : Nat) : ∀ (c : Nat) (a : Act), (∀ j, m ≤ j → j < m + c → rdst ops j ≠ some s) → (pfill ops x m c a).tmps[s]? = a.tmps[s]?
  | 0, _, _ => rfl
  | c + 1, a, h => by
    unfold pfill
    rw [put_get, if_neg (h (m + c) (by omega) (by omega))]
    exact pfill_other x m s c a fun j h1 hj => h j h1 (by omega)
theorem pfill_at (x : Nat → Value) (m s : Nat) : ∀ (c : Nat) (a : Act), (∀ i j, m ≤ i → i < m + c → m ≤ j → j < m + c → i ≠ j → rdst ops i = some s → rdst ops j ≠ some s) → ∀ i, m ≤ i → i < m + c → rdst ops i = some s → s < a.tmps.size → (pfill ops x m c a).tmps[s]? = some (x i)
  | 0, _, _ => by omega
  | c + 1, a, h => by
    intro i hm hi hd hs
    unfold pfill
    by_cases e : i = m + c
    · subst e
      rw [put_get, if_pos hd, if_pos (by rw [(pfill_size x m c a).1]; exact hs)]
    · rw [put_get, if_neg (h i (m + c) hm hi (by omega) (by omega) e hd)]
      exact pfill_at x m s c a (fun i j h1 hi h2 hj => h i j h1 (by omega) h2 (by omega)) i hm (by omega) hd hs
def pleft (m c : Nat) (listed : Array Bool) : Nat := ((List.range' m c).filter fun i => !listed.getD i false).length
theorem pleft_zero {m c : Nat} {listed : Array Bool} (h : pleft m c listed = 0) : ∀ i, m ≤ i → i < m + c → listed.getD i false = true := by
  intro i h1 h2
  have := List.eq_nil_of_length_eq_zero h
  rw [List.filter_eq_nil_iff] at this
  simpa using this i (List.mem_range'_1.2 ⟨h1, h2⟩)
theorem pleft_set : ∀ (c m : Nat) {listed : Array Bool} {i : Nat}, m ≤ i → i < m + c → i < listed.size → listed.getD i false = false → pleft m c (listed.setIfInBounds i true) + 1 = pleft m c listed := by
  intro c
  induction c with
  | zero => intro m listed i h1 h2; omega
  | succ c ih =>
    intro m listed i h1 h2 hs hf
    unfold pleft at ih ⊢
    rw [List.range'_succ, List.filter_cons, List.filter_cons]
    by_cases e : i = m
    · subst e
      have h1' : (List.range' (i + 1) c).filter (fun j => !(listed.setIfInBounds i true).getD j false) = (List.range' (i + 1) c).filter (fun j => !listed.getD j false) := by
        apply List.filter_congr
        intro j hj
        rw [getD_set_ne false (by have := (List.mem_range'_1.1 hj).1; omega)]
      have h2' : (listed.setIfInBounds i true).getD i false = true := by simp [hs]
      rw [h1', h2', hf]
      simp
    · have := ih (m + 1) (i := i) (by omega) (by omega) hs hf
      have h2' : (listed.setIfInBounds i true).getD m false = listed.getD m false := getD_set_ne false e
      rw [h2']
      split
      · simp only [List.length_cons]; omega
      · exact this
structure PInv (ops : Array Oper) (m c : Nat) (a0 : Act) (I : World → Prop) (D : Nat → Option Value) (G : (Nat → Bool) → (Nat → Value) → World → Prop) (listed : Array Bool) (d : Nat → Bool) (x : Nat → Value) (a : Act) (w : World) : Prop where
  lsize : listed.size = ops.size
  closed : ∀ j oj, ops[j]? = some oj → listed.getD j false = true → ∀ e ∈ oj.after, Region.binds .any e = true → listed.getD e.on false = true
  before : ∀ j, j < m → listed.getD j false = true
  behind : ∀ j, m + c ≤ j → j < ops.size → listed.getD j false = false
  done : ∀ j, m ≤ j → j < m + c → d j = listed.getD j false
  size : a.tmps.size = a0.tmps.size
  defers : a.defers = a0.defers
  same : ∀ s, (∀ j, m ≤ j → j < m + c → listed.getD j false = true → rdst ops j ≠ some s) → a.tmps[s]? = a0.tmps[s]?
  inv : I w
  vals : ∀ j, m ≤ j → j < m + c → listed.getD j false = true → rslot a (rdst ops j) = x j ∧ ∀ v, D j = some v → x j = v
  rel : G d x w
theorem phaseJ {a0 : Act} {w0 : World} (I : World → Prop) (hI : I w0) (D : Nat → Option Value) (G : (Nat → Bool) → (Nat → Value) → World → Prop) (m c N : Nat) (hmc : m + c ≤ ops.size) (hN : a0.tmps.size = N)
    (hgood : pgoodB ops m c N = true) (hcut : pcutB ops m c = true) (init : G (fun _ => false) (fun _ => undef) w0)
    (step : ∀ i, m ≤ i → i < m + c → ∀ d x a w, I w → (∀ s, (∀ j ∈ List.range' m c, rdst ops j ≠ some s) → a.tmps[s]? = a0.tmps[s]?) →
      (∀ j ∈ panc ops m i, d j = true ∧ rslot a (rdst ops j) = x j ∧ ∀ v, D j = some v → x j = v) → d i = false → (∀ j, m ≤ j → j < m + c → i ∈ panc ops m j → d j = false) → G d x w → RStepJ P ops Q I D G i d x a w)
    (fin : ∀ (d : Nat → Bool) (x : Nat → Value) w, I w → (∀ j, m ≤ j → j < m + c → d j = true ∧ ∀ v, D j = some v → x j = v) → G d x w → wpAny P .any ops Q (ops.size - (m + c)) (pupto ops (m + c)) (pfill ops x m c a0) w) :
    wpAny P .any ops Q (ops.size - m) (pupto ops m) a0 w0 := by
  have hback : ∀ i oi, ops[i]? = some oi → ∀ e ∈ oi.after, Region.binds .any e = true → e.on < i := by
    intro i oi hoi e he hb
    simp only [pgoodB, Bool.and_eq_true] at hgood
    have h1 := List.all_eq_true.1 hgood.1.1 i (List.mem_range.2 (Array.getElem?_eq_some_iff.1 hoi).1)
    rw [hoi] at h1
    have h2 := (Array.all_eq_true'.1 h1) e he
    simpa [hb] using h2
  have hdist : ∀ i j s, m ≤ i → i < m + c → m ≤ j → j < m + c → i ≠ j → rdst ops i = some s → rdst ops j ≠ some s := by
    intro i j s h1 hi h2 hj hne hd
    simp only [pgoodB, Bool.and_eq_true] at hgood
    have h3 := List.all_eq_true.1 (List.all_eq_true.1 hgood.1.2 i (List.mem_range'_1.2 ⟨h1, hi⟩)) j (List.mem_range'_1.2 ⟨h2, hj⟩)
    simp only [Bool.or_eq_true, decide_eq_true_eq] at h3
    rcases h3 with (h3 | h3) | h3
    · exact absurd h3 hne
    · rw [h3] at hd; cases hd
    · intro h; exact h3 (hd.trans h.symm)
  have hslot : ∀ i s, m ≤ i → i < m + c → rdst ops i = some s → s < a0.tmps.size := by
    intro i s h1 hi hd
    simp only [pgoodB, Bool.and_eq_true] at hgood
    have h3 := List.all_eq_true.1 hgood.2 i (List.mem_range'_1.2 ⟨h1, hi⟩)
    rw [hd] at h3
    rw [hN]
    simpa using h3
  have hcutP : ∀ t i, m + c ≤ t → t < ops.size → m ≤ i → i < m + c → i ∈ panc ops m t := by
    intro t i h1 h2 h3 h4
    have h5 := List.all_eq_true.1 hcut t (List.mem_range'_1.2 ⟨h1, by omega⟩)
    have h6 := List.all_eq_true.1 h5 i (List.mem_range'_1.2 ⟨h3, h4⟩)
    simpa using h6
  have key : ∀ (f : Nat) (listed : Array Bool) (d : Nat → Bool) (x : Nat → Value) (a : Act) (w : World), pleft m c listed = f → PInv ops m c a0 I D G listed d x a w → wpAny P .any ops Q (f + (ops.size - (m + c))) listed a w := by
    intro f
    induction f with
    | zero =>
      intro listed d x a w hf inv
      have hall := pleft_zero hf
      have hl : listed = pupto ops (m + c) := by
        apply Array.ext
        · rw [inv.lsize, pupto_size hmc]
        · intro i h1 h2
          have hi : i < ops.size := by rw [← inv.lsize]; exact h1
          have e1 : listed[i] = listed.getD i false := by simp [h1]
          have e2 : (pupto ops (m + c))[i] = (pupto ops (m + c)).getD i false := by simp [h2]
          rw [e1, e2, pupto_get hmc i hi]
          by_cases h3 : i < m + c
          · rw [decide_eq_true h3]
            by_cases h4 : i < m
            · exact inv.before i h4
            · exact hall i (by omega) h3
          · rw [decide_eq_false h3]; exact inv.behind i (by omega) hi
      have hx := fin d x w inv.inv (fun j h1 hj => ⟨by rw [inv.done j h1 hj]; exact hall j h1 hj, (inv.vals j h1 hj (hall j h1 hj)).2⟩) inv.rel
      have ha : pfill ops x m c a0 = a := by
        refine act_ext (fun s => ?_) ((pfill_size _ _ _ _).2.trans inv.defers.symm)
        by_cases hsd : ∃ j, m ≤ j ∧ j < m + c ∧ rdst ops j = some s
        · obtain ⟨j, h1, hj, hd⟩ := hsd
          have hss := hslot j s h1 hj hd
          rw [pfill_at _ m s c a0 (fun i j h1 hi h2 hj => hdist i j s h1 hi h2 hj) j h1 hj hd hss]
          rw [← (inv.vals j h1 hj (hall j h1 hj)).1]
          simp only [hd, rslot]
          rw [Array.getElem?_eq_getElem (by rw [inv.size]; exact hss)]
          simp [inv.size, hss]
        · rw [pfill_other _ m s c a0 (fun j h1 hj hd => hsd ⟨j, h1, hj, hd⟩)]
          exact (inv.same s (fun j h1 hj _ hd => hsd ⟨j, h1, hj, hd⟩)).symm
      rw [ha] at hx
      rw [Nat.zero_add, hl]
      exact hx
    | succ f ih =>
      intro listed d x a w hf inv
      have hex : ∃ i, m ≤ i ∧ i < m + c ∧ listed.getD i false = false := by
        by_cases h : ∃ i, m ≤ i ∧ i < m + c ∧ listed.getD i false = false
        · exact h
        · exfalso
          have : pleft m c listed = 0 := by
            unfold pleft
            rw [List.length_eq_zero_iff, List.filter_eq_nil_iff]
            intro i hi
            have hi' := List.mem_range'_1.1 hi
            cases hb : listed.getD i false with
            | true => simp
            | false => exact absurd ⟨i, hi'.1, hi'.2, hb⟩ h
          omega
      have hready : ∃ i, m ≤ i ∧ i < m + c ∧ i ∈ Region.ready .any ops listed := by
        obtain ⟨i0, hm0, hi0, hl0⟩ := hex
        have : ∀ k i, i ≤ k → m ≤ i → i < m + c → listed.getD i false = false → ∃ i, m ≤ i ∧ i < m + c ∧ i ∈ Region.ready .any ops listed := by
          intro k
          induction k with
          | zero =>
            intro i hik hmi hin hl
            obtain rfl : i = 0 := by omega
            refine ⟨0, hmi, hin, mem_ready.2 ⟨getD_in (by rw [inv.lsize]; omega) hl, ops[0]'(by omega), Array.getElem?_eq_getElem (by omega), fun e he hb => ?_⟩⟩
            have := hback 0 _ (Array.getElem?_eq_getElem (by omega)) e he hb
            omega
          | succ k ihk =>
            intro i hik hmi hin hl
            by_cases hw : ∃ i', m ≤ i' ∧ i' < i ∧ listed.getD i' false = false
            · obtain ⟨i', hm', hi', hl'⟩ := hw
              exact ihk i' (by omega) hm' (by omega) hl'
            · refine ⟨i, hmi, hin, mem_ready.2 ⟨getD_in (by rw [inv.lsize]; omega) hl, ops[i]'(by omega), Array.getElem?_eq_getElem (by omega), fun e he hb => ?_⟩⟩
              have hlt := hback i _ (Array.getElem?_eq_getElem (by omega)) e he hb
              by_cases hem : e.on < m
              · exact inv.before _ hem
              · cases hb' : listed.getD e.on false with
                | true => rfl
                | false => exact absurd ⟨e.on, by omega, hlt, hb'⟩ hw
        exact this i0 i0 (Nat.le_refl _) hm0 hi0 hl0
      obtain ⟨i0, hm0, hi0, hr0⟩ := hready
      have hun0 := getD_both (mem_ready.1 hr0).1
      rw [show f + 1 + (ops.size - (m + c)) = (f + (ops.size - (m + c))) + 1 by omega]
      refine ⟨fun h => (by rw [h] at hr0; cases hr0), fun i hi => ?_⟩
      obtain ⟨hun, oi, hoi, hdeps⟩ := mem_ready.1 hi
      have hunf := getD_both hun
      have hios : i < ops.size := (Array.getElem?_eq_some_iff.1 hoi).1
      have hdeps' : ∀ oi', ops[i]? = some oi' → ∀ e ∈ oi'.after, Region.binds .any e = true → listed.getD e.on false = true := fun oi' hoi' e he hb => by
        have : oi' = oi := Option.some.inj (hoi'.symm.trans hoi)
        subst this
        exact hdeps e he hb
      have him : m ≤ i := by
        rcases Nat.lt_or_ge i m with h | h
        · have := inv.before i h; rw [hunf] at this; cases this
        · exact h
      have hin : i < m + c := by
        rcases Nat.lt_or_ge i (m + c) with h | h
        · exact h
        · have := (panc_listed (m := m) inv.closed hdeps' i0 (hcutP i i0 h hios hm0 hi0)).2
          rw [hun0] at this
          cases this
      have hsz : i < listed.size := by rw [inv.lsize]; omega
      have hanc : ∀ j ∈ panc ops m i, m ≤ j ∧ j < m + c ∧ listed.getD j false = true := fun j hj => by
        obtain ⟨h1, h2⟩ := panc_listed (m := m) inv.closed hdeps' j hj
        refine ⟨h1, ?_, h2⟩
        rcases Nat.lt_or_ge j (m + c) with h | h
        · exact h
        · have hjs : j < ops.size := by
            rcases Nat.lt_or_ge j listed.size with h' | h'
            · rw [inv.lsize] at h'; exact h'
            · simp [Array.getElem?_eq_none h', Array.getD_eq_getD_getElem?] at h2
          rw [inv.behind j h hjs] at h2
          cases h2
      have hst := step i him hin d x a w inv.inv (fun s hs' => inv.same s (fun j h1 hj _ => hs' j (List.mem_range'_1.2 ⟨h1, hj⟩))) (fun j hj => by
        obtain ⟨h0, h1, h2⟩ := hanc j hj
        exact ⟨by rw [inv.done j h0 h1]; exact h2, inv.vals j h0 h1 h2⟩) (by rw [inv.done i him hin]; exact hunf) (fun j hmj hj hij => by
        rw [inv.done j hmj hj]
        cases hjl : listed.getD j false with
        | false => rfl
        | true =>
          have := (panc_listed (m := m) (i := j) inv.closed (fun oj hoj e he hb => inv.closed j oj hoj hjl e he hb) i hij).2
          rw [hunf] at this
          cases this) inv.rel
      refine wpOp_mono ?_ hst
      rintro a' w' ⟨v, rfl, hnone, hD, hG, hb⟩
      refine ih _ (updB d i) (updV x i v) _ _ ?_ ?_
      · have := pleft_set c m him hin hsz hunf
        omega
      · have hpt := put_tmps a (rdst ops i) v
        refine ⟨by simp [inv.lsize], ?_, ?_, ?_, ?_, hpt.1.trans inv.size, hpt.2.trans inv.defers, ?_, hb, ?_, hG⟩
        · intro j oj hj hl e he hb'
          by_cases hij : i = j
          · subst hij
            exact getD_set_true (hdeps' oj hj e he hb')
          · rw [getD_set_ne false hij] at hl
            exact getD_set_true (inv.closed j oj hj hl e he hb')
        · intro j hj
          rw [getD_set_ne false (by omega)]
          exact inv.before j hj
        · intro j h1 h2
          rw [getD_set_ne false (by omega)]
          exact inv.behind j h1 h2
        · intro j hmj hj
          by_cases hji : i = j
          · subst hji; rw [updB_same]; simp [hsz]
          · rw [updB_ne d (Ne.symm hji), getD_set_ne false hji]; exact inv.done j hmj hj
        · intro s hs'
          have hne : rdst ops i ≠ some s := hs' i him hin (by simp [hsz])
          rw [put_get, if_neg hne]
          exact inv.same s (fun j hmj hj hl => hs' j hmj hj (by
            by_cases hji : i = j
            · subst hji; simp [hsz]
            · rw [getD_set_ne false hji]; exact hl))
        · intro j hmj hj hl
          by_cases hji : i = j
          · subst hji
            rw [updV_same]
            refine ⟨?_, hD⟩
            cases hd : rdst ops i with
            | none => rw [hnone hd]; rfl
            | some s =>
              have hss : s < a.tmps.size := by rw [inv.size]; exact hslot i s him hin hd
              simp [rslot, Act.put, hss]
          · rw [getD_set_ne false hji] at hl
            have hold := inv.vals j hmj hj hl
            rw [updV_ne x v (Ne.symm hji)]
            refine ⟨?_, hold.2⟩
            rw [← hold.1]
            cases hd : rdst ops j with
            | none => rfl
            | some s =>
              simp only [rslot, Array.getD_eq_getD_getElem?]
              rw [put_get, if_neg (hdist j i s hmj hj him hin (Ne.symm hji) hd)]
  have hms : m ≤ ops.size := by omega
  have hgetm : ∀ j, j < ops.size → (pupto ops m).getD j false = decide (j < m) := fun j hj => pupto_get hms j hj false
  have h0 : pleft m c (pupto ops m) = c := by
    unfold pleft
    rw [List.filter_eq_self.2 (by intro i hi; have := List.mem_range'_1.1 hi; rw [hgetm i (by omega)]; simp; omega), List.length_range']
  have := key c (pupto ops m) (fun _ => false) (fun _ => undef) a0 w0 h0 ⟨pupto_size hms, fun j oj hj hl e he hb => by
      have hjs := (Array.getElem?_eq_some_iff.1 hj).1
      rw [hgetm j hjs] at hl
      have h1 := hback j oj hj e he hb
      rw [hgetm e.on (by omega)]
      simp at hl ⊢
      omega, fun j hj => by rw [hgetm j (by omega)]; simp [hj], fun j h1 h2 => by rw [hgetm j h2]; simp; omega, fun j h1 h2 => by rw [hgetm j (by omega)]; simp; omega, rfl, rfl, fun _ _ => rfl, hI, (fun j h1 h2 h => by
      rw [hgetm j (by omega)] at h; simp at h; omega), init⟩
  rw [show c + (ops.size - (m + c)) = ops.size - m by omega] at this
  exact this
/-- A region begins. -/
theorem region_phases {id : Nat} {a : Act} {w : World} (hm : P.follows .mixedOrders = true) (h : wpAny P .any ops Q (ops.size - 0) (pupto ops 0) a { w with drawn := w.drawn + 1 }) : (Code.region id ops true).wp P Q a w := by
  refine wp_region_any hm ?_
  have e : pupto ops 0 = Array.replicate ops.size false := by unfold pupto; simp
  rw [e] at h
  exact h
/-- Nothing is left. -/
theorem phase_end {a : Act} {w : World} {n : Nat} (hn : n = ops.size) (h : Q .normal a w) : wpAny P .any ops Q (ops.size - n) (pupto ops n) a w := by
  subst hn
  rw [Nat.sub_self]
  refine ⟨?_, h⟩
  cases hr : Region.ready .any ops (pupto ops ops.size) with
  | nil => rfl
  | cons i r =>
    have hi : i ∈ Region.ready .any ops (pupto ops ops.size) := by rw [hr]; simp
    obtain ⟨h1, o, ho, _⟩ := mem_ready.1 hi
    have hlt := (Array.getElem?_eq_some_iff.1 ho).1
    rw [pupto_get (Nat.le_refl _) i hlt] at h1
    simp at h1
    omega
/-- What is left has a forced order. -/
theorem phase_seq {a : Act} {w : World} {n : Nat} (hn : n < ops.size) (hq : Region.seqB .any ops (ops.size - n) n (pupto ops n) = true) (h : wpList P ops Q (ops.toList.drop n) a w) : wpAny P .any ops Q (ops.size - n) (pupto ops n) a w := by
  have hlen : (ops.toList.drop n).length = ops.size - n := by simp
  rw [← hlen]
  refine wpAny_of_seq (ops.toList.drop n) n _ a w (fun j => ?_) (by rw [hlen]; exact hq) h
  rw [List.getElem?_drop]
  simp
end
section
variable {P : Program} {ops : Array Oper} {Q : Exit → Act → World → Prop} {I : World → Prop} {D : Nat → Option Value} {G : (Nat → Bool) → (Nat → Value) → World → Prop} {i : Nat} {d : Nat → Bool} {x : Nat → Value} {a : Act} {w : World}
theorem wanted_none {o : Oper} (h : o.guard = none) : Region.wanted o (yielded ops a.tmps) = true := by simp [Region.wanted, h]
theorem wanted_slot {o : Oper} {g s : Nat} {b : Bool} (h : o.guard = some (g, b)) (hd : rdst ops g = some s) (hs : a.tmps.getD s undef = .bool b) : Region.wanted o (yielded ops a.tmps) = true := by
  have h1 : a.tmps[s]? = some (.bool b) := by
    rw [Array.getD_eq_getD_getElem?] at hs
    cases h2 : a.tmps[s]? with
    | none => rw [h2] at hs; simp [undef] at hs
    | some v => rw [h2] at hs; simp at hs; rw [hs]
  unfold rdst at hd
  simp [Region.wanted, h, yielded, hd, h1]
/-- An operation whose value is known. -/
theorem pstep_det {o : Oper} {s : Nat} {c : Value} (ho : ops[i]? = some o) (hw : Region.wanted o (yielded ops a.tmps) = true) (hd : o.dst = some s) (hD : D i = some c) (hrun : (execOp a.eval o).run P w = .ok (.value c) w)
    (hG : G (updB d i) (updV x i c) w) (hb : I w) : RStepJ P ops Q I D G i d x a w := by
  have hr : rdst ops i = some s := by simp [rdst, ho, hd]
  unfold RStepJ wpOp
  rw [ho]
  simp only [hw, if_true]
  refine .inl ?_
  unfold Oper.wp
  rw [hrun]
  show _
  refine ⟨c, by rw [hr, hd], (fun h => by rw [hr] at h; cases h), fun c' h => by rw [hD] at h; injection h, hG, hb⟩
/-- An operation that gives a value in a new world. -/
theorem pstep_run {o : Oper} {s : Nat} {v : Value} {w' : World} (ho : ops[i]? = some o) (hw : Region.wanted o (yielded ops a.tmps) = true) (hd : o.dst = some s) (hD : ∀ c, D i = some c → v = c) (hrun : (execOp a.eval o).run P w = .ok (.value v) w')
    (hG : G (updB d i) (updV x i v) w') (hb : I w') : RStepJ P ops Q I D G i d x a w := by
  have hr : rdst ops i = some s := by simp [rdst, ho, hd]
  unfold RStepJ wpOp
  rw [ho]
  simp only [hw, if_true]
  refine .inl ?_
  unfold Oper.wp
  rw [hrun]
  show _
  refine ⟨v, by rw [hr, hd], (fun h => by rw [hr] at h; cases h), hD, hG, hb⟩
/-- A call by its contract. -/
theorem pstep_call {o : Oper} {s f : Nat} {args : Array Value} {R : Ending → World → Prop} (ho : ops[i]? = some o) (hw : Region.wanted o (yielded ops a.tmps) = true) (hd : o.dst = some s) (hrun : (execOp a.eval o).run P w = .ok (.enter f args) w)
    (hc : Calls P f args w R) (hR : ∀ e w', R e w' → ∃ v, e = .returned v ∧ (∀ c, D i = some c → v = c) ∧ G (updB d i) (updV x i v) w' ∧ I w') : RStepJ P ops Q I D G i d x a w := by
  have hr : rdst ops i = some s := by simp [rdst, ho, hd]
  unfold RStepJ wpOp
  rw [ho]
  simp only [hw, if_true]
  refine .inl ?_
  unfold Oper.wp
  rw [hrun]
  show Calls P f args w _
  refine hc.mono fun e w' h => ?_
  obtain ⟨v, rfl, hD, hG, hb⟩ := hR e w' h
  exact ⟨v, by rw [hr, hd], (fun h => by rw [hr] at h; cases h), hD, hG, hb⟩
/-- An operation that gives nothing. -/
theorem pstep_skip {o : Oper} {w' : World} (ho : ops[i]? = some o) (hw : Region.wanted o (yielded ops a.tmps) = true) (hd : o.dst = none) (hD : D i = none) (hrun : (execOp a.eval o).run P w = .ok .skip w')
    (hG : G (updB d i) (updV x i undef) w') (hb : I w') : RStepJ P ops Q I D G i d x a w := by
  have hr : rdst ops i = none := by simp [rdst, ho, hd]
  unfold RStepJ wpOp
  rw [ho]
  simp only [hw, if_true]
  refine .inl ?_
  unfold Oper.wp
  rw [hrun]
  show _
  exact ⟨undef, by rw [hr, hd], fun _ => rfl, (fun c' h => by rw [hD] at h; cases h), hG, hb⟩
end
end Go.Proofs.Ytfngadidlmbfdaa
