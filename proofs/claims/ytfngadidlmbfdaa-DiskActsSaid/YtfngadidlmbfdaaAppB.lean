/-
  append of a text's bytes, and of zeros, onto a row of bytes of the call's own; what a call hands back that appends.
-/
import Derived.Test.YtfngadidlmbfdaaBase
import Derived.Lib.AppendZerosOnto
import Derived.Lib.AppendStr
import Derived.Laws.Tables
namespace Go.Proofs.Ytfngadidlmbfdaa
open Go.RowKit
set_option linter.unusedVariables false
set_option linter.unusedSimpArgs false

theorem grown_trans {w w1 w2 : World} {r r1 : Option Nat} (h : w.grownBy w1 r) (k : w1.grownBy w2 r1) (hr : r1 = r ∨ ∀ g, r1 = some g → w.heap.size ≤ g) : w.grownBy w2 r :=
  ⟨k.os.trans h.os, k.tape.trans h.tape, k.output.trans h.output, Nat.le_trans h.size k.size, fun i hi hne => by
    rw [k.block i (Nat.lt_of_lt_of_le hi h.size) (fun e => by
      rcases hr with hr | hr
      · exact hne (e.trans hr)
      · have := hr i e.symm; omega), h.block i hi hne]⟩
theorem grown_refl (w : World) (r : Option Nat) : w.grownBy w r := ⟨rfl, rfl, rfl, Nat.le_refl _, fun _ _ _ => rfl⟩
theorem grown_then_below {w w1 w2 : World} {r : Option Nat} (h : w.grownBy w1 r) (k : Below w1.heap.size w1 w2) : w.grownBy w2 r :=
  grown_trans h (grown_below k none) (.inr fun g e => by cases e)

/-- The row's block is the old one, or a new one. -/
def OB (w : World) (v v' : Value) : Prop := v'.ownBlock = v.ownBlock ∨ ∃ g, v'.ownBlock = some g ∧ w.heap.size ≤ g
theorem ob_new {w w1 : World} {v v' : Value} (h : v'.ownBlock = v.ownBlock ∨ v'.ownBlock = some w1.heap.size) (hs : w.heap.size ≤ w1.heap.size) : OB w v v' := by
  rcases h with h | h
  · exact .inl h
  · exact .inr ⟨_, h, hs⟩
theorem ob_trans {w w1 : World} {v v1 v2 : Value} (h1 : OB w v v1) (h2 : OB w1 v1 v2) (hs : w.heap.size ≤ w1.heap.size) : OB w v v2 := by
  rcases h2 with h | ⟨g, h, hg⟩
  · unfold OB; rw [h]; exact h1
  · exact .inr ⟨g, h, Nat.le_trans hs hg⟩
theorem grown_ob {w w1 w2 : World} {v v1 : Value} (h : w.grownBy w1 v.ownBlock) (k : w1.grownBy w2 v1.ownBlock) (ho : OB w v v1) : w.grownBy w2 v.ownBlock :=
  grown_trans h k (by
    rcases ho with h | ⟨g, h, hg⟩
    · exact .inl h
    · exact .inr fun k hk => by rw [h] at hk; injection hk with hk; omega)

/-- What a call hands back that appends to a row. -/
def RetApp (w : World) (B e sz n : Nat) (cs : List Value) (v : Value) (en : Ending) (w' : World) : Prop :=
  ∃ v', en = .returned v' ∧ w'.ownsRow B e sz v' n cs ∧ w.grownBy w' v.ownBlock ∧ OB w v v'

/-- 'string(b)' of a row of bytes that reads as a list. -/
theorem conv_rd (w : World) {A : Option Addr} {n c : Nat} {xs : List Int} (hr : Rd (Value.int .u8) w A xs) (hl : xs.length = n) : (convert 33 9 (.slice A n c)).run Try.prog w = .ok (.string (strOfNums xs)) w := by
  rcases Nat.eq_zero_or_pos n with h0 | h0
  · subst h0
    obtain rfl : xs = [] := List.eq_nil_of_length_eq_zero hl
    cases A with
    | none => exact run_convert_bytes_nil w 33 5 Try.underlying33 Try.underlying5 0 c _ Try.underlying9
    | some a =>
      rw [run_convert_bytes_string w 33 9 5 _ 0 c Try.underlying33 Try.underlying5 Try.underlying9]
      simp [Conv.bytesToString, loadCells, loadCellsFrom]
      rfl
  · obtain ⟨b, o, rfl, hc⟩ := hr (by omega)
    exact run_convert_bytes_arg w 33 5 Try.underlying33 Try.underlying5 b o n c xs hl (fun i hi => by
      rw [hc i (by omega)]
      simp [List.getD, List.getElem?_eq_getElem (show i < xs.length by omega)]) _ Try.underlying9

section
variable {P : Program}
/-- The bytes of a text. -/
def strBytes (s : ByteArray) : List Int := s.data.toList.map fun b => (b.toNat : Int)
theorem strBytes_length (s : ByteArray) : (strBytes s).length = s.size := by simp [strBytes]
theorem strCells_eq (s : ByteArray) : Lib.strCells s = (strBytes s).map (Value.int .u8) := by simp [Lib.strCells, strBytes, Function.comp_def]

theorem own_room {w : World} {B e n cap g : Nat} {cs : List Value} {cur : Array Value} (hb : B ≤ g) (hg : w.heap[g]? = some (.cells cur e (0, 0))) (hcm : cap ≤ maxLen) (hsz : cur.size = cap * 1) (htk : cur.toList.take (n * 1) = cs)
    (hl : cs.length = n * 1) (news : List Value) (hroom : n + news.length ≤ cap) :
    (w.setRow g (cur.toList.take n ++ news ++ cur.toList.drop (n + news.length)).toArray).ownsRow B e 1 (.slice (some ⟨g, 0, none⟩) (n + news.length) cap) (n + news.length) (cs ++ news) := by
  rw [Nat.mul_one] at hsz htk hl
  refine ⟨by simp [hl], .inr ⟨g, cap, _, rfl, hb, setRow_heap w g cur _ e (0, 0) hg, hroom, hcm, ?_, ?_⟩⟩
  · simp [hsz]; omega
  · rw [htk, Nat.mul_one]
    have h1 : (cs ++ news).length = n + news.length := by simp [hl]
    rw [← h1]
    exact List.take_left
theorem grown_setRow (w : World) (g : Nat) (cs : Array Value) : w.grownBy (w.setRow g cs) (some g) :=
  ⟨rfl, rfl, rfl, by simp, fun k _ hne => setRow_other w g k cs (fun e => hne (by rw [e]))⟩
theorem own_regrown (w : World) {B e n c : Nat} {cs : List Value} (hb : B ≤ w.heap.size) (hl : cs.length = n) (hc : n ≤ c) (hm : c ≤ maxLen) (rest : Array Value) (hr : rest.size = c - n) :
    (w.drew.alloc (.cells (cs.toArray ++ rest) e)).ownsRow B e 1 (.slice (some ⟨w.heap.size, 0, none⟩) n c) n cs :=
  ⟨by simp [hl], .inr ⟨w.heap.size, c, cs.toArray ++ rest, rfl, hb, heap_alloc_new w.drew _, hc, hm, by simp [hl, hr]; omega, by simp [← hl]⟩⟩
theorem grown_drewAlloc (w : World) (o : Obj) (r : Option Nat) : w.grownBy (w.drew.alloc o) r := ⟨rfl, rfl, rfl, by simp, fun k hk _ => heap_alloc_old w.drew o hk⟩

theorem run_app_str (w : World) {B t u ty e : Nat} (T : SlTy P t e 1 1) (hu : P.underlying u = some .string) {v : Value} {n : Nat} {cs : List Value} (hown : w.ownsRow B e 1 v n cs) (s : ByteArray)
    (hn : n + s.size ≤ 140737488355328) (hB : B ≤ w.heap.size) :
    ∃ v' w', (Builtin.append_ #[t, u] ty #[v, .string s]).run P w = .ok v' w' ∧ w'.ownsRow B e 1 v' (n + s.size) (cs ++ (strBytes s).map (Value.int .u8)) ∧ w.grownBy w' v.ownBlock ∧ OB w v v' := by
  obtain ⟨ht, ⟨i, z, hi, hz, hs1, hby, hzs⟩, hp⟩ := T
  have hlen : ((strBytes s).map (Value.int .u8)).length = s.size := by rw [List.length_map, strBytes_length]
  rw [← strCells_eq]
  rw [← strCells_eq] at hlen
  rcases hown.2 with ⟨rfl, rfl⟩ | ⟨g, cap, cur, rfl, hb, hg, hnc, hcm, hsz, htk⟩
  · obtain rfl : cs = [] := List.eq_nil_of_length_eq_zero (by simpa using hown.1)
    by_cases h0 : s.size = 0
    · refine ⟨.slice none 0 0, w, ?_, ?_, grown_refl _ _, .inl rfl⟩
      · simp [Builtin.append_, run_underlying ht, run_underlying hu, sizeOf, typeInfo, hi, Builtin.lenOf, h0]
        simp [Builtin.firstCells]
      · rw [h0] at hlen ⊢
        rw [List.eq_nil_of_length_eq_zero hlen]
        exact own_nil _ _ _ _
    · have hf := Lib.run_firstCells_string (P := P) w.drew 1 s
      have hn' : ¬ (s.size ≤ 0) := by omega
      have h63 : ¬ (9223372036854775807 < (s.size : Int)) := by omega
      have hnx : Builtin.nextslicecap s.size 0 = s.size := nextslicecap_zero (by omega)
      have h48 : ¬ (281474976710656 < Builtin.nextslicecap s.size 0 * i.bytes) := by rw [hnx, hby]; omega
      refine ⟨.slice (some ⟨w.heap.size, 0, none⟩) s.size (grownCap w s.size 0 e), w.drew.alloc (.cells ((Lib.strCells s).toArray ++ Builtin.zeroCells z.cells (grownCap w s.size 0 e - s.size)) e), ?_, ?_, grown_drewAlloc _ _ _, .inr ⟨_, rfl, Nat.le_refl _⟩⟩
      · simp [Builtin.append_, run_underlying ht, run_underlying hu, sizeOf, typeInfo, zeroValue, hi, hz, Builtin.lenOf, hn', h0, h63, h48, Question.forced, run_firstCells_none, newRow, grownCap, hs1, hf]
        try rfl
      · rw [Nat.zero_add, List.nil_append]
        exact own_regrown w hB hlen (grownCap_ge w s.size 0 e) (grownCap_le_maxLen _ _ _ _ (by unfold maxLen; omega)) _ (by rw [size_zeroCells, hzs, Nat.mul_one])
  · by_cases hroom : n + s.size ≤ cap
    · refine ⟨_, _, Lib.run_append_room_string w t u ty e i ht hu hi hs1 g n cap cur hg s hroom (by omega), ?_, grown_setRow _ _ _, .inl rfl⟩
      have := own_room hb hg hcm hsz htk hown.1 (Lib.strCells s) (by omega)
      rw [hlen] at this
      exact this
    · have h63 : ((n + s.size : Nat) : Int) ≤ 9223372036854775807 := by omega
      have hfit : Builtin.nextslicecap (n + s.size) cap * i.bytes ≤ 281474976710656 := by
        have := nextslicecap_le (need := n + s.size) (old := cap) (by omega)
        rw [hby]
        omega
      have hc : ∀ j u, cs[j]? = some u → w.cell? ((⟨g, 0, none⟩ : Addr).add j) = some u := hown.cells rfl
      refine ⟨_, _, Lib.run_append_grow_string w t u ty e i z ht hu hi hz ⟨g, 0, none⟩ n cap cs (by rw [hs1]; exact hown.1) hc s (by omega) h63 hfit, ?_, grown_drewAlloc _ _ _, .inr ⟨_, rfl, Nat.le_refl _⟩⟩
      have hl : (cs ++ Lib.strCells s).length = n + s.size := by rw [List.length_append, hlen, hown.1, Nat.mul_one]
      have := own_regrown w (e := e) hB hl (grownCap_ge w (n + s.size) cap e) (grownCap_le_maxLen _ _ _ _ (by unfold maxLen; omega)) (Builtin.zeroCells z.cells (grownCap w (n + s.size) cap e - (n + s.size))) (by rw [size_zeroCells, hzs, Nat.mul_one])
      simpa using this
theorem zeroCells_list (z : Value) (k : Nat) : (Builtin.zeroCells #[z] k).toList = List.replicate k z := by
  apply List.ext_getElem
  · simp [Builtin.zeroCells]
  · intro i h1 h2
    simp [Builtin.zeroCells, Nat.mod_one]

/-- 'append(v, make([]T, k)...)'. -/
theorem run_app_zeros (w : World) {t tn ty e bytes B : Nat} {kn kq : IntKind} (z : Value) (ht : P.underlying t = some (.slice e)) (htn : P.underlying tn = some (.int kn)) (hinf : (P.info? e).map (fun i => (i.zero, i.size, i.bytes)) = some (some z, 1, bytes)) (hz1 : z.cells = #[z]) (hz2 : z.oneCell' = true)
    {v : Value} {n : Nat} {cs : List Value} (hown : w.ownsRow B e 1 v n cs) (k : Nat)
    (hn : (n + k) * bytes ≤ 140737488355328) (hn2 : n + k ≤ 140737488355328) (hB : B ≤ w.heap.size) :
    ∃ v' w', (Builtin.append_ #[t, tn] ty #[v, .int kq k]).run P w = .ok v' w' ∧ w'.ownsRow B e 1 v' (n + k) (cs ++ List.replicate k z) ∧ w.grownBy w' v.ownBlock ∧ OB w v v' := by
  obtain ⟨i, hi, h2⟩ := Option.map_eq_some_iff.1 hinf
  simp only [Prod.mk.injEq] at h2
  obtain ⟨hz, hs1, hby⟩ := h2
  have hw : IntKind.i64.wrap (k : Int) = k := by rw [IntKind.wrap_i64]; omega
  have hneg : ¬ ((k : Int) < 0) := by omega
  have hle : k * bytes ≤ (n + k) * bytes := Nat.mul_le_mul_right _ (by omega)
  have h48i : ¬ (281474976710656 < (k : Int) * (i.bytes : Int)) := by
    rw [← Int.natCast_mul, hby]
    omega
  rcases hown.2 with ⟨rfl, rfl⟩ | ⟨g, cap, cur, rfl, hb, hg, hnc, hcm, hsz, htk⟩
  · obtain rfl : cs = [] := List.eq_nil_of_length_eq_zero (by simpa using hown.1)
    rcases Nat.eq_zero_or_pos k with h0 | h0
    · subst h0
      refine ⟨.slice none 0 0, w, ?_, own_nil _ _ _ _, grown_refl _ _, .inl rfl⟩
      simp [Builtin.append_, run_underlying ht, run_underlying htn, sizeOf, typeInfo, hi, asInt, asIntOf, IntKind.wrap_i64]
    · refine ⟨_, _, Lib.run_append_nil_zeros w t tn ty e i z kq kn ht htn hi hz k h0 (by omega) (by omega) (by rw [hby]; omega), ?_, grown_drewAlloc _ _ _, .inr ⟨_, rfl, Nat.le_refl _⟩⟩
      rw [Nat.zero_add, List.nil_append]
      have := own_regrown w (e := e) (cs := List.replicate k z) hB (by simp) (grownCap_ge w k 0 e) (grownCap_le_maxLen _ _ _ _ (by unfold maxLen; omega)) (Builtin.zeroCells z.cells (grownCap w k 0 e - k)) (by rw [size_zeroCells, hz1]; simp)
      rw [← zeroCells_list z k] at this ⊢
      rw [hz1] at this ⊢
      simpa using this
  · by_cases hroom : n + k ≤ cap
    · have hst := run_storeCells_at P g (n * 1) e (List.replicate k z) 0 cur w hg (by simp; omega) (by intro v hv; rw [List.eq_of_mem_replicate hv]; exact hz2)
      rcases Nat.eq_zero_or_pos k with h0 | h0
      · subst h0
        refine ⟨.slice (some ⟨g, 0, none⟩) n cap, w, ?_, by simpa using hown, grown_refl _ _, .inl rfl⟩
        simp [Builtin.append_, run_underlying ht, run_underlying htn, sizeOf, typeInfo, hi, asInt, asIntOf, IntKind.wrap_i64, hnc, storeCells]
      · have hk0 : k ≠ 0 := by omega
        have hzc : (Builtin.zeroCells z.cells k).toList = List.replicate k z := by rw [hz1]; exact zeroCells_list z k
        refine ⟨.slice (some ⟨g, 0, none⟩) (n + k) cap, w.setRow g (cur.toList.take n ++ List.replicate k z ++ cur.toList.drop (n + k)).toArray, ?_, ?_, grown_setRow w g _, .inl rfl⟩
        rotate_left
        · have := own_room hb hg hcm hsz htk hown.1 (List.replicate k z) (by simpa using hroom)
          rw [List.length_replicate] at this
          exact this
        · simp only [Nat.mul_one, Nat.add_zero, List.length_replicate] at hst
          simp [Builtin.append_, run_underlying ht, run_underlying htn, sizeOf, typeInfo, zeroValue, hi, hz, asInt, asIntOf, hw, hk0, hneg, hs1, h48i, hroom, hzc, Addr.add_lit, hst]
    · have hk0 : 0 < k := by omega
      have hc : ∀ j u, cs[j]? = some u → w.drew.cell? ((⟨g, 0, none⟩ : Addr).add j) = some u := fun j u hu => (hown.cells (g := g) rfl j u hu)
      have hold := run_firstCells_some (P := P) w.drew i.size n ⟨g, 0, none⟩ n cap cs (by rw [hs1]; exact hown.1) hc
      have hfit : Builtin.nextslicecap (n + k) cap * i.bytes ≤ 281474976710656 := by
        have := nextslicecap_le (need := n + k) (old := cap) (by omega)
        rw [hby]
        have h3 := Nat.mul_le_mul_right bytes this
        rw [Nat.mul_assoc] at h3
        omega
      refine ⟨_, _, Lib.run_append_grow_zeros w t tn ty e i z kq kn ht htn hi hz (some ⟨g, 0, none⟩) n cap cs hold k hk0 (by omega) (by omega) (by omega) (by rw [hby]; omega) hfit, ?_, grown_drewAlloc _ _ _, .inr ⟨_, rfl, Nat.le_refl _⟩⟩
      have hl : (cs ++ List.replicate k z).length = n + k := by simp [hown.1]
      have := own_regrown w (e := e) hB hl (grownCap_ge w (n + k) cap e) (grownCap_le_maxLen _ _ _ _ (by unfold maxLen; omega)) (Builtin.zeroCells z.cells (grownCap w (n + k) cap e - (n + k))) (by rw [size_zeroCells, hz1]; simp)
      rw [hz1] at this ⊢
      have he : cs.toArray ++ Builtin.zeroCells #[z] k = (cs ++ List.replicate k z).toArray := by
        rw [← zeroCells_list z k]
        simp
      rw [he]
      exact this
/-- The operation append, whose run is known up to its value and world: for the walk, behind 'at_builtin'. -/
theorem wpList_apprun (w : World) {ops : Array Oper} {rest : List Oper} {o : Oper} {a : Act} {Q : Exit → Act → World → Prop} (hgd : o.guard = none) (s x : Operand) (t u : TypeId)
    (ho : o.op = .call { callee := .builtin .append, args := #[s, x], argTypes := #[t, u] }) (vs vx : Value) (hs : a.eval s = vs) (hx : a.eval x = vx) (R : Value → World → Prop)
    (hr : ∃ v' w', (Builtin.append_ #[t, u] o.type #[vs, vx]).run P w = .ok v' w' ∧ R v' w') (h : ∀ v' w', R v' w' → wpList P ops Q rest (a.put o.dst v') w') : wpList P ops Q (o :: rest) a w := by
  obtain ⟨v', w', hrun, hR⟩ := hr
  exact Lib.wpList_append_run w hgd s x t u ho vs vx hs hx v' w' hrun (h v' w' hR)
end
end Go.Proofs.Ytfngadidlmbfdaa
