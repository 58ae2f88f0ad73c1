/-
  The document's disk: New, full, call, Arm.
-/
import Derived.Test.YtfngadidlmbfdaaRD0
namespace Go.Proofs.Ytfngadidlmbfdaa
open Go.RowKit Go.ChangeMaps
set_option linter.unusedVariables false
set_option linter.unusedSimpArgs false
def RS.new (n : Int) : RS := { n := (min (max n 0) 4096).toNat, fs := [], since := [], left := 0, armed := false, dead := false }
def RetNewR (w : World) (R : RS) (e : Ending) (w' : World) : Prop := ∃ r F, e = .returned (.pointer (some ⟨r, 0, none⟩)) ∧ RefAt w' F r R ∧ (∀ k, F k → w.heap.size ≤ k) ∧ Below w.heap.size w w'
theorem rnew_at (n N : Int) (w : World) (hN : N = min (max n 0) 4096) : RetNewR w (RS.new n) (.returned (.pointer (some ⟨w.heap.size, 0, none⟩))) (w.alloc (.cells #[.int .i64 N, .slice none 0 0, .slice none 0 0, .slice none 0 0, .slice none 0 0, .int .i64 0, .bool false, .bool false] 42)) := by
  have h1 := heap_alloc_new w (.cells #[.int .i64 N, .slice none 0 0, .slice none 0 0, .slice none 0 0, .slice none 0 0, .int .i64 0, .bool false, .bool false] 42)
  have hn : N = ((RS.new n).n : Int) := by rw [hN]; simp only [RS.new]; omega
  rw [hn] at h1 ⊢
  refine ⟨w.heap.size, fun k => k = w.heap.size, rfl, ⟨.slice none 0 0, .slice none 0 0, .slice none 0 0, .slice none 0 0, [], [], h1, own_nil _ _ _ _, own_nil _ _ _ _, own_nil _ _ _ _, own_nil _ _ _ _, ⟨rfl, by simp⟩, ⟨rfl, by simp⟩, by simp [Value.ownBlock], by simp [Value.ownBlock], rfl, by simp [Value.ownBlock], by simp [Value.ownBlock], by simp [Value.ownBlock], by simp [Value.ownBlock], ?_, ?_⟩, ?_, (Below.refl w.heap.size w).alloc (Nat.le_refl _) _⟩
  · rintro k rfl; simp
  · exact ⟨by simp only [RS.new]; omega, by simp [RS.new], by simp [RS.new], by simp [RS.new]⟩
  · rintro k rfl; exact Nat.le_refl _
set_option maxRecDepth 100000 in
theorem ref_new (n : Int) (w : World) (hn : -9223372036854775808 ≤ n ∧ n ≤ 9223372036854775807) : Calls Try.prog 50 #[.int .i64 n] w (RetNewR w (RS.new n)) := by
  obtain ⟨RE, hRE⟩ : ∃ RE, RE = RetNewR w (RS.new n) := ⟨_, rfl⟩
  rw [← hRE]
  have HRE := Lib.hid hRE; clear hRE
  by_cases h1 : n < 0
  · go_enter Try.func50, Try.ntmps50
    go_wp2_with fail
    rw [HRE.out]
    exact rnew_at n _ w (by omega)
  · by_cases h2 : 4096 < n
    · go_enter Try.func50, Try.ntmps50
      go_wp2_with fail
      rw [HRE.out]
      exact rnew_at n _ w (by omega)
    · go_enter Try.func50, Try.ntmps50
      go_wp2_with fail
      rw [HRE.out]
      exact rnew_at n _ w (by omega)
theorem run_zerosB (w : World) {B ty : Nat} {v : Value} {n : Nat} {cs : List Value} (hown : w.ownsRow B 5 1 v n cs) (z : Int) (Z : Nat) (hz : z = Z) (hn : n + Z ≤ 100000000) (hB : B ≤ w.heap.size) :
    ∃ v' w', (Builtin.append_ #[33, 3] ty #[v, .int .i64 z]).run Try.prog w = .ok v' w' ∧ w'.ownsRow B 5 1 v' (n + Z) (cs ++ List.replicate Z (.int .u8 0)) ∧ w.grownBy w' v.ownBlock ∧ OB w v v' := by
  subst hz
  exact run_app_zeros w (.int .u8 0) Try.underlying33 Try.underlying3 inf_bytes rfl rfl hown Z (by omega) (by omega) hB
set_option maxRecDepth 100000 in
theorem ref_full (A : Option Addr) (b : List Int) (n c : Nat) (w : World) (hn : b.length = n) (hb : Rd (Value.int .u8) w A b) (hl : n ≤ 512) :
    Calls Try.prog 82 #[.slice A n c] w (RetOwn w 5 1 512 ((pad512 b).map (Value.int .u8))) := by
  have HB := Lib.hid hb; clear hb
  obtain ⟨Bs, hBs⟩ : ∃ Bs, Bs = b.map (Value.int .u8) := ⟨_, rfl⟩
  have H1 := Lib.hid (fun u (hu : u ∈ Bs) => (show u.oneCell' = true by rw [hBs] at hu; obtain ⟨x, _, rfl⟩ := List.mem_map.1 hu; rfl))
  have HR : Hid (RdC 1 (w.alloc (.cells #[] 5)) A n Bs) := by show RdC _ _ _ _ _; rw [← hn, hBs]; exact (HB.out.below ((Below.refl w.heap.size w).alloc (Nat.le_refl _) _)).cells
  have HX : Hid ((pad512 b).map (Value.int .u8) = Bs ++ List.replicate (512 - n) (.int .u8 0)) := by show _ = _; rw [hBs, pad512, List.map_append, List.map_replicate, hn]
  rw [HX.out]
  clear hBs
  obtain ⟨Z, hZ⟩ : ∃ Z, Z = 512 - n := ⟨_, rfl⟩
  have hz1 : (512 : Int) - (n : Int) = (Z : Int) := by omega
  have HN : n + Z = 512 := by omega
  obtain ⟨RE, hRE⟩ : ∃ RE, RE = RetOwn w 5 1 512 (Bs ++ List.replicate (512 - n) (.int .u8 0)) := ⟨_, rfl⟩
  rw [← hRE]
  rw [← hZ] at hRE
  have HRE := Lib.hid hRE; clear hRE
  have HZ1 := Lib.hid hz1; clear hz1 hZ
  have HNN := Lib.hid HN; clear HN
  go_enter Try.func82, Try.ntmps82
  go_wp2_with (first
    | (at_builtin; refine wpList_app _ rfl (.tmp 3) (.tmp 4) ty_bytes rfl _ _ _ rfl (own_empty w w.heap.size 5 1 (Nat.le_refl _)) _ n c Bs rfl HR.out H1.out (by omega) (by unfold maxLen; omega) (by simp) ?_; intro v1 w1 h1 h2 h3; simp only [Nat.zero_add, List.nil_append] at h1; have K1 := Lib.hid h1; have K2 := Lib.hid (show (w.alloc (.cells #[] 5)).grownBy w1 (some w.heap.size) from h2); clear h1 h2 h3)
    | (at_builtin; refine wpList_apprun _ rfl (.tmp 5) (.tmp 8) 33 3 rfl _ _ rfl rfl _ (run_zerosB _ K1.out _ Z HZ1.out (by have := HNN.out; omega) (by have := K2.out.size; simp at this; omega)) ?_; rintro v2 w2 ⟨h1, h2, h3⟩; have K3 := Lib.hid (And.intro h1 (And.intro h2 h3)); clear h1 h2 h3))
  rw [HRE.out]
  refine ⟨_, rfl, ?_, ?_⟩
  · have := K3.out.1
    rw [HNN.out] at this
    exact this
  · have hb := ((Below.refl w.heap.size w).alloc (Nat.le_refl _) (.cells #[] 5)).grown K2.out (by simp) (fun k hk => by injection hk with hk; exact Nat.le_of_eq hk)
    exact hb.grown K3.out.2.1 hb.size (fun k hk => (own_base K1.out k hk).1)
def RS.call (R : RS) : RS := { R with left := R.left - 1, dead := R.dead || (R.armed && decide (R.left ≤ 0)) }
section
variable {w : World} {F : Nat → Prop} {r : Nat} {R : RS}
theorem RefAt.rcells (h : RefAt w F r R) : ∃ av bv tv wv, RCells w r (.int .i64 R.n) av bv tv wv (.int .i64 R.left) (.bool R.armed) (.bool R.dead) ∧ (∀ w' left armed dead, RCells w' r (.int .i64 R.n) av bv tv wv (.int .i64 left) (.bool armed) (.bool dead) → (∀ k, k ≠ r → w'.heap[k]? = w.heap[k]?) → w.heap.size ≤ w'.heap.size →
    (-1000000000 ≤ left ∧ left ≤ 9223372036854775807) → RefAt w' F r { R with left := left, armed := armed, dead := dead }) := by
  obtain ⟨av, bv, tv, wv, bs, ws, h⟩ := h
  exact ⟨av, bv, tv, wv, h.cells, fun w' left armed dead h1 h2 h3 h4 => ⟨av, bv, tv, wv, bs, ws, h.turn h1 h2 h3 h4⟩⟩
theorem RefAt.ok (h : RefAt w F r R) : R.Ok := by
  obtain ⟨av, bv, tv, wv, bs, ws, h⟩ := h
  exact h.ok
set_option maxRecDepth 100000 in
theorem ref_call (h : RefAt w F r R) (hb : -1000000000 < R.left) : Calls Try.prog 133 #[.pointer (some ⟨r, 0, none⟩)] w (RetRef w F r (.bool !R.call.dead) R.call) := by
  have hl := h.ok.left
  have H := Lib.hid h; clear h
  obtain ⟨av, bv, tv, wv, hc, hT⟩ := H.out.rcells
  have HC := Lib.hid hc; clear hc
  have HT := Lib.hid hT; clear hT
  obtain ⟨⟨c0, c1, c2, c3, c4, c5, c6, c7⟩, hf⟩ := HC.out.cells
  obtain ⟨L, hL⟩ : ∃ L, L = R.left := ⟨_, rfl⟩
  obtain ⟨M, hM⟩ : ∃ M, M = R.armed := ⟨_, rfl⟩
  obtain ⟨D, hD⟩ : ∃ D, D = R.dead := ⟨_, rfl⟩
  have f5 := hf 5
  have f7 := hf 7
  clear hf
  obtain ⟨D', hD'⟩ : ∃ D', D' = R.call.dead := ⟨_, rfl⟩
  have hD2 : D' = (D || (M && decide (L ≤ 0))) := by rw [hD', hD, hM, hL]; rfl
  obtain ⟨RE, hRE⟩ : ∃ RE, RE = RetRef w F r (.bool !D') R.call := ⟨_, rfl⟩
  rw [← hD', ← hRE]
  have HRE := Lib.hid hRE; clear hRE
  have HRC : Hid (R.call = { R with left := L - 1, armed := M, dead := D' }) := by show _ = _; rw [hL, hM, hD']; rfl
  have HM := Lib.hid hM; have HDD := Lib.hid hD; have HLL := Lib.hid hL
  rw [← hL] at c5 hb hl
  rw [← hM] at c6
  rw [← hD] at c7
  clear hM hD hL hD'
  by_cases h0 : L ≤ 0
  · have e0 : decide (L ≤ 0) = true := by simp [h0]
    rw [e0] at hD2
    cases M
    · have HD2 : Hid (D' = D) := by show _ = _; rw [hD2]; simp
      clear hD2
      go_enter Try.func133, Try.ntmps133
      go_wp2_with fail
      rw [HRE.out, HRC.out, HD2.out]
      exact ⟨rfl, F, HT.out _ _ _ _ (by rw [HDD.out]; exact set_same (by have := HC.out; rw [← HM.out] at this; exact this)) (fun k hk => set_other w r 5 _ hk) (by simp [World.setCell]) (by omega), Fr.setCell _ _ H.out.at_⟩
    · have HD2 : Hid (D' = true) := by show _ = _; rw [hD2]; simp
      clear hD2
      go_enter Try.func133, Try.ntmps133
      go_wp2_with fail
      rw [HRE.out, HRC.out, HD2.out]
      refine ⟨rfl, F, HT.out _ _ _ _ (by have := HC.out; rw [← HM.out] at this; have := set_same (i := 5) (v := .int .i64 (L - 1)) (set_same (i := 7) (v := .bool true) this); exact this) (fun k hk => (set_other _ r 5 _ hk).trans (set_other w r 7 _ hk)) (by simp [World.setCell]) (by omega), (Fr.setCell _ _ H.out.at_).trans (Fr.setCell _ _ H.out.at_)⟩
  · have e0 : decide (L ≤ 0) = false := by simp; omega
    rw [e0] at hD2
    have HD2 : Hid (D' = D) := by show _ = _; rw [hD2]; simp
    clear hD2
    cases M
    all_goals
      go_enter Try.func133, Try.ntmps133
      go_wp2_with fail
      rw [HRE.out, HRC.out, HD2.out]
      exact ⟨rfl, F, HT.out _ _ _ _ (by rw [HDD.out]; exact set_same (by have := HC.out; rw [← HM.out] at this; exact this)) (fun k hk => set_other w r 5 _ hk) (by simp [World.setCell]) (by omega), Fr.setCell _ _ H.out.at_⟩
set_option maxRecDepth 100000 in
theorem ref_arm (h : RefAt w F r R) (n : Int) (hn : n ≤ 9223372036854775807) : Calls Try.prog 53 #[.pointer (some ⟨r, 0, none⟩), .int .i64 n] w (RetRef w F r (.tuple #[]) { R with left := max n 0, armed := true }) := by
  have H := Lib.hid h; clear h
  obtain ⟨av, bv, tv, wv, hc, hT⟩ := H.out.rcells
  have HC := Lib.hid hc; clear hc
  have HT := Lib.hid hT; clear hT
  obtain ⟨⟨c0, c1, c2, c3, c4, c5, c6, c7⟩, hf⟩ := HC.out.cells
  have f5 := hf 5
  have f6 := hf 6
  clear hf
  have fin : Hid (∀ m : Int, m = max n 0 → RetRef w F r (.tuple #[]) { R with left := max n 0, armed := true } (.returned (.tuple #[])) ((w.setCell ⟨r, 6, none⟩ (.bool true)).setCell ⟨r, 5, none⟩ (.int .i64 m))) := by
    rintro m rfl
    exact ⟨rfl, F, HT.out _ _ _ _ (set_same (set_same HC.out)) (fun k hk => (set_other _ r 5 _ hk).trans (set_other w r 6 _ hk)) (by simp [World.setCell]) (by omega), (Fr.setCell _ _ H.out.at_).trans (Fr.setCell _ _ H.out.at_)⟩
  obtain ⟨RE, hRE⟩ : ∃ RE, RE = RetRef w F r (.tuple #[]) { R with left := max n 0, armed := true } := ⟨_, rfl⟩
  rw [← hRE] at fin ⊢
  clear hRE
  by_cases h0 : n < 0
  · go_enter Try.func53, Try.ntmps53
    go_wp2_with fail
    exact ⟨rfl, .tuple #[], by simp [results, Try.results53], fin.out _ (by omega)⟩
  · go_enter Try.func53, Try.ntmps53
    go_wp2_with fail
    exact ⟨rfl, .tuple #[], by simp [results, Try.results53], fin.out _ (by omega)⟩
end
end Go.Proofs.Ytfngadidlmbfdaa
