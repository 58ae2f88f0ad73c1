/-
  slices.Clone of bytes; a disk's Bytes.
-/
import Derived.Test.YtfngadidlmbfdaaDisk1
import Derived.Test.YtfngadidlmbfdaaReg
import Derived.Laws.Cover3
namespace Go.Proofs.Ytfngadidlmbfdaa
open Go.RowKit Go.ChangeMaps
set_option linter.unusedVariables false
set_option linter.unusedSimpArgs false
set_option maxRecDepth 100000 in
theorem cloneB_any (a : Addr) (xs : List Int) (n c : Nat) (w : World) (hn : xs.length = n) (hr : Rd (Value.int .u8) w (some a) xs) (hl : n ≤ 100000000) :
    Calls Try.prog 89 #[.slice (some a) n c] w (RetOwn w 5 1 n (xs.map (Value.int .u8))) := by
  have HR := Lib.hid hr; clear hr
  have H1 := Lib.hid (fun u (hu : u ∈ xs.map (Value.int .u8)) => (show u.oneCell' = true by obtain ⟨x, _, rfl⟩ := List.mem_map.1 hu; rfl))
  have hnil : ∀ W : World, (binOp .eql 33 (.slice (some a) n c) (.slice none 0 0)).run Try.prog W = .ok (.bool false) W := fun W => by
    have := run_equalIn_slice_nil (P := Try.prog) (w := W) 9999 33 5 (some a) n c Try.underlying33
    have e : (Op.equalIn Op.maxDepth 33 (.slice (some a) n c) (.slice none 0 0)).run Try.prog W = .ok false W := this
    simp [binOp, Op.equal, Sem.run_bind, Result.andThen, e]
  go_enter Try.func89, Try.ntmps89
  go_wp2_with (at_builtin; refine wpList_app _ rfl (.tmp 5) (.tmp 6) ty_bytes rfl _ _ _ rfl (own_empty w w.heap.size 5 1 (Nat.le_refl _)) _ n c (xs.map (Value.int .u8)) rfl (by rw [← hn]; exact (HR.out.below ((Below.refl w.heap.size w).alloc (Nat.le_refl _) _)).cells) H1.out (by omega) (by unfold maxLen; omega) (by simp) ?_; intro v1 w1 h1 h2 h3; simp only [Nat.zero_add, List.nil_append] at h1; have K1 := Lib.hid h1; have K2 := Lib.hid (show (w.alloc (.cells #[] 5)).grownBy w1 (some w.heap.size) from h2); clear h1 h2 h3)
  go_ret
  exact ⟨_, rfl, K1.out, ((Below.refl w.heap.size w).alloc (Nat.le_refl _) _).grown K2.out (by simp) (fun k hk => by injection hk with hk; exact Nat.le_of_eq hk)⟩
theorem inf_sector : (Try.prog.info? 134).map (fun i => (i.zero, i.size)) = some (some (secV zeroSec), 512) := by kernel_rfl
theorem sz_sector : (Try.prog.info? 134).map (·.size) = some 512 := by kernel_rfl
theorem zc_sector : Array.size Try.zeroCells134 = 512 := by kernel_rfl
theorem rd_block {α : Type} {enc : α → Value} {w : World} {g t : Nat} {fr : Nat × Nat} {xs : List α} (h : w.heap[g]? = some (.cells (xs.map enc).toArray t fr)) : Rd enc w (some ⟨g, 0, none⟩) xs := fun _ =>
  ⟨g, 0, rfl, fun j hj => by rw [Nat.zero_add, cell_of_row w g j _ t fr h]; simp [hj]⟩
theorem zero_sector (w : World) : (zeroValue 134).run Try.prog w = .ok (secV zeroSec) w := by
  have h := inf_sector
  cases hq : Try.prog.info? 134 with
  | none => simp [hq] at h
  | some i =>
    rw [hq] at h
    simp at h
    simp [zeroValue, typeInfo, Sem.run_bind, hq, h.1, Result.andThen]
theorem DiskAt.look {w : World} {F : Nat → Prop} {d : Nat} {S : DS} (h : DiskAt w F d S) : ∃ m sv, DCells w d (.int .i64 S.n) (.map (some m)) sv (.int .i64 S.left) (.bool S.dead) ∧
    ∀ W, Below w.heap.size w W → ∀ i, (Instr.lookup 129 (.map (some m)) (.int .i64 i) false).run Try.prog W = .ok (secV (S.fast i)) W := by
  obtain ⟨m, sv, f, h1, h2, h3, _⟩ := h
  refine ⟨m, sv, h1, fun W hb i => ?_⟩
  rw [(h2.kept (hb.block m h2.lt)).lookup Try.underlying129 Try.underlying3 (zero_sector W) i, h3 i]
/-- What stands fast of a sector, as bytes in memory. -/
def RetBytes (w : World) (xs : List Int) (e : Ending) (w' : World) : Prop := ∃ v, e = .returned v ∧ RdV (Value.int .u8) w' v xs ∧ Below w.heap.size w w' ∧ (xs ≠ [] → w'.ownsRow w.heap.size 5 1 v xs.length (xs.map (Value.int .u8)))
def DS.bytes (S : DS) (i : Int) : List Int := if i < 0 ∨ (S.n : Int) ≤ i then [] else S.fast i
def bytesG (B : Nat) (d : Nat → Bool) (x : Nat → Value) (w : World) : Prop := d 6 = true → ∃ g, x 6 = .pointer (some ⟨g, 0, none⟩) ∧ B ≤ g ∧ w.heap[g]? = some (.cells (zeroSec.map (Value.int .u8)).toArray 134 (0, 0))
set_option maxRecDepth 100000 in
theorem disk_bytes {w : World} {F : Nat → Prop} {d : Nat} {S : DS} (h : DiskAt w F d S) (i : Int) : Calls Try.prog 28 #[.pointer (some ⟨d, 0, none⟩), .int .i64 i] w (RetBytes w (S.bytes i)) := by
  have hlen : (S.fast i).length = 512 := by obtain ⟨_, _, _, _, _, _, _, _, h5⟩ := h; exact h5.fast i
  obtain ⟨m, sv, hc, hl⟩ := h.look
  have HC := Lib.hid hc; clear hc
  have HL := Lib.hid hl; clear hl
  have H := Lib.hid h; clear h
  obtain ⟨⟨c0, c1, c2, c3, c4⟩, _⟩ := HC.out.cells
  by_cases h12 : i < 0 ∨ (S.n : Int) ≤ i
  · have e1 : Hid (S.bytes i = []) := by show S.bytes i = []; simp only [DS.bytes]; rw [if_pos h12]
    obtain ⟨X, hX⟩ : ∃ X, X = S.bytes i := ⟨_, rfl⟩
    have EX : Hid (X = []) := by show X = []; rw [hX]; exact e1.out
    rw [← hX]
    clear hX
    have fin : ∀ e, e = .returned (.slice none 0 0) → RetBytes w X e w := by
      rintro e rfl
      rw [EX.out]
      exact ⟨_, rfl, ⟨none, 0, rfl, Nat.le_refl _, by simp [maxLen], Rd.nil⟩, Below.refl _ _, fun hne => absurd rfl hne⟩
    by_cases h1 : i < 0
    · clear h12
      go_enter Try.func28, Try.ntmps28
      go_wp2_with fail
      go_ret
      exact fin _ rfl
    · have h2 : (S.n : Int) ≤ i := by omega
      clear h12
      go_enter Try.func28, Try.ntmps28
      go_wp2_with fail
      go_ret
      exact fin _ rfl
  · have h1 : ¬ i < 0 := fun h => h12 (.inl h)
    have h2 : ¬ (S.n : Int) ≤ i := fun h => h12 (.inr h)
    obtain ⟨X, hX⟩ : ∃ X, X = S.bytes i := ⟨_, rfl⟩
    have EX : Hid (S.fast i = X) := by show S.fast i = X; rw [hX]; simp only [DS.bytes]; rw [if_neg h12]
    rw [← hX]
    clear hX h12
    have hlook := HL.out w (Below.refl _ _) i
    rw [EX.out] at hlook hlen
    obtain ⟨Cs, hCs⟩ : ∃ Cs : Array Value, Cs = (X.map (Value.int .u8)).toArray := ⟨_, rfl⟩
    have hCz : Cs.size = 512 := by rw [hCs]; simp [hlen]
    have hC1 : Cs.all (·.oneCell') = true := by rw [hCs]; simp [Array.all_eq_true_iff_forall_mem]; intro x _; rfl
    rw [show secV X = .agg Cs by rw [hCs]; rfl] at hlook
    have HCs := Lib.hid hCs; clear hCs
    have HZ : Hid ((Try.prog.info? 134).map (·.size) = some Cs.size) := by rw [hCz]; exact sz_sector
    have HO : Hid (Array.size Try.zeroCells134 = Cs.size) := by rw [hCz]; exact zc_sector
    have HC1 := Lib.hid hC1
    have HCz := Lib.hid hCz
    clear hC1 hCz
    go_enter Try.func28, Try.ntmps28
    go_wp2_with (refine wpList_store_row rfl 134 (.tmp 5) (.tmp 21) rfl w.heap.size Cs rfl rfl 134 Try.zeroCells134 (heap_alloc_new w _) HZ.out HO.out HC1.out ?_)
    have hW : Below w.heap.size w ((w.alloc (.cells Try.zeroCells134 134)).setRow w.heap.size Cs) := ((Below.refl w.heap.size w).alloc (Nat.le_refl _) _).trans ⟨rfl, rfl, rfl, by simp, fun k hk => setRow_other _ _ _ _ (by omega)⟩
    have hR : Rd (Value.int .u8) ((w.alloc (.cells Try.zeroCells134 134)).setRow w.heap.size Cs) (some ⟨w.heap.size, 0, none⟩) X := rd_block (t := 134) (fr := (0, 0)) (by rw [← HCs.out]; exact setRow_heap _ _ _ _ _ _ (heap_alloc_new w _))
    obtain ⟨W, hWe⟩ : ∃ W, W = (w.alloc (.cells Try.zeroCells134 134)).setRow w.heap.size Cs := ⟨_, rfl⟩
    rw [← hWe] at hW hR ⊢
    clear hWe
    have HW := Lib.hid hW; clear hW
    refine (cloneB_any _ X 512 512 _ hlen hR (by decide)).mono ?_
    rintro e w1 ⟨v, rfl, ho, hb⟩
    have HO1 := Lib.hid (And.intro ho hb); clear ho hb hR
    go_wp2_with fail
    go_ret
    have hs := HW.out.size
    refine ⟨_, rfl, RdV.own hlen HO1.out.1, below_then HW.out (Nat.le_refl _) HO1.out.2, fun _ => by rw [hlen]; exact own_le HO1.out.1 hs⟩
end Go.Proofs.Ytfngadidlmbfdaa
