/-
  A disk's keeps, walked.
-/
import Derived.Test.YtfngadidlmbfdaaDisk5
import Derived.Test.YtfngadidlmbfdaaRowOps
namespace Go.Proofs.Ytfngadidlmbfdaa
open Go.RowKit Go.ChangeMaps
set_option linter.unusedVariables false
set_option linter.unusedSimpArgs false
/-- Between two rounds: the writes before k are looked at. -/
structure KSt (w : World) (q m : Nat) (S : DS) (sv : Value) (p : Nat → Bool) (k : Nat) (f : Int → Option Value) (g : Int → List Int) (W : World) : Prop where
  cells : DCells W q (.int .i64 S.n) (.map (some m)) sv (.int .i64 S.left) (.bool S.dead)
  row : W.ownsRow 0 173 513 sv S.since.length (S.since.flatMap wrCells)
  map : MapI W m f
  val : ∀ z, (f z).getD (secV zeroSec) = secV (g z)
  len : ∀ z, (g z).length = 512
  keep : keepF p k (S.since.drop k) g = keepF p 0 S.since S.fast
  fr : Fr (fun k => k = m) (fun k => k = m) w W
theorem flat_at (l : List (Int × List Int)) (hl : ∀ p ∈ l, p.2.length = 512) : ∀ (k : Nat) (hk : k < l.length) (j : Nat), j < 513 → (l.flatMap wrCells)[k * 513 + j]? = (wrCells l[k])[j]? := by
  induction l with
  | nil => intro k hk; simp at hk
  | cons p r ih =>
    intro k hk j hj
    have h1 : (wrCells p).length = 513 := wrCells_len (hl p (by simp))
    cases k with
    | zero => rw [List.flatMap_cons, Nat.zero_mul, Nat.zero_add, List.getElem?_append_left (by omega)]; rfl
    | succ k =>
      rw [List.flatMap_cons, show (k + 1) * 513 + j = (wrCells p).length + (k * 513 + j) by rw [h1]; omega, List.getElem?_append_right (by omega), Nat.add_sub_cancel_left]
      exact ih (fun p hp => hl p (by simp [hp])) k (by simpa using hk) j hj
theorem row_at {W : World} {g n c : Nat} {l : List (Int × List Int)} (hl : ∀ p ∈ l, p.2.length = 512) (h : W.ownsRow 0 173 513 (.slice (some ⟨g, 0, none⟩) n c) n (l.flatMap wrCells)) (k : Nat) (hk : k < l.length) (a : Nat) (ha : a = k * 513) :
    ∀ j v, (wrCells l[k])[j]? = some v → W.cell? ((⟨g, a, none⟩ : Addr).add j) = some v := by
  subst ha
  intro j v hv
  have hj : j < 513 := by
    have := (List.getElem?_eq_some_iff.1 hv).1
    rwa [wrCells_len (hl _ (List.getElem_mem hk))] at this
  have hc := h.cells (g := g) rfl (k * 513 + j) v (by rw [flat_at l hl k hk j hj]; exact hv)
  have e1 : (⟨g, 0, none⟩ : Addr).add (k * 513 + j) = ⟨g, k * 513 + j, none⟩ := by unfold Addr.add; split <;> simp_all
  have e2 : (⟨g, k * 513, none⟩ : Addr).add j = ⟨g, k * 513 + j, none⟩ := by unfold Addr.add; split <;> simp_all
  rw [e1] at hc
  rw [e2]
  exact hc
theorem own_addr {w : World} {B e sz n c : Nat} {A : Option Addr} {cs : List Value} (h : w.ownsRow B e sz (.slice A n c) n cs) (hn : 0 < n) : ∃ g, A = some ⟨g, 0, none⟩ := by
  rcases h.2 with ⟨hv, h0⟩ | ⟨g, cap, cur, hv, _⟩
  · omega
  · injection hv with hA _ _; exact ⟨g, hA⟩
theorem keepF_step (p : Nat → Bool) (k : Nat) (l : List (Int × List Int)) (hk : k < l.length) (g : Int → List Int) : keepF p k (l.drop k) g = keepF p (k + 1) (l.drop (k + 1)) (if p k = true then putF g l[k].1 l[k].2 else g) := by
  rw [List.drop_eq_getElem_cons hk]
  rfl
theorem keepF_end (p : Nat → Bool) (k : Nat) (l : List (Int × List Int)) (hk : l.length ≤ k) (g : Int → List Int) : keepF p k (l.drop k) g = g := by
  rw [List.drop_eq_nil_of_le hk]
  rfl
section
variable {w W W1 W' : World} {q m k : Nat} {S : DS} {sv : Value} {p : Nat → Bool} {f : Int → Option Value} {g : Int → List Int}
theorem map_ne_cells {cs : Array Value} {t : Nat} {fr : Nat × Nat} (h : W.heap[q]? = some (.cells cs t fr)) (hm : MapI W m f) : m ≠ q := by
  rintro rfl
  obtain ⟨es, clock, ms, hb', _⟩ := hm
  rw [h] at hb'
  cases hb'
theorem KSt.skip (h : KSt w q m S sv p k f g W) (hk : k < S.since.length) (hp : p k = false) (hb : Below W.heap.size W W') : KSt w q m S sv p (k + 1) f g W' := by
  obtain ⟨h1, h2, h3, h4, h5, h6, h7⟩ := h
  refine ⟨(hb.block q (Array.getElem?_eq_some_iff.1 h1).1).trans h1, own_below h2 hb, h3.kept (hb.block m h3.lt), h4, h5, ?_, h7.thenBelow hb⟩
  rw [← h6, keepF_step p k S.since hk, if_neg (by rw [hp]; decide)]
theorem KSt.put (h : KSt w q m S sv p k f g W) (hlen : ∀ x ∈ S.since, x.2.length = 512) (hk : k < S.since.length) (hp : p k = true) {x : Int × List Int} (hx : x = S.since[k]) (hb : Below W.heap.size W W1) (hW : ∃ ob, W' = setBlock W1 m ob)
    (hM : MapI W' m (fun z => if z = x.1 then some (secV x.2) else f z)) : KSt w q m S sv p (k + 1) (fun z => if z = x.1 then some (secV x.2) else f z) (putF g x.1 x.2) W' := by
  obtain ⟨h1, h2, h3, h4, h5, h6, h7⟩ := h
  obtain ⟨ob, rfl⟩ := hW
  have hqm : q ≠ m := (map_ne_cells h1 h3).symm
  have hsm := own_ne_map h3 h2
  have hset : ∀ j, j ≠ m → (setBlock W1 m ob).heap[j]? = W1.heap[j]? := fun j hj => by simp [setBlock, Array.getElem?_setIfInBounds, Ne.symm hj]
  refine ⟨(hset q hqm).trans ((hb.block q (Array.getElem?_eq_some_iff.1 h1).1).trans h1), own_at (own_below h2 hb) (fun j hj => hset j (fun e => hsm (e ▸ hj))), hM, ?_, ?_, ?_, ?_⟩
  · intro z
    simp only [putF]
    split
    · rfl
    · exact h4 z
  · intro z
    simp only [putF]
    split
    · rw [hx]; exact hlen _ (List.getElem_mem hk)
    · exact h5 z
  · rw [← h6, keepF_step p k S.since hk, if_pos hp, hx]
  · refine (h7.thenBelow hb).trans ⟨rfl, rfl, rfl, by simp [setBlock], fun j _ hj => hset j hj, fun j hj => .inl hj⟩
theorem KSt.fin {F : Nat → Prop} (h : KSt w q m S sv p k f g W) (hF : F = fun k => k = q ∨ k = m ∨ sv.ownBlock = some k) (hok : S.Ok) (hk : S.since.length ≤ k) :
    RetDisk w F q (.tuple #[]) (S.keeps p) (.returned (.tuple #[])) (W.setCell ⟨q, 2, none⟩ (.slice none 0 0)) := by
  obtain ⟨h1, h2, h3, h4, h5, h6, h7⟩ := h
  have hqm : m ≠ q := map_ne_cells h1 h3
  refine ⟨rfl, fun k => k = q ∨ k = m ∨ (Value.slice none 0 0).ownBlock = some k, ⟨m, .slice none 0 0, f, set_same h1, h3.kept (set_other W q 2 _ hqm), ?_, own_nil _ _ _ _, rfl, ?_⟩, ?_⟩
  · have e : (S.keeps p).fast = g := by
      show keepF p 0 S.since S.fast = g
      rw [← h6, keepF_end p k S.since hk]
    intro z
    rw [e]
    exact h4 z
  · refine ⟨hok.n, fun z => ?_, fun x hx => by simp [DS.keeps] at hx, by simp [DS.keeps], hok.left⟩
    show (keepF p 0 S.since S.fast z).length = 512
    rw [← h6, keepF_end p k S.since hk]
    exact h5 z
  · have hqF : F q := by rw [hF]; exact .inl rfl
    have hmF : F m := by rw [hF]; exact .inr (.inl rfl)
    refine ⟨h7.os, h7.tape, h7.output, by simpa [World.setCell] using h7.size, fun j hj hFj => (set_other W q 2 _ (show j ≠ q from fun e => hFj (e ▸ hqF))).trans (h7.block j hj (fun e => hFj (e ▸ hmF))), ?_⟩
    rintro j (rfl | rfl | hj)
    · exact .inl hqF
    · exact .inl hmF
    · simp [Value.ownBlock] at hj
end
theorem wc_cells {wr : World} {p : Int × List Int} (hp : p.2.length = 512) {Cs : Array Value} (hCs : Cs = (wrCells p).toArray) {W1 : World} (hb : W1.heap[wr.heap.size]? = some (.cells Cs 173 (0, 0))) :
    W1.cell? ⟨wr.heap.size, 0, none⟩ = some (.int .i64 p.1) ∧ ∀ j v, (p.2.map (Value.int .u8))[j]? = some v → W1.cell? ((⟨wr.heap.size, 1, none⟩ : Addr).add j) = some v := by
  have hc : ∀ i, W1.cell? ⟨wr.heap.size, i, none⟩ = Cs[i]? := fun i => cell_of_row W1 _ i _ _ (0, 0) hb
  refine ⟨by rw [hc, hCs]; rfl, fun j v hv => ?_⟩
  have e : (⟨wr.heap.size, 1, none⟩ : Addr).add j = ⟨wr.heap.size, 1 + j, none⟩ := by unfold Addr.add; split <;> simp_all
  rw [e, hc, hCs, Nat.add_comm]
  simpa [wrCells] using hv
theorem flush1_b (i : Int) (w : World) (B : Bool) (hB : B = true) : Calls Try.prog 135 #[.int .i64 i] w fun e w' => e = .returned (.bool B) ∧ w = w' := by rw [hB]; exact flush1_any i w
theorem crash1_b (k : Nat) (h : Nat) (A : Option Addr) (ks : List Bool) (c : Nat) (w : World) (hb : w.cell? ⟨h, 0, none⟩ = some (.slice A ks.length c)) (hr : Rd Value.bool w A ks) (B : Bool) (hB : B = keepB ks k) :
    Calls Try.prog 103 #[.int .i64 (k : Int), .pointer (some ⟨h, 0, none⟩)] w fun e w' => e = .returned (.bool B) ∧ w = w' := by rw [hB]; exact crash1_any k h A ks c w hb hr
/-- What a crash keeps is read, whatever was done to the disk. -/
structure KRd (w : World) (F : Nat → Prop) (hb : Nat) (A : Option Addr) (ks : List Bool) (c : Nat) : Prop where
  cell : w.cell? ⟨hb, 0, none⟩ = some (.slice A ks.length c)
  rd : Rd Value.bool w A ks
  f1 : ¬ F hb
  f2 : ∀ a, A = some a → ¬ F a.block
theorem KRd.at_ {w W : World} {F F1 F2 : Nat → Prop} {hb c : Nat} {A : Option Addr} {ks : List Bool} (h : KRd w F hb A ks c) (hf : Fr F1 F2 w W) (hF : ∀ k, F1 k → F k) : W.cell? ⟨hb, 0, none⟩ = some (.slice A ks.length c) ∧ Rd Value.bool W A ks := by
  refine ⟨(World.cell?_of_block (w := w) (hf.block hb (block_lt_of_cell h.cell) (fun h' => h.f1 (hF _ h')))).trans h.cell, fun hn => ?_⟩
  obtain ⟨g, o, rfl, hc⟩ := h.rd hn
  refine ⟨g, o, rfl, fun j hj => ?_⟩
  have h1 := hc j hj
  rw [← h1]
  exact World.cell?_of_block (w := w) (hf.block g (block_lt_of_cell h1) (fun h' => h.f2 _ rfl (hF _ h')))
set_option maxRecDepth 100000 in
set_option maxHeartbeats 1000000 in
theorem disk_keepsF {w : World} {F : Nat → Prop} {q : Nat} {S : DS} (h : DiskAt w F q S)  : Calls Try.prog 102 #[.pointer (some ⟨q, 0, none⟩), .func (.func 135) #[] #[]] w (RetDisk w F q (.tuple #[]) (S.keeps (fun _ => true))) := by
  obtain ⟨m, sv, f0, h1, h2, h3, h4, hF, hok⟩ := h
  
  
  obtain ⟨A, c, e, hc1, hc2⟩ := own_form h4
  subst e
  obtain ⟨P, hP⟩ : ∃ P, P = (fun _ => true) := ⟨_, rfl⟩
  rw [← hP]
  have HPP := Lib.hid hP; clear hP
  have h0 : KSt w q m S (.slice A S.since.length c) P 0 f0 S.fast w := ⟨h1, h4, h2, h3, hok.fast, rfl, Fr.refl _ _⟩
  have H0 := Lib.hid h0; clear h0 h2 h3
  have HOK := Lib.hid hok; clear hok
  obtain ⟨⟨c0, c1, c2, c3, c4⟩, _⟩ := DCells.cells h1
  clear h1 h4
  have hle : S.since.length ≤ 1000000000 := HOK.out.len
  have hlen := Lib.hid HOK.out.since
  obtain ⟨n, hn⟩ : ∃ n, n = S.since.length := ⟨_, rfl⟩
  rw [← hn] at H0 c2 hle hc1
  have HN := Lib.hid hn; clear hn
  have HF := Lib.hid hF; clear hF
  go_enter Try.func102, Try.ntmps102
  go_wp2_with fail
  go_loopw [11] (fun i W => ∃ k : Nat, k ≤ n ∧ i = .int .i64 k ∧ Hid (∃ f g, KSt w q m S (.slice A n c) P k f g W)) (fun i _ => n - (intOf i).toNat)
  case atStart => exact ⟨0, Nat.zero_le _, rfl, Lib.hid ⟨_, _, H0.out⟩⟩
  case round =>
    obtain ⟨k, hk, rfl, HK0⟩ := hrel
    obtain ⟨f, gf, hk0⟩ := HK0.out
    have HK := Lib.hid hk0; clear hk0 HK0
    clear c0 c1 c2 c3 c4
    have HC := Lib.hid HK.out.cells
    by_cases hlt : k < n
    · have hrow := HK.out.row
      rw [← HN.out] at hrow
      obtain ⟨g, hg⟩ := own_addr hrow (by omega)
      subst hg
      have hkl : k < S.since.length := by rw [← HN.out]; exact hlt
      have hcl : (wrCells S.since[k]).length = 513 := wrCells_len (hlen.out _ (List.getElem_mem hkl))
      obtain ⟨p, hp⟩ : ∃ p, p = S.since[k] := ⟨_, rfl⟩
      have HP := Lib.hid hp
      rw [← hp] at hcl
      have HR := Lib.hid (fun (a : Nat) (ha : a = k * 513) => (show ∀ j v, (wrCells p)[j]? = some v → wr.cell? ((⟨g, a, none⟩ : Addr).add j) = some v by rw [hp]; exact row_at hlen.out hrow k hkl a ha)); clear hrow hp
      have hp2 : p.2.length = 512 := by rw [HP.out]; exact hlen.out _ (List.getElem_mem hkl)
      obtain ⟨Cs, hCs⟩ : ∃ Cs, Cs = (wrCells p).toArray := ⟨_, rfl⟩
      have hCz : Cs.size = 513 := by rw [hCs, List.size_toArray]; exact hcl
      have HI : Hid ((Try.prog.info? 173).map (·.size) = some Cs.size) := by show _ = some _; rw [hCz]; exact sz_write
      have HZ : Hid (Array.size Try.zeroCells173 = Cs.size) := by show _ = _; rw [hCz, zc_write, List.size_toArray]; exact lenI 0
      have H1 : Hid (Cs.all (·.oneCell') = true) := by show _ = _; rw [hCs]; simp only [Array.all_eq_true_iff_forall_mem]; intro v hv; exact wrCells_one _ v (by simpa using hv)
      have HCs := Lib.hid hCs; clear hCs hcl
      have HCz := Lib.hid hCz; clear hCz
      have HB1 : Hid (Below wr.heap.size wr ((wr.alloc (.cells Try.zeroCells173 173)).setRow wr.heap.size Cs)) := ((Below.refl wr.heap.size wr).alloc (Nat.le_refl _) _).trans ⟨rfl, rfl, rfl, by simp, fun k hk => setRow_other _ _ _ _ (by omega)⟩
      have HW1 : Hid (((wr.alloc (.cells Try.zeroCells173 173)).setRow wr.heap.size Cs).heap[wr.heap.size]? = some (.cells Cs 173 (0, 0))) := setRow_heap _ _ _ _ _ _ (heap_alloc_new wr _)
      obtain ⟨B, hB⟩ : ∃ B, B = P k := ⟨_, rfl⟩
      have HBB := Lib.hid hB; clear hB
      cases B
      · go_wp2_with (first
          | (refine wpList_load_at rfl 173 (.tmp 14) rfl _ rfl Cs Try.underlying173 rfl HI.out (by rw [HCs.out]; exact HR.out _ (by omega)) ?_)
          | (refine wpList_store_row rfl 173 (.tmp 5) (.tmp 15) rfl wr.heap.size Cs rfl rfl 173 Try.zeroCells173 (heap_alloc_new wr _) HI.out HZ.out H1.out ?_)
          | (go_at_call 135; refine (flush1_b _ _ _ (HBB.out.trans (by rw [HPP.out]))).mono ?_; rintro e w1 ⟨rfl, rfl⟩))
        go_roundw
        case rel => exact ⟨k + 1, by omega, by go_num, Lib.hid ⟨f, gf, HK.out.skip hkl HBB.out.symm HB1.out⟩⟩
        case measure => simp [intOf]; omega
      · go_wp2_with (first
          | (refine wpList_load_at rfl 173 (.tmp 14) rfl _ rfl Cs Try.underlying173 rfl HI.out (by rw [HCs.out]; exact HR.out _ (by omega)) ?_)
          | (refine wpList_store_row rfl 173 (.tmp 5) (.tmp 15) rfl wr.heap.size Cs rfl rfl 173 Try.zeroCells173 (heap_alloc_new wr _) HI.out HZ.out H1.out ?_)
          | (go_at_call 135; refine (flush1_b _ _ _ (HBB.out.trans (by rw [HPP.out]))).mono ?_; rintro e w1 ⟨rfl, rfl⟩))
        obtain ⟨W1, hW1⟩ : ∃ W1, W1 = ((wr.alloc (.cells Try.zeroCells173 173)).setRow wr.heap.size Cs) := ⟨_, rfl⟩
        rw [← hW1] at HB1 HW1 ⊢
        clear hW1
        have hq1 := (HB1.out.block q (Array.getElem?_eq_some_iff.1 HC.out).1).trans HC.out
        obtain ⟨⟨c0, c1, c2, c3, c4⟩, _⟩ := DCells.cells hq1
        clear hq1
        obtain ⟨d0, d1⟩ := wc_cells hp2 HCs.out HW1.out
        have HD1 := Lib.hid d1; clear d1
        obtain ⟨Bs, hBs⟩ : ∃ Bs : Array Value, Bs = (p.2.map (Value.int .u8)).toArray := ⟨_, rfl⟩
        have HBz : Hid ((Try.prog.info? 134).map (·.size) = some Bs.size) := by show _ = some _; rw [hBs, List.size_toArray, List.length_map, hp2]; exact sz_sector
        have HBs := Lib.hid hBs; clear hBs
        refine wp_region_still_tail 8 (by kernel_rfl) (by kernel_rfl) ?_
        simp only [List.take_succ_cons, List.take_zero, List.drop_succ_cons, List.drop_zero]
        iterate 7 still_step
        refine wpStill_load_at rfl 134 (.tmp 25) rfl _ rfl Bs Try.underlying134 rfl HBz.out (by rw [HBs.out]; exact HD1.out) ?_
        refine wpStill_nil ?_
        refine wpList_update_I rfl 129 (.tmp 22) (.tmp 24) (.tmp 26) rfl m p.1 (.agg Bs) rfl rfl rfl (f := f) (HK.out.map.kept (HB1.out.block m HK.out.map.lt)) Try.underlying129 Try.underlying3 ?_
        rintro W2 hW2 hM2
        have HW2 := Lib.hid hW2; clear hW2
        have HM2 := Lib.hid hM2; clear hM2
        clear c0 c1 c2 c3 c4 d0
        go_wp2_with fail
        go_roundw
        case rel =>
          refine ⟨k + 1, by omega, by go_num, Lib.hid ⟨_, _, HK.out.put hlen.out hkl HBB.out.symm HP.out ?_ HW2.out (by rw [show secV p.2 = .agg Bs by rw [HBs.out]; rfl]; exact HM2.out)⟩⟩
          exact HB1.out.trans ⟨rfl, rfl, rfl, Nat.le_refl _, fun _ _ => rfl⟩
        case measure => simp [intOf]; omega
    · obtain ⟨⟨c0, c1, c2, c3, c4⟩, hf⟩ := HC.out.cells
      have f2 := hf 2
      clear hf
      go_wp2_with fail
      refine ⟨rfl, .tuple #[], by simp [results, Try.results102], rfl, ?_⟩
      have := HK.out.fin (F := F) (by rw [HN.out]; exact HF.out) HOK.out (by rw [← HN.out]; omega)
      exact this.2
set_option maxRecDepth 100000 in
set_option maxHeartbeats 1000000 in
theorem disk_keepsC {w : World} {F : Nat → Prop} {q : Nat} {S : DS} (h : DiskAt w F q S) {hb c9 : Nat} {A0 : Option Addr} {ks : List Bool} (hkr : KRd w F hb A0 ks c9) : Calls Try.prog 102 #[.pointer (some ⟨q, 0, none⟩), .func (.func 103) #[] #[.pointer (some ⟨hb, 0, none⟩)]] w (RetDisk w F q (.tuple #[]) (S.keeps (keepB ks))) := by
  obtain ⟨m, sv, f0, h1, h2, h3, h4, hF, hok⟩ := h
  have HKR := Lib.hid hkr
  clear hkr
  obtain ⟨A, c, e, hc1, hc2⟩ := own_form h4
  subst e
  obtain ⟨P, hP⟩ : ∃ P, P = (keepB ks) := ⟨_, rfl⟩
  rw [← hP]
  have HPP := Lib.hid hP; clear hP
  have h0 : KSt w q m S (.slice A S.since.length c) P 0 f0 S.fast w := ⟨h1, h4, h2, h3, hok.fast, rfl, Fr.refl _ _⟩
  have H0 := Lib.hid h0; clear h0 h2 h3
  have HOK := Lib.hid hok; clear hok
  obtain ⟨⟨c0, c1, c2, c3, c4⟩, _⟩ := DCells.cells h1
  clear h1 h4
  have hle : S.since.length ≤ 1000000000 := HOK.out.len
  have hlen := Lib.hid HOK.out.since
  obtain ⟨n, hn⟩ : ∃ n, n = S.since.length := ⟨_, rfl⟩
  rw [← hn] at H0 c2 hle hc1
  have HN := Lib.hid hn; clear hn
  have HF := Lib.hid hF; clear hF
  go_enter Try.func102, Try.ntmps102
  go_wp2_with fail
  go_loopw [11] (fun i W => ∃ k : Nat, k ≤ n ∧ i = .int .i64 k ∧ Hid (∃ f g, KSt w q m S (.slice A n c) P k f g W)) (fun i _ => n - (intOf i).toNat)
  case atStart => exact ⟨0, Nat.zero_le _, rfl, Lib.hid ⟨_, _, H0.out⟩⟩
  case round =>
    obtain ⟨k, hk, rfl, HK0⟩ := hrel
    obtain ⟨f, gf, hk0⟩ := HK0.out
    have HK := Lib.hid hk0; clear hk0 HK0
    clear c0 c1 c2 c3 c4
    have HC := Lib.hid HK.out.cells
    by_cases hlt : k < n
    · have hrow := HK.out.row
      rw [← HN.out] at hrow
      obtain ⟨g, hg⟩ := own_addr hrow (by omega)
      subst hg
      have hkl : k < S.since.length := by rw [← HN.out]; exact hlt
      have hcl : (wrCells S.since[k]).length = 513 := wrCells_len (hlen.out _ (List.getElem_mem hkl))
      obtain ⟨p, hp⟩ : ∃ p, p = S.since[k] := ⟨_, rfl⟩
      have HP := Lib.hid hp
      rw [← hp] at hcl
      have HR := Lib.hid (fun (a : Nat) (ha : a = k * 513) => (show ∀ j v, (wrCells p)[j]? = some v → wr.cell? ((⟨g, a, none⟩ : Addr).add j) = some v by rw [hp]; exact row_at hlen.out hrow k hkl a ha)); clear hrow hp
      have hp2 : p.2.length = 512 := by rw [HP.out]; exact hlen.out _ (List.getElem_mem hkl)
      obtain ⟨Cs, hCs⟩ : ∃ Cs, Cs = (wrCells p).toArray := ⟨_, rfl⟩
      have hCz : Cs.size = 513 := by rw [hCs, List.size_toArray]; exact hcl
      have HI : Hid ((Try.prog.info? 173).map (·.size) = some Cs.size) := by show _ = some _; rw [hCz]; exact sz_write
      have HZ : Hid (Array.size Try.zeroCells173 = Cs.size) := by show _ = _; rw [hCz, zc_write, List.size_toArray]; exact lenI 0
      have H1 : Hid (Cs.all (·.oneCell') = true) := by show _ = _; rw [hCs]; simp only [Array.all_eq_true_iff_forall_mem]; intro v hv; exact wrCells_one _ v (by simpa using hv)
      have HCs := Lib.hid hCs; clear hCs hcl
      have HCz := Lib.hid hCz; clear hCz
      have HB1 : Hid (Below wr.heap.size wr ((wr.alloc (.cells Try.zeroCells173 173)).setRow wr.heap.size Cs)) := ((Below.refl wr.heap.size wr).alloc (Nat.le_refl _) _).trans ⟨rfl, rfl, rfl, by simp, fun k hk => setRow_other _ _ _ _ (by omega)⟩
      have HW1 : Hid (((wr.alloc (.cells Try.zeroCells173 173)).setRow wr.heap.size Cs).heap[wr.heap.size]? = some (.cells Cs 173 (0, 0))) := setRow_heap _ _ _ _ _ _ (heap_alloc_new wr _)
      obtain ⟨B, hB⟩ : ∃ B, B = P k := ⟨_, rfl⟩
      have HBB := Lib.hid hB; clear hB
      cases B
      · go_wp2_with (first
          | (refine wpList_load_at rfl 173 (.tmp 14) rfl _ rfl Cs Try.underlying173 rfl HI.out (by rw [HCs.out]; exact HR.out _ (by omega)) ?_)
          | (refine wpList_store_row rfl 173 (.tmp 5) (.tmp 15) rfl wr.heap.size Cs rfl rfl 173 Try.zeroCells173 (heap_alloc_new wr _) HI.out HZ.out H1.out ?_)
          | (go_at_call 103; refine (crash1_b k hb A0 ks c9 _ (HKR.out.at_ (HK.out.fr.thenBelow HB1.out) (fun k hk => by rw [HF.out]; exact .inr (.inl hk))).1 (HKR.out.at_ (HK.out.fr.thenBelow HB1.out) (fun k hk => by rw [HF.out]; exact .inr (.inl hk))).2 _ (HBB.out.trans (by rw [HPP.out]))).mono ?_; rintro e w1 ⟨rfl, rfl⟩))
        go_roundw
        case rel => exact ⟨k + 1, by omega, by go_num, Lib.hid ⟨f, gf, HK.out.skip hkl HBB.out.symm HB1.out⟩⟩
        case measure => simp [intOf]; omega
      · go_wp2_with (first
          | (refine wpList_load_at rfl 173 (.tmp 14) rfl _ rfl Cs Try.underlying173 rfl HI.out (by rw [HCs.out]; exact HR.out _ (by omega)) ?_)
          | (refine wpList_store_row rfl 173 (.tmp 5) (.tmp 15) rfl wr.heap.size Cs rfl rfl 173 Try.zeroCells173 (heap_alloc_new wr _) HI.out HZ.out H1.out ?_)
          | (go_at_call 103; refine (crash1_b k hb A0 ks c9 _ (HKR.out.at_ (HK.out.fr.thenBelow HB1.out) (fun k hk => by rw [HF.out]; exact .inr (.inl hk))).1 (HKR.out.at_ (HK.out.fr.thenBelow HB1.out) (fun k hk => by rw [HF.out]; exact .inr (.inl hk))).2 _ (HBB.out.trans (by rw [HPP.out]))).mono ?_; rintro e w1 ⟨rfl, rfl⟩))
        obtain ⟨W1, hW1⟩ : ∃ W1, W1 = ((wr.alloc (.cells Try.zeroCells173 173)).setRow wr.heap.size Cs) := ⟨_, rfl⟩
        rw [← hW1] at HB1 HW1 ⊢
        clear hW1
        have hq1 := (HB1.out.block q (Array.getElem?_eq_some_iff.1 HC.out).1).trans HC.out
        obtain ⟨⟨c0, c1, c2, c3, c4⟩, _⟩ := DCells.cells hq1
        clear hq1
        obtain ⟨d0, d1⟩ := wc_cells hp2 HCs.out HW1.out
        have HD1 := Lib.hid d1; clear d1
        obtain ⟨Bs, hBs⟩ : ∃ Bs : Array Value, Bs = (p.2.map (Value.int .u8)).toArray := ⟨_, rfl⟩
        have HBz : Hid ((Try.prog.info? 134).map (·.size) = some Bs.size) := by show _ = some _; rw [hBs, List.size_toArray, List.length_map, hp2]; exact sz_sector
        have HBs := Lib.hid hBs; clear hBs
        refine wp_region_still_tail 8 (by kernel_rfl) (by kernel_rfl) ?_
        simp only [List.take_succ_cons, List.take_zero, List.drop_succ_cons, List.drop_zero]
        iterate 7 still_step
        refine wpStill_load_at rfl 134 (.tmp 25) rfl _ rfl Bs Try.underlying134 rfl HBz.out (by rw [HBs.out]; exact HD1.out) ?_
        refine wpStill_nil ?_
        refine wpList_update_I rfl 129 (.tmp 22) (.tmp 24) (.tmp 26) rfl m p.1 (.agg Bs) rfl rfl rfl (f := f) (HK.out.map.kept (HB1.out.block m HK.out.map.lt)) Try.underlying129 Try.underlying3 ?_
        rintro W2 hW2 hM2
        have HW2 := Lib.hid hW2; clear hW2
        have HM2 := Lib.hid hM2; clear hM2
        clear c0 c1 c2 c3 c4 d0
        go_wp2_with fail
        go_roundw
        case rel =>
          refine ⟨k + 1, by omega, by go_num, Lib.hid ⟨_, _, HK.out.put hlen.out hkl HBB.out.symm HP.out ?_ HW2.out (by rw [show secV p.2 = .agg Bs by rw [HBs.out]; rfl]; exact HM2.out)⟩⟩
          exact HB1.out.trans ⟨rfl, rfl, rfl, Nat.le_refl _, fun _ _ => rfl⟩
        case measure => simp [intOf]; omega
    · obtain ⟨⟨c0, c1, c2, c3, c4⟩, hf⟩ := HC.out.cells
      have f2 := hf 2
      clear hf
      go_wp2_with fail
      refine ⟨rfl, .tuple #[], by simp [results, Try.results102], rfl, ?_⟩
      have := HK.out.fin (F := F) (by rw [HN.out]; exact HF.out) HOK.out (by rw [← HN.out]; omega)
      exact this.2
end Go.Proofs.Ytfngadidlmbfdaa
