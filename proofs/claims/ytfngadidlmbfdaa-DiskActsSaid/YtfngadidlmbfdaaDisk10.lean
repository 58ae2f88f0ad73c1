/-
  A disk's Read.
-/
import Derived.Test.YtfngadidlmbfdaaDisk9
namespace Go.Proofs.Ytfngadidlmbfdaa
open Go.RowKit Go.ChangeMaps
set_option linter.unusedVariables false
attribute [local go_sem] Oper.semAt_some
set_option linter.unusedSimpArgs false
def DS.readE (S : DS) (i : Int) : Int := if S.callE ≠ 0 then S.callE else S.thereE i
def DS.readB (S : DS) (i : Int) : List Int := lastB S.since i (S.fast i)
def RetRead (w : World) (F : Nat → Prop) (q : Nat) (S : DS) (i : Int) (e : Ending) (w' : World) : Prop :=
  ∃ v F', e = .returned (.tuple #[v, .int .i64 (S.readE i)]) ∧ DiskAt w' F' q S.call ∧ Fr F F' w w' ∧ (S.readE i ≠ 0 → v = .slice none 0 0) ∧
    (S.readE i = 0 → w'.ownsRow w.heap.size 5 1 v 512 ((S.readB i).map (Value.int .u8)) ∧ ∀ k, v.ownBlock = some k → ¬ F' k)
def rdG (w0 : World) (d : Nat → Bool) (x : Nat → Value) (w : World) : Prop := d 6 = true → ∃ g, x 6 = .pointer (some ⟨g, 0, none⟩) ∧ w0.heap.size ≤ g ∧ w.heap[g]? = some (.cells Try.zeroCells134 134 (0, 0))
/-- Between two rounds; when a round has left; where a round's write lies. -/
def RdI (si : Int) (W6 : World) (pre : List WR) (W : World) : Prop := (∀ x ∈ pre, x.2.1.1 ≠ si) ∧ Below W6.heap.size W6 W
def RdX (si : Int) (g : Nat) (W6 : World) (c : Code) (pre : List WR) (W : World) : Prop :=
  c = .exit 0 ∧ (∃ p0 x, pre = p0 ++ [x] ∧ (∀ y ∈ p0, y.2.1.1 ≠ si) ∧ x.2.1.1 = si ∧ W.heap[g]? = some (.cells (x.2.1.2.map (Value.int .u8)).toArray 134 (0, 0))) ∧ Fr (fun k => k = g) (fun k => k = g) W6 W
def RdA (W6 : World) (tm : Value → Value → Value → Act) (x : WR) (a : Act) (W : World) : Prop :=
  ∃ Bx, W6.heap.size ≤ Bx ∧ W.heap[Bx]? = some (.cells (wrCells x.2.1).toArray 173 (0, 0)) ∧ a = tm (.pointer (some ⟨Bx, 0, none⟩)) (.int .i64 (x.1 : Int)) (.agg (wrCells x.2.1).toArray)
theorem cells_stay {W W' : World} {row : Option Nat} {k t : Nat} {cs : Array Value} {fr : Nat × Nat} (h : W.heap[k]? = some (.cells cs t fr)) (hg : W.grownBy W' row) (hr : ∀ r, row = some r → ∃ o : Obj, W.heap[r]? = some o ∧ o.isCells = false) : W'.heap[k]? = some (.cells cs t fr) :=
  (hg.block k (Array.getElem?_eq_some_iff.1 h).1 (fun e => by obtain ⟨o, ho, hc⟩ := hr k e.symm; rw [h] at ho; cases ho; cases hc)).trans h
theorem keeps_setRow {W : World} {g t : Nat} {cs : Array Value} {fr : Nat × Nat} (h : W.heap[g]? = some (.cells cs t fr)) (Bs : Array Value) : KeepsOthers W (W.setRow g Bs) :=
  ⟨by simp, fun k o hk ho => by
    by_cases e : k = g
    · subst e; rw [h] at hk; injection hk with hk; rw [← hk] at ho; exact absurd (show true = false from ho) (by decide)
    · rw [setRow_other _ _ _ _ e]; exact hk⟩
theorem RdI.own (si : Int) (W6 : World) : OwnFrom W6.heap.size (RdI si W6) := OwnFrom.and (fun _ _ _ _ hs _ _ => hs) (ownFrom_below (Nat.le_refl _) (Nat.le_refl _))
theorem RdA.own (W6 : World) (tm : Value → Value → Value → Act) (x : WR) (a : Act) : OwnFrom W6.heap.size (fun (_ : Unit) W => RdA W6 tm x a W) := fun _ W W' row ⟨Bx, h1, h2, h3⟩ hg hr => ⟨Bx, h1, cells_stay h2 hg (fun r e => (hr r e).2), h3⟩
theorem RdX.own (si : Int) (g : Nat) (W6 : World) (c : Code) : OwnFrom W6.heap.size (RdX si g W6 c) := fun pre W W' row ⟨h1, ⟨p0, x, h2, h3, h4, h5⟩, h6⟩ hg hr =>
  ⟨h1, ⟨p0, x, h2, h3, h4, cells_stay h5 hg (fun r e => (hr r e).2)⟩, ⟨hg.os.trans h6.os, hg.tape.trans h6.tape, hg.output.trans h6.output, Nat.le_trans h6.size hg.size,
    fun k hk hkg => (hg.block k (Nat.lt_of_lt_of_le hk h6.size) (fun e => by have := (hr k e.symm).1; omega)).trans (h6.block k hk hkg), fun k hk => .inl hk⟩⟩
theorem read_fin {w w2 W6 W w7 : World} {ob : Obj} {F F2 : Nat → Prop} {q D g : Nat} {S : DS} {si : Int} {v : Value} {X : List Int} (hF2 : Fr F F2 (w.alloc ob) w2) (hD2 : DiskAt w2 F2 q S.call) (h26 : Below w2.heap.size w2 W6)
    (hW : Fr (fun k => k = g) (fun k => k = g) W6 W) (hg : w2.heap.size ≤ g) (hD : W6.heap.size ≤ D) (hK : W.heap[D]? = some (.deferred (some []))) (ho : w7.ownsRow W.heap.size 5 1 v 512 (X.map (Value.int .u8))) (h7 : Below W.heap.size W w7)
    (hE : S.readE si = 0) (hX : X = S.readB si) : RetRead w F q S si (.returned (.tuple #[v, .int .i64 0])) (w7.putObj D (.deferred none)) := by
  subst hX
  have hDW : D < W.heap.size := (Array.getElem?_eq_some_iff.1 hK).1
  have hb : Below w2.heap.size w2 (w7.putObj D (.deferred none)) := by
    refine (h26.trans ((hW.toBelow (fun k hk => by rw [hk]; exact hg) h26.size))).trans ((h7.mono (Nat.le_trans h26.size hW.size)).trans ⟨rfl, rfl, rfl, by simp, fun k hk => World.putObj_heap_other (by have := h26.size; omega)⟩)
  have hww : w.heap.size ≤ w2.heap.size := by have := hF2.size; simp at this; omega
  have hvb : ∀ k, v.ownBlock = some k → W.heap.size ≤ k := fun k hk => (own_base ho k hk).1
  have hsz := h26.size
  have hsz2 := hW.size
  refine ⟨v, F2, by rw [hE], hD2.below hb, ?_, fun h => absurd hE h, fun _ => ⟨own_at (own_le ho (by omega)) (fun k hk => World.putObj_heap_other (by have := hvb k hk; omega)), fun k hk hF => ?_⟩⟩
  · exact ((Fr.alloc w ob).trans hF2).trans (Fr.below hb)
  · have h1 := hvb k hk
    have h2 := hD2.lt k hF
    omega
set_option maxRecDepth 100000 in
set_option maxHeartbeats 2000000 in
theorem disk_read {w : World} {F : Nat → Prop} {q : Nat} {S : DS} (h : DiskAt w F q S) (si : Int) : Calls Try.prog 85 #[.pointer (some ⟨q, 0, none⟩), .int .i64 si] w (RetRead w F q S si) := by
  have hb1 : Below w.heap.size w (w.alloc (.cells #[.int .i64 si] 3)) := (Below.refl w.heap.size w).alloc (Nat.le_refl _) _
  have HBx0 : Hid ((w.alloc (.cells #[.int .i64 si] 3)).cell? ⟨w.heap.size, 0, none⟩ = some (.int .i64 si)) := by show _ = _; rw [cell_of_row _ _ 0 _ _ _ (heap_alloc_new w _)]; rfl
  have H1 := Lib.hid (disk_call (h.below hb1))
  have HLT := Lib.hid h.lt
  have H := Lib.hid h; clear h
  have HB1 := Lib.hid hb1; clear hb1
  obtain ⟨E, hE⟩ : ∃ E, E = S.callE := ⟨_, rfl⟩
  rw [← hE] at H1
  have EE := Lib.hid hE; clear hE
  obtain ⟨RE, hRE⟩ : ∃ RE, RE = RetRead w F q S si := ⟨_, rfl⟩
  rw [← hRE]
  have HRE := Lib.hid hRE; clear hRE
  refine (callsIn_wide (n := 8)).1 (callsIn_of_wp_marks Try.func85 rfl trivial ?_ rfl)
  simp only [Try.ntmps85, List.size_toArray, List.length_cons, List.length_nil, Nat.reduceAdd, Nat.reduceSub, Array.replicate_succ, Array.replicate_zero, List.push_toArray, List.append_toArray, List.nil_append, List.cons_append]
  refine wpIn_wide.2 ?_
  go_wp2_with fail
  refine H1.out.mono ?_
  rintro e w1 ⟨rfl, F1, hd1, hf1⟩
  have HD1 := Lib.hid hd1; clear hd1
  have HF1 := Lib.hid hf1; clear hf1
  have HBx1 : Hid (w1.cell? ⟨w.heap.size, 0, none⟩ = some (.int .i64 si)) := (World.cell?_of_block (HF1.out.block w.heap.size (by simp) (fun hf => by have := HLT.out _ hf; omega))).trans HBx0.out
  by_cases h0 : E = 0
  · subst h0
    have hbx := HBx1.out
    go_wp2_with fail
    refine (disk_there HD1.out si).mono ?_
    rintro e w2 ⟨rfl, F2, hd2, hf2⟩
    clear hbx
    have HD2 := Lib.hid hd2; clear hd2
    have HF2 := Lib.hid (HF1.out.trans hf2)
    have HBX : Hid (w2.cell? ⟨w.heap.size, 0, none⟩ = some (.int .i64 si)) := (World.cell?_of_block (hf2.block w.heap.size (by have := HF1.out.size; simp at this; omega) (fun hf => by
      rcases HF1.out.sub _ hf with h' | h'
      · have := HLT.out _ h'; omega
      · exact absurd h' (by simp)))).trans HBx1.out
    clear hf2
    obtain ⟨T2, hT2⟩ : ∃ T2, T2 = S.call.thereE si := ⟨_, rfl⟩
    rw [← hT2]
    have ET2 := Lib.hid hT2; clear hT2
    by_cases ht : T2 = 0
    · subst ht
      have HRE0 : Hid (S.readE si = 0) := by
        show _ = _
        unfold DS.readE
        rw [if_neg (by rw [← EE.out]; decide), ← DS.there_call, ← ET2.out]
      go_wp2_with fail
      obtain ⟨m, sv, hc, hl⟩ := HD2.out.look
      have HC := Lib.hid hc; clear hc
      obtain ⟨Cs, hCs⟩ : ∃ Cs : Array Value, Cs = ((S.call.fast si).map (Value.int .u8)).toArray := ⟨_, rfl⟩
      have HCs := Lib.hid hCs; clear hCs
      have HLK : Hid (∀ W, Below w2.heap.size w2 W → (Instr.lookup 129 (.map (some m)) (.int .i64 si) false).run Try.prog W = .ok (.agg Cs) W) := fun W hW => by rw [HCs.out]; exact hl W hW si
      clear hl
      have HC1 := Lib.hid HC.out.cells.1.2.1
      obtain ⟨bx, hbx⟩ : ∃ bx, bx = w.heap.size := ⟨_, rfl⟩
      rw [← hbx] at HBX HLT HBx1 ⊢
      have Hbx := Lib.hid hbx; clear hbx
      refine region_front (by kernel_rfl) (fun | 0 => some (.pointer (some ⟨q, 0, none⟩)) | 1 => some (.pointer (some ⟨q, 0, none⟩)) | 2 => some (.pointer (some ⟨q, 1, none⟩)) | 3 => some (.map (some m)) | 4 => some (.int .i64 si) | 5 => some (.agg Cs) | _ => none)
        (rdG w2) 7 41 (by decide) rfl (by kernel_rfl) (by kernel_rfl) (by kernel_rfl) (by kernel_rfl) ?_ ?_ ?_
      · intro w' hw' h; simp at h
      · intro i hi d x a w' hb hsame hanc hdi hdesc hG
        have b0 : a.tmps.getD 0 undef = .pointer (some ⟨q, 0, none⟩) := by rw [Array.getD_eq_getD_getElem?, hsame 0 (by decide +kernel)]; rfl
        have e0 := (Array.getD_eq_getD_getElem? (xs := a.tmps) (i := 0) (d := undef)).symm.trans b0
        have b3 : a.tmps.getD 3 undef = .pointer (some ⟨bx, 0, none⟩) := by rw [Array.getD_eq_getD_getElem?, hsame 3 (by decide +kernel)]; rfl
        have e3 := (Array.getD_eq_getD_getElem? (xs := a.tmps) (i := 3) (d := undef)).symm.trans b3
        match i, hi with
        | 0, _ =>
          exact rstep_det rfl rfl rfl rfl (by simp [go_sem, b0, e0]) (by simpa [rdG, updB, updV] using hG) hb
        | 1, _ =>
          have t20 : a.tmps.getD 20 undef = .pointer (some ⟨q, 0, none⟩) := (show a.tmps.getD 20 undef = x 0 from (hanc 0 (by decide +kernel)).2.1).trans ((hanc 0 (by decide +kernel)).2.2 _ rfl)
          have u20 := (Array.getD_eq_getD_getElem? (xs := a.tmps) (i := 20) (d := undef)).symm.trans t20
          exact rstep_det rfl rfl rfl rfl (by simp [go_sem, t20, u20]) (by simpa [rdG, updB, updV] using hG) hb
        | 2, _ =>
          have t21 : a.tmps.getD 21 undef = .pointer (some ⟨q, 0, none⟩) := (show a.tmps.getD 21 undef = x 1 from (hanc 1 (by decide +kernel)).2.1).trans ((hanc 1 (by decide +kernel)).2.2 _ rfl)
          have u21 := (Array.getD_eq_getD_getElem? (xs := a.tmps) (i := 21) (d := undef)).symm.trans t21
          exact rstep_det rfl rfl rfl rfl (by simp [go_sem, t21, u21]) (by simpa [rdG, updB, updV] using hG) hb
        | 3, _ =>
          have t22 : a.tmps.getD 22 undef = .pointer (some ⟨q, 1, none⟩) := (show a.tmps.getD 22 undef = x 2 from (hanc 2 (by decide +kernel)).2.1).trans ((hanc 2 (by decide +kernel)).2.2 _ rfl)
          have u22 := (Array.getD_eq_getD_getElem? (xs := a.tmps) (i := 22) (d := undef)).symm.trans t22
          exact rstep_det rfl rfl rfl rfl (by simp [go_sem, t22, u22, cell_kept hb HC1.out]) (by simpa [rdG, updB, updV] using hG) hb
        | 4, _ =>
          exact rstep_det rfl rfl rfl rfl (by simp [go_sem, b3, e3, cell_kept hb HBX.out]) (by simpa [rdG, updB, updV] using hG) hb
        | 5, _ =>
          have t23 : a.tmps.getD 23 undef = .map (some m) := (show a.tmps.getD 23 undef = x 3 from (hanc 3 (by decide +kernel)).2.1).trans ((hanc 3 (by decide +kernel)).2.2 _ rfl)
          have u23 := (Array.getD_eq_getD_getElem? (xs := a.tmps) (i := 23) (d := undef)).symm.trans t23
          have t24 : a.tmps.getD 24 undef = .int .i64 si := (show a.tmps.getD 24 undef = x 4 from (hanc 4 (by decide +kernel)).2.1).trans ((hanc 4 (by decide +kernel)).2.2 _ rfl)
          have u24 := (Array.getD_eq_getD_getElem? (xs := a.tmps) (i := 24) (d := undef)).symm.trans t24
          exact rstep_det rfl rfl rfl rfl (by simp [go_sem, t23, u23, t24, u24, HLK.out w' hb]) (by simpa [rdG, updB, updV] using hG) hb
        | 6, _ =>
          exact rstep_run (v := .pointer (some ⟨w'.heap.size, 0, none⟩)) (w' := w'.alloc (.cells Try.zeroCells134 134)) rfl rfl rfl rfl (by simp [go_sem]) (fun _ => ⟨w'.heap.size, by simp [updV], hb.size, heap_alloc_new w' _⟩) (hb.alloc hb.size _)
        | (m + 7), h => exact absurd h (by omega)
      · intro d x w' hw' hall hG
        obtain ⟨g, e6, hge, hgz⟩ := hG (hall 6 (by omega)).1
        have e0 := (hall 0 (by omega)).2 _ rfl
        have e1 := (hall 1 (by omega)).2 _ rfl
        have e2 := (hall 2 (by omega)).2 _ rfl
        have e3 := (hall 3 (by omega)).2 _ rfl
        have e4 := (hall 4 (by omega)).2 _ rfl
        have e5 := (hall 5 (by omega)).2 _ rfl
        simp only [rfill, rdst, List.getElem?_toArray, List.getElem?_cons_zero, List.getElem?_cons_succ, Option.bind_some, Act.put, List.setIfInBounds_toArray, List.set_cons_zero, List.set_cons_succ, List.drop_succ_cons, List.drop_zero]
        rw [e0, e1, e2, e3, e4, e5, e6]
        clear e0 e1 e2 e3 e4 e5 e6 hall hG
        have hCz : Cs.size = 512 := by
          rw [HCs.out]; simp
          obtain ⟨_, _, _, _, _, _, _, _, h5⟩ := HD2.out; exact h5.fast si
        have hC1 : Cs.all (·.oneCell') = true := by rw [HCs.out]; simp [Array.all_eq_true_iff_forall_mem]; intro x _; rfl
        have HZ : Hid ((Try.prog.info? 134).map (·.size) = some Cs.size) := by rw [hCz]; exact sz_sector
        have HO : Hid (Array.size Try.zeroCells134 = Cs.size) := by rw [hCz]; exact zc_sector
        have HC1' := Lib.hid hC1
        have HCz := Lib.hid hCz
        clear hCz hC1
        have HW := Lib.hid hw'; clear hw'
        have HGZ := Lib.hid hgz; clear hgz
        have HB5 : Hid (Below w2.heap.size w2 (w'.setRow g Cs)) := HW.out.trans ⟨rfl, rfl, rfl, by simp, fun k hk => setRow_other _ _ _ _ (by omega)⟩
        have HG5 : Hid ((w'.setRow g Cs).heap[g]? = some (.cells Cs 134 (0, 0))) := setRow_heap _ _ _ _ _ _ HGZ.out
        have hd5 := HD2.out.below HB5.out
        obtain ⟨m', sv', f', hc5, _, _, ho5, hFe, hok⟩ := hd5
        obtain ⟨A, cap, hsv, hcap1, hcap2⟩ := own_form ho5
        subst hsv
        obtain ⟨⟨c0, c1, c2, c3, c4⟩, _⟩ := DCells.cells hc5
        have HO5 := Lib.hid ho5; clear ho5
        have HFE := Lib.hid hFe; clear hFe
        have HOK := Lib.hid hok; clear hok
        clear hc5
        obtain ⟨L, hL⟩ : ∃ L, L = S.call.since := ⟨_, rfl⟩
        rw [← hL] at c2 HO5 hcap1 HFE
        have HL := Lib.hid hL; clear hL
        obtain ⟨W5, hW5⟩ : ∃ W5, W5 = w'.setRow g Cs := ⟨_, rfl⟩
        rw [← hW5] at HB5 HG5 HO5 c0 c1 c2 c3 c4
        have HW5 := Lib.hid hW5; clear hW5
        go_wp2_with (first
          | (refine wpList_store_row rfl 134 (.tmp 7) (.tmp 25) rfl g Cs rfl rfl 134 Try.zeroCells134 HGZ.out HZ.out HO.out HC1'.out ?_; rw [← HW5.out])
          | (go_at_call 134; refine (back_any _ _ _ _).mono ?_; rintro e w6 ⟨rfl, rfl⟩))
        have hl : ∀ p ∈ L, p.2.length = 512 := by rw [HL.out]; exact HOK.out.since
        have hLl : L.length ≤ 1000000000 := by rw [HL.out]; exact HOK.out.len
        have hbs : (W5.alloc (.cells #[.slice A L.length cap] 130)).cell? ⟨W5.heap.size, 0, none⟩ = some (.slice A L.length cap) := by rw [cell_of_row _ _ 0 _ _ _ (heap_alloc_new W5 _)]; rfl
        have HB6 : Hid (Below W5.heap.size W5 (W5.alloc (.cells #[.slice A L.length cap] 130))) := (Below.refl W5.heap.size W5).alloc (Nat.le_refl _) _
        have h6s : (W5.alloc (.cells #[.slice A L.length cap] 130)).heap.size = W5.heap.size + 1 := by simp
        obtain ⟨W6, hW6⟩ : ∃ W6, W6 = W5.alloc (.cells #[.slice A L.length cap] 130) := ⟨_, rfl⟩
        rw [← hW6] at hbs HB6 h6s ⊢
        clear hW6 c0 c1 c2 c3 c4
        have HO6 := Lib.hid (own_below HO5.out HB6.out)
        have HG6 : Hid (W6.heap[g]? = some (.cells Cs 134 (0, 0))) := (HB6.out.block g (Array.getElem?_eq_some_iff.1 HG5.out).1).trans HG5.out
        have hg6 : g < W6.heap.size := (Array.getElem?_eq_some_iff.1 HG6.out).1
        have HB26 : Hid (Below w2.heap.size w2 W6) := HB5.out.trans (HB6.out.mono HB5.out.size)
        have HBX6 : Hid (W6.cell? ⟨bx, 0, none⟩ = some (.int .i64 si)) := cell_kept HB26.out HBX.out
        have hbx6 : bx < W6.heap.size := World.block_lt_of_cell? W6 _ HBX6.out
        have HBS := Lib.hid hbs; clear hbs
        have HLL := Lib.hid hl
        have HOB : Hid (∀ k, (Value.slice A L.length cap).ownBlock = some k → k < W6.heap.size) := fun k hk => (own_base HO6.out k hk).2
        have HSEQ : Hid (SeqStopsK Fence.wide (8 - 1) Try.prog 152 #[.pointer (some ⟨W5.heap.size, 0, none⟩)] wrEnc (Below W6.heap.size) (fun ys => ys = cameB L HLL.out L.length) (fun pre => ∃ k, k ≤ L.length ∧ pre = cameB L HLL.out k) L.length W6) :=
          back_stops 7 (by omega) W5.heap.size W6.heap.size A cap L HLL.out hLl W6 (Nat.le_refl _) HBS.out (by omega) HO6.out HOB.out hcap1
        clear hl
        refine (wpIn_wide (n := 8)).1 ?_
        refine wpIn_rangeFunc_ownH rfl (by omega) (gf := 152) (lb := #[.pointer (some ⟨W5.heap.size, 0, none⟩)]) rfl trivial (enters_of Try.func152 (by kernel_rfl) rfl) HSEQ.out belowK_t (belowK_b (Nat.le_refl _)) (Below.refl _ _) (fun _ => rfl)
          (RdI si W6) (RdX si g W6) (RdI.own si W6) (RdX.own si g W6) ⟨by simp, Below.refl _ _⟩
          (RdA W6 (fun p1 p2 p3 => { tmps := #[.pointer (some ⟨q, 0, none⟩), .int .i64 si, undef, .pointer (some ⟨bx, 0, none⟩), .slice none 0 0, .int .i64 0, .int .i64 0, .pointer (some ⟨g, 0, none⟩), undef, p1, .pointer (some ⟨q, 0, none⟩), .int .i64 0, .int .i64 0, .bool true, .pointer (some ⟨q, 0, none⟩), .int .i64 si, .int .i64 0, .int .i64 0, .bool false, undef, .pointer (some ⟨q, 0, none⟩), .pointer (some ⟨q, 0, none⟩), .pointer (some ⟨q, 1, none⟩), .map (some m), .int .i64 si, .agg Cs, .pointer (some ⟨q, 0, none⟩), .pointer (some ⟨q, 0, none⟩), .pointer (some ⟨q, 2, none⟩), .slice A L.length cap, .func (.func 152) #[] #[.pointer (some ⟨W5.heap.size, 0, none⟩)], p2, p3, undef, undef, undef, undef, undef, undef, undef, undef], defers := [] })) (RdA.own W6 _) ?assign ?body ?done ?stop
        case assign =>
          intro l pre x W K hI hK
          have hxl : (wrCells x.2.1).length = 513 := wrCells_len x.2.2
          obtain ⟨Xs, hXs⟩ : ∃ Xs, Xs = (wrCells x.2.1).toArray := ⟨_, rfl⟩
          have hXz : Xs.size = 513 := by rw [hXs, List.size_toArray]; exact hxl
          have HI : Hid ((Try.prog.info? 173).map (·.size) = some Xs.size) := by show _ = some _; rw [hXz]; exact sz_write
          have HZX : Hid (Array.size Try.zeroCells173 = Xs.size) := by show _ = _; rw [hXz, zc_write, List.size_toArray]; exact lenI 0
          have HX1 : Hid (Xs.all (·.oneCell') = true) := by show _ = _; rw [hXs]; simp only [Array.all_eq_true_iff_forall_mem]; intro v hv; exact wrCells_one _ v (by simpa using hv)
          have HXE : Hid (wrEnc x = #[.int .i64 (x.1 : Int), .agg Xs]) := by show _ = _; rw [hXs]; rfl
          have HXs := Lib.hid hXs
          have HII := Lib.hid hI; clear hI
          have HKK := Lib.hid hK; clear hK
          clear hXs hXz hxl
          rw [HXE.out]
          gi_wp2_with (refine wpListIn_store_row rfl 173 (.tmp 9) (.tmp 32) rfl W.heap.size Xs rfl rfl 173 Try.zeroCells173 (heap_alloc_new W _) HI.out HZX.out HX1.out ?_)
          have hs6 := HII.out.2.size
          refine HKK.out _ _ ?_ ?_ ⟨HII.out.1, HII.out.2.trans ⟨rfl, rfl, rfl, by simp, fun k hk => (setRow_other _ _ _ _ (by omega)).trans (heap_alloc_old _ _ (by omega))⟩⟩ ⟨W.heap.size, hs6, ?_, ?_⟩
          · exact ((KeepsOthers.alloc W (.cells Try.zeroCells173 173)).trans (keeps_setRow (heap_alloc_new W _) Xs)).from _
          · exact ⟨rfl, rfl, rfl, by simp, fun k hk => (setRow_other _ _ _ _ (by omega)).trans (heap_alloc_old _ _ (by omega))⟩
          · rw [← HXs.out]; exact setRow_heap _ _ _ _ _ _ (heap_alloc_new W _)
          · rw [← HXs.out]
        case body =>
          rintro l pre x a' W hl6 ⟨rr, hrr⟩ hI ⟨Bx, hBx, hBc, rfl⟩ hlt
          dsimp only
          have hbx := cell_kept hI.2 HBX6.out
          have hgW := (hI.2.block g hg6).trans HG6.out
          obtain ⟨ba, hba⟩ : ∃ ba, ba = x.2.1.1 := ⟨_, rfl⟩
          have hxl : x.2.1.2.length = 512 := x.2.2
          obtain ⟨Xs, hXs⟩ : ∃ Xs : Array Value, Xs = (wrCells x.2.1).toArray := ⟨_, rfl⟩
          rw [← hXs] at hBc ⊢
          have hcB : W.cell? ⟨Bx, 0, none⟩ = some (.int .i64 ba) := by
            rw [cell_of_row W Bx 0 _ _ _ hBc, hXs, hba]; rfl
          obtain ⟨Bs, hBs⟩ : ∃ Bs : Array Value, Bs = (x.2.1.2.map (Value.int .u8)).toArray := ⟨_, rfl⟩
          have hBz : Bs.size = 512 := by rw [hBs]; simp [hxl]
          have HBs1 : Hid (Bs.all (·.oneCell') = true) := by show _ = _; rw [hBs]; simp [Array.all_eq_true_iff_forall_mem]; intro z _; rfl
          have HBI : Hid ((Try.prog.info? 134).map (·.size) = some Bs.size) := by show _ = some _; rw [hBz]; exact sz_sector
          have HBC : Hid (Cs.size = Bs.size) := by show _ = _; rw [hBz]; exact HCz.out
          have HCB : Hid (∀ j v, Bs.toList[j]? = some v → W.cell? ((⟨Bx, 1, none⟩ : Addr).add j) = some v) := by
            intro j v hv
            have e : (⟨Bx, 1, none⟩ : Addr).add j = ⟨Bx, 1 + j, none⟩ := by unfold Addr.add; split <;> simp_all
            rw [e, cell_of_row W Bx _ _ _ _ hBc, hXs, Nat.add_comm]
            rw [hBs] at hv
            simpa [wrCells] using hv
          have HGW := Lib.hid hgW; clear hgW
          have HII := Lib.hid hI; clear hI
          have HBA := Lib.hid hba; clear hba
          have HBS' := Lib.hid hBs; clear hBs
          have HBW := Lib.hid hBc; clear hBc
          have HXs := Lib.hid hXs; clear hXs
          clear hBz hxl hrr
          by_cases heq : ba = si
          · have hb : (ba == si) = true := by simp [heq]
            have HEQ := Lib.hid heq; clear heq
            gi_wp2_with (first
              | (refine wpListIn_load_at rfl 134 (.tmp 37) rfl _ rfl Bs Try.underlying134 rfl HBI.out HCB.out ?_)
              | (refine wpListIn_store_row rfl 134 (.tmp 7) (.tmp 38) rfl g Bs rfl rfl 134 Cs HGW.out HBI.out HBC.out HBs1.out ?_))
            have hs6 := HII.out.2.size
            refine ⟨(keeps_setRow HGW.out _).from _, rfl, ⟨pre, x, rfl, HII.out.1, HBA.out.symm.trans HEQ.out, ?_⟩, ?_⟩
            · rw [← HBS'.out]; exact setRow_heap _ _ _ _ _ _ HGW.out
            · exact ⟨HII.out.2.os, HII.out.2.tape, HII.out.2.output, by simp; exact hs6, fun k hk hkg => (setRow_other _ _ _ _ hkg).trans (HII.out.2.block k hk), fun k hk => .inl hk⟩
          · have hb : (ba == si) = false := by simp [heq]
            have HEQ := Lib.hid heq; clear heq
            gi_wp2
            refine ⟨(KeepsOthers.refl W).from _, Below.refl _ _, fun y hy => ?_, HII.out.2⟩
            rcases List.mem_append.1 hy with h | h
            · exact HII.out.1 y h
            · rw [List.mem_singleton.1 h, ← HBA.out]; exact HEQ.out
        case done =>
          rintro D ys W hD rfl hI hK
          have hgW := (hI.2.block g hg6).trans HG6.out
          have HR := Lib.hid (rd_block (α := Int) (enc := Value.int .u8) (xs := S.call.fast si) (by rw [← HCs.out]; exact hgW))
          have HII := Lib.hid hI; clear hI
          have HK := Lib.hid hK; clear hK
          clear hgW
          have hlen : (S.call.fast si).length = 512 := by have := HCz.out; rw [HCs.out] at this; simpa using this
          have hX : S.call.fast si = S.readB si := by
            have e1 : S.call.fast = S.fast := by unfold DS.call; split <;> rfl
            rw [e1]
            show _ = lastB S.since si (S.fast si)
            rw [← DS.since_call, ← HL.out, lastB_done L HLL.out si _ HII.out.1]
          obtain ⟨X, hXX⟩ : ∃ X, X = S.call.fast si := ⟨_, rfl⟩
          rw [← hXX] at HR hlen hX
          have HX := Lib.hid hX; clear hX hXX
          go_wp2_with fail
          refine (cloneB_any _ X 512 512 _ hlen HR.out (by decide)).mono ?_
          rintro e w7 ⟨v, rfl, ho, hb7⟩
          have HO7 := Lib.hid (And.intro ho hb7); clear ho hb7 hlen
          go_wp2_with fail
          refine ⟨by simp, .inl ⟨_, _, rfl, run_takeDeferred ((HO7.out.2.block D (Array.getElem?_eq_some_iff.1 HK.out).1).trans HK.out), ?_⟩⟩
          refine ⟨_, by simp [results, Try.results85, Try.f85, go_sem]; rfl, ?_⟩
          rw [HRE.out]
          exact read_fin HF2.out HD2.out HB26.out (Fr.below HII.out.2) hge hD HK.out HO7.out.1 HO7.out.2 HRE0.out HX.out
        case stop =>
          rintro D c pre W hD ⟨k, hk, hpre⟩ ⟨rfl, ⟨p0, x, hpx, hp0, hxi, hgW⟩, hfr⟩ hK
          have HR := Lib.hid (rd_block (α := Int) (enc := Value.int .u8) (xs := x.2.1.2) hgW)
          have hX : x.2.1.2 = S.readB si := by
            show _ = lastB S.since si (S.fast si)
            rw [← DS.since_call, ← HL.out, lastB_stop L HLL.out si _ k hk p0 x (hpre.symm.trans hpx) hp0 hxi]
          have hlen : x.2.1.2.length = 512 := x.2.2
          obtain ⟨X, hXX⟩ : ∃ X, X = x.2.1.2 := ⟨_, rfl⟩
          rw [← hXX] at HR hlen hX
          have HX := Lib.hid hX; clear hX hXX
          have HK := Lib.hid hK; clear hK
          have HFR := Lib.hid hfr; clear hfr hgW hp0 hxi hpx hpre hk
          refine wpIn_wide.2 ?_
          go_wp2_with fail
          refine (cloneB_any _ X 512 512 _ hlen HR.out (by decide)).mono ?_
          rintro e w7 ⟨v, rfl, ho, hb7⟩
          have HO7 := Lib.hid (And.intro ho hb7); clear ho hb7 hlen
          go_wp2_with fail
          refine ⟨by simp, .inl ⟨_, _, rfl, run_takeDeferred ((HO7.out.2.block D (Array.getElem?_eq_some_iff.1 HK.out).1).trans HK.out), ?_⟩⟩
          refine ⟨_, by simp [results, Try.results85, Try.f85, go_sem]; rfl, ?_⟩
          rw [HRE.out]
          exact read_fin HF2.out HD2.out HB26.out HFR.out hge hD HK.out HO7.out.1 HO7.out.2 HRE0.out HX.out
    · have HE2 : Hid (S.readE si = T2 ∧ T2 ≠ 0) := by
        refine Lib.hid ⟨?_, ht⟩
        unfold DS.readE
        rw [if_neg (by rw [← EE.out]; decide), ← DS.there_call, ← ET2.out]
      go_wp2_with fail
      refine ⟨_, by simp [results, Try.results85, Try.f85, go_sem]; rfl, ?_⟩
      rw [HRE.out]
      exact ⟨_, F2, by rw [HE2.out.1], HD2.out, (Fr.alloc w _).trans HF2.out, fun _ => rfl, fun h => absurd (HE2.out.1.symm.trans h) HE2.out.2⟩
  · have HE2 : Hid (S.readE si = E ∧ E ≠ 0) := by
      refine Lib.hid ⟨?_, h0⟩
      unfold DS.readE
      rw [if_pos (by rw [← EE.out]; exact h0), ← EE.out]
    go_wp2_with fail
    refine ⟨_, by simp [results, Try.results85, Try.f85, go_sem]; rfl, ?_⟩
    rw [HRE.out]
    exact ⟨_, F1, by rw [HE2.out.1], HD1.out, (Fr.alloc w _).trans HF1.out, fun _ => rfl, fun h => absurd (HE2.out.1.symm.trans h) HE2.out.2⟩
end Go.Proofs.Ytfngadidlmbfdaa
