/-
  The document's disk: Write.
-/
import Derived.Test.YtfngadidlmbfdaaRD2
namespace Go.Proofs.Ytfngadidlmbfdaa
open Go.RowKit Go.ChangeMaps
set_option linter.unusedVariables false
set_option linter.unusedSimpArgs false
def RS.writeE (R : RS) (i : Int) (b : List Int) : Int := if R.call.dead = true then 190 else if i < 0 then 1 else if (R.n : Int) ≤ i then 8 else if 512 < b.length then 2 else 0
def RS.write (R : RS) (i : Int) (b : List Int) : RS := if R.writeE i b = 0 then { R.call with since := R.since ++ [(i, pad512 b)] } else R.call
def WG (w0 : World) (tv wv : Value) (n : Nat) (ls ws : List Value) (u : Value) (B : List Value) (d : Nat → Bool) (x : Nat → Value) (w : World) : Prop :=
  AG w0 3 33 tv wv n n ls ws u (fun x => x 14) 7 8 15 16 d x w ∧ (d 14 = true → w.ownsRow w0.heap.size 5 1 (x 14) 512 B)
theorem WG.other {w0 w : World} {tv wv : Value} {n : Nat} {ls ws : List Value} {u : Value} {B : List Value} {d : Nat → Bool} {x : Nat → Value} (h : WG w0 tv wv n ls ws u B d x w) {j : Nat} {c : Value} (hj : j ≠ 7 ∧ j ≠ 8 ∧ j ≠ 15 ∧ j ≠ 16 ∧ j ≠ 14) :
    WG w0 tv wv n ls ws u B (updB d j) (updV x j c) w := by
  obtain ⟨h1, h2, h3, h4, h5⟩ := hj
  refine ⟨h.1.other ⟨h1, h2, h3, h4⟩ (.inl (updV_ne x c (Ne.symm h5))), ?_⟩
  rw [updB_ne d (Ne.symm h5), updV_ne x c (Ne.symm h5)]
  exact h.2
section
variable {w w' : World} {F : Nat → Prop} {r : Nat} {R : RS} {av bv tv wv : Value} {bs ws : List Value}
theorem RefP.putW (h : RefP w F r R av bv tv wv bs ws) {xs : List Int} {i : Int} {d : Nat → Bool} {x : Nat → Value} (hW : WG w tv wv R.since.length (ints R.since) ws (.int .i64 i) (xs.map (Value.int .u8)) d x w')
    (h8 : d 8 = true) (h16 : d 16 = true) (h14 : d 14 = true) (hos : w'.os = w.os ∧ w'.tape = w.tape ∧ w'.output = w.output) (hroom : R.since.length < 1000000000) :
    ∃ F', RefAt ((w'.setCell ⟨r, 3, none⟩ (x 8)).setCell ⟨r, 4, none⟩ (x 16)) F' r { R with since := R.since ++ [(i, xs)] } ∧ Fr F F' w ((w'.setCell ⟨r, 3, none⟩ (x 8)).setCell ⟨r, 4, none⟩ (x 16)) := by
  obtain ⟨hG, hD⟩ := hW
  have hD := hD h14
  obtain ⟨a1, a2⟩ := hG.a8 h8
  obtain ⟨b1, b2⟩ := hG.a15 h16
  obtain ⟨W, hW⟩ : ∃ W, W = (w'.setCell ⟨r, 3, none⟩ (x 8)).setCell ⟨r, 4, none⟩ (x 16) := ⟨_, rfl⟩
  rw [← hW]
  have hst : ∀ j, j ≠ r → W.heap[j]? = w'.heap[j]? := fun j hj => by rw [hW]; exact (set_other _ r 4 _ hj).trans (set_other w' r 3 _ hj)
  have hra := own_ne_cells h.cells h.rt (by decide)
  have hrb := own_ne_cells h.cells h.rw (by decide)
  have hr' : w'.heap[r]? = w.heap[r]? := hG.keep r (h.lt r h.fr) (fun _ => hra) (fun _ => hrb)
  have hold : ∀ j, j < w.heap.size → j ≠ r → tv.ownBlock ≠ some j → wv.ownBlock ≠ some j → W.heap[j]? = w.heap[j]? := fun j h1 h2 h3 h4 => (hst j h2).trans (hG.keep j h1 (fun _ => h3) (fun _ => h4))
  have hWs : W.heap.size = w'.heap.size := by rw [hW]; simp [World.setCell]
  have hcell : w'.heap[r]? = some (.cells #[.int .i64 R.n, av, bv, tv, wv, .int .i64 R.left, .bool R.armed, .bool R.dead] 42 (0, 0)) := hr'.trans h.cells
  have hsec : ∀ u ys, RSec w F u ys → RSec W (fun k => F k ∨ (w.heap.size ≤ k ∧ k < w'.heap.size)) u ys := fun u ys z =>
    ⟨own_at z.row (fun j hj => hold j (own_base z.row j hj).2 (fun e => own_ne_cells h.cells z.row (by decide) (e ▸ hj)) (own_ne z.row h.rt (by decide) j hj) (own_ne z.row h.rw (by decide) j hj)), fun k hk => .inl (z.foot k hk)⟩
  have hnew : RSec W (fun k => F k ∨ (w.heap.size ≤ k ∧ k < w'.heap.size)) (x 14) xs :=
    ⟨own_le (own_at hD (fun j hj => hst j (fun e => own_ne_cells hcell hD (by decide) (e ▸ hj)))) (Nat.zero_le _), fun k hk => .inr (own_base hD k hk)⟩
  refine ⟨fun k => F k ∨ (w.heap.size ≤ k ∧ k < w'.heap.size), ⟨av, bv, x 8, x 16, bs, ws ++ [x 14], ?_, ?_, ?_, ?_, ?_, h.sb.map hsec, ?_, ?_, ?_, .inl h.fr, fun k hk => .inl (h.fa k hk), fun k hk => .inl (h.fb k hk), ?_, ?_, ?_, ?_⟩, ?_⟩
  · rw [hW]
    have := set_same (i := 4) (v := x 16) (set_same (i := 3) (v := x 8) hcell)
    exact this
  · exact own_at h.ra (fun j hj => hold j (own_base h.ra j hj).2 (fun e => own_ne_cells h.cells h.ra (by decide) (e ▸ hj)) (fun e => h.ne1 j hj e) (own_ne h.ra h.rw (by decide) j hj))
  · exact own_at h.rb (fun j hj => hold j (own_base h.rb j hj).2 (fun e => own_ne_cells h.cells h.rb (by decide) (e ▸ hj)) (own_ne h.rb h.rt (by decide) j hj) (fun e => h.ne2 j hj e))
  · have := own_at (w' := W) a1 (fun j hj => hst j (fun e => own_ne_cells hcell a1 (by decide) (e ▸ hj)))
    simpa [ints] using this
  · have := own_at (w' := W) b1 (fun j hj => hst j (fun e => own_ne_cells hcell b1 (by decide) (e ▸ hj)))
    simpa using this
  · exact (h.sw.map hsec).snoc (p := (i, xs)) hnew
  · intro k hk hk'
    rcases a2 with e | ⟨k', e, hle⟩
    · exact h.ne1 k hk (e ▸ hk')
    · have : k' = k := by rw [e] at hk'; injection hk'
      have := h.lt k (h.fa k hk)
      omega
  · intro k hk hk'
    rcases b2 with e | ⟨k', e, hle⟩
    · exact h.ne2 k hk (e ▸ hk')
    · have : k' = k := by rw [e] at hk'; injection hk'
      have := h.lt k (h.fb k hk)
      omega
  · intro k hk
    rcases a2 with e | ⟨k', e, hle⟩
    · exact .inl (h.ft k (e ▸ hk))
    · have : k' = k := by rw [e] at hk; injection hk
      exact .inr ⟨by omega, (own_base a1 k hk).2⟩
  · intro k hk
    rcases b2 with e | ⟨k', e, hle⟩
    · exact .inl (h.fw k (e ▸ hk))
    · have : k' = k := by rw [e] at hk; injection hk
      exact .inr ⟨by omega, (own_base b1 k hk).2⟩
  · rintro k (hk | ⟨_, hk⟩)
    · have := h.lt k hk
      have := hG.size
      omega
    · omega
  · exact ⟨h.ok.n, h.ok.fs, by simp; omega, h.ok.left⟩
  · refine ⟨by rw [hW]; exact hos.1, by rw [hW]; exact hos.2.1, by rw [hW]; exact hos.2.2, by have := hG.size; omega, fun j hj hF => hold j hj (fun e => hF (e ▸ h.fr)) (fun e => hF (h.ft j e)) (fun e => hF (h.fw j e)), ?_⟩
    rintro k (hk | ⟨hk, _⟩)
    · exact .inl hk
    · exact .inr hk
set_option maxRecDepth 100000 in
set_option maxHeartbeats 2000000 in
theorem ref_write (h : RefAt w F r R) (si : Int) (A : Option Addr) (b : List Int) (c : Nat) (hb : Rd (Value.int .u8) w A b) (hl : b.length ≤ 140737488355328) (hF : 0 < b.length → ∀ a, A = some a → ¬ F a.block) (hroom : R.since.length < 1000000000) (hlow : -1000000000 < R.left) :
    Calls Try.prog 84 #[.pointer (some ⟨r, 0, none⟩), .int .i64 si, .slice A b.length c] w (RetRef w F r (.int .i64 (R.writeE si b)) (R.write si b)) := by
  have H1 := Lib.hid (ref_call h hlow)
  have H := Lib.hid h; clear h
  have HB := Lib.hid hb; clear hb
  obtain ⟨D, hD⟩ : ∃ D, D = R.call.dead := ⟨_, rfl⟩
  rw [← hD] at H1
  have HDD := Lib.hid hD; clear hD
  obtain ⟨n, hn⟩ : ∃ n, n = b.length := ⟨_, rfl⟩
  obtain ⟨RE, hRE⟩ : ∃ RE, RE = RetRef w F r (.int .i64 (R.writeE si b)) (R.write si b) := ⟨_, rfl⟩
  rw [← hRE, ← hn]
  rw [← hn] at hl
  have HRE := Lib.hid hRE; clear hRE
  have HBN : Hid (b.length = n) := hn.symm
  clear hn
  go_enter Try.func84, Try.ntmps84
  go_wp2_with fail
  refine H1.out.mono ?_
  rintro e w1 ⟨rfl, F1, hd1, hf1⟩
  have HF1 := Lib.hid hf1; clear hf1
  cases D
  · obtain ⟨av, bv, tv, wv, bs, ws, hp⟩ := hd1
    have HP := Lib.hid hp; clear hp
    have HC := Lib.hid (show RCells w1 r _ _ _ _ _ _ _ _ from HP.out.cells)
    obtain ⟨⟨c0, c1, c2, c3, c4, c5, c6, c7⟩, _⟩ := HC.out.cells
    have hN : R.call.n = R.n := rfl
    rw [hN] at c0
    clear c1 c2 c3 c4 c5 c6 c7 hN
    have HRC : Hid (∀ (E : Int) (W : World), R.writeE si b = E → E ≠ 0 → RefAt W F1 r R.call → Fr F F1 w W → RE (.returned (.int .i64 E)) W) := by
      intro E W h1 h2 h3 h4
      rw [HRE.out]
      refine ⟨by rw [h1], F1, ?_, h4⟩
      unfold RS.write
      rw [if_neg (by rw [h1]; exact h2)]
      exact h3
    have HAT : Hid (RefAt w1 F1 r R.call) := ⟨_, _, _, _, _, _, HP.out⟩
    have he0 : R.call.dead ≠ true := by rw [← HDD.out]; decide
    by_cases h1 : si < 0
    · have e : R.writeE si b = 1 := by unfold RS.writeE; rw [if_neg he0, if_pos h1]
      have hfin := Lib.hid (HRC.out 1 w1 e (by decide) HAT.out HF1.out)
      clear e he0
      go_wp2_with fail
      exact hfin.out
    · by_cases h2 : (R.n : Int) ≤ si
      · have e : R.writeE si b = 8 := by unfold RS.writeE; rw [if_neg he0, if_neg h1, if_pos h2]
        have hfin := Lib.hid (HRC.out 8 w1 e (by decide) HAT.out HF1.out)
        clear e he0
        go_wp2_with fail
        exact hfin.out
      · by_cases h3 : 512 < n
        · have e : R.writeE si b = 2 := by unfold RS.writeE; rw [if_neg he0, if_neg h1, if_neg h2, if_pos (by rw [HBN.out]; exact h3)]
          have hfin := Lib.hid (HRC.out 2 w1 e (by decide) HAT.out HF1.out)
          clear e he0
          go_wp2_with fail
          exact hfin.out
        · have e : R.writeE si b = 0 := by unfold RS.writeE; rw [if_neg he0, if_neg h1, if_neg h2, if_neg (by rw [HBN.out]; exact h3)]
          have HE0 := Lib.hid e; clear e he0
          have hr0 : r < w1.heap.size := HP.out.lt r HP.out.fr
          have HNA := Lib.hid (own_ne_cells HP.out.cells HP.out.rt (by decide))
          have HNB := Lib.hid (own_ne_cells HP.out.cells HP.out.rw (by decide))
          have HKR := Lib.hid (fun (w' : World) (hk : w'.heap[r]? = w1.heap[r]?) => RCells.cells (show RCells w' r _ _ _ _ _ _ _ _ from hk.trans HC.out))
          have hro : R.call.since.length < 1000000000 := hroom
          have HBR : Hid (∀ w' : World, (∀ k, k < w1.heap.size → ¬ F1 k → w'.heap[k]? = w1.heap[k]?) → Rd (Value.int .u8) w' A b) := by
            intro w' hk hnn
            obtain ⟨g, o, rfl, hc⟩ := HB.out hnn
            refine ⟨g, o, rfl, fun j hj => ?_⟩
            have h1 := hc j hj
            have hg := block_lt_of_cell h1
            have hgF := hF hnn _ rfl
            rw [← h1]
            refine (World.cell?_of_block (w := w1) (hk g (Nat.lt_of_lt_of_le hg HF1.out.size) (fun hf => ?_))).trans (World.cell?_of_block (w := w) (HF1.out.block g hg hgF))
            rcases HF1.out.sub g hf with hf | hf
            · exact hgF hf
            · exact absurd hg (by simpa using hf)
          go_wp2_with fail
          clear c0
          refine region_frontJ (by kernel_rfl) (fun W => W.os = w1.os ∧ W.tape = w1.tape ∧ W.output = w1.output) ⟨rfl, rfl, rfl⟩ (fun | 0 => some (.pointer (some ⟨r, 0, none⟩)) | 1 => some (.pointer (some ⟨r, 0, none⟩)) | 2 => some (.pointer (some ⟨r, 0, none⟩)) | 3 => some (.pointer (some ⟨r, 0, none⟩)) | 4 => some (.pointer (some ⟨r, 3, none⟩)) | 5 => some tv | 6 => some (.int .i64 si) | 9 => some (.pointer (some ⟨r, 0, none⟩)) | 10 => some (.pointer (some ⟨r, 0, none⟩)) | 11 => some (.pointer (some ⟨r, 4, none⟩)) | 12 => some wv | 13 => some (.slice A n c) | 17 => some (.pointer (some ⟨r, 0, none⟩)) | 18 => some (.pointer (some ⟨r, 3, none⟩)) | _ => none)
            (AGS (WG w1 tv wv R.call.since.length (ints R.call.since) ws (.int .i64 si) ((pad512 b).map (Value.int .u8))) (fun W => W.os = w1.os ∧ W.tape = w1.tape ∧ W.output = w1.output) r 8 19 3) 20 42 (by decide) rfl (by kernel_rfl) (by kernel_rfl) (by kernel_rfl) (by kernel_rfl) ?_ ?_ ?_
          · intro w' hw'; exact AGS.init ⟨AG.init hw', nofun⟩
          · intro i hi d x a w' hb hsame hanc hdi hdesc hG
            have b0 : a.tmps.getD 0 undef = .pointer (some ⟨r, 0, none⟩) := by rw [Array.getD_eq_getD_getElem?, hsame 0 (by decide +kernel)]; rfl
            have e0 := (Array.getD_eq_getD_getElem? (xs := a.tmps) (i := 0) (d := undef)).symm.trans b0
            have b1 : a.tmps.getD 1 undef = .int .i64 si := by rw [Array.getD_eq_getD_getElem?, hsame 1 (by decide +kernel)]; rfl
            have e1 := (Array.getD_eq_getD_getElem? (xs := a.tmps) (i := 1) (d := undef)).symm.trans b1
            have b2 : a.tmps.getD 2 undef = .slice A n c := by rw [Array.getD_eq_getD_getElem?, hsame 2 (by decide +kernel)]; rfl
            have e2 := (Array.getD_eq_getD_getElem? (xs := a.tmps) (i := 2) (d := undef)).symm.trans b2
            match i, hi with
            | 0, _ =>
              exact rstepJ_det rfl rfl rfl rfl (by simp [go_sem, b0, e0]) (hG.keep (by decide) (fun _ z => WG.other z (by decide))) hb
            | 1, _ =>
              exact rstepJ_det rfl rfl rfl rfl (by simp [go_sem, b0, e0]) (hG.keep (by decide) (fun _ z => WG.other z (by decide))) hb
            | 2, _ =>
              exact rstepJ_det rfl rfl rfl rfl (by simp [go_sem, b0, e0]) (hG.keep (by decide) (fun _ z => WG.other z (by decide))) hb
            | 3, _ =>
              have t23 : a.tmps.getD 23 undef = .pointer (some ⟨r, 0, none⟩) := (show a.tmps.getD 23 undef = x 2 from (hanc 2 (by decide +kernel)).2.1).trans ((hanc 2 (by decide +kernel)).2.2 _ rfl)
              have u23 := (Array.getD_eq_getD_getElem? (xs := a.tmps) (i := 23) (d := undef)).symm.trans t23
              exact rstepJ_det rfl rfl rfl rfl (by simp [go_sem, t23, u23]) (hG.keep (by decide) (fun _ z => WG.other z (by decide))) hb
            | 4, _ =>
              have t24 : a.tmps.getD 24 undef = .pointer (some ⟨r, 0, none⟩) := (show a.tmps.getD 24 undef = x 3 from (hanc 3 (by decide +kernel)).2.1).trans ((hanc 3 (by decide +kernel)).2.2 _ rfl)
              have u24 := (Array.getD_eq_getD_getElem? (xs := a.tmps) (i := 24) (d := undef)).symm.trans t24
              exact rstepJ_det rfl rfl rfl rfl (by simp [go_sem, t24, u24]) (hG.keep (by decide) (fun _ z => WG.other z (by decide))) hb
            | 5, _ =>
              have t25 : a.tmps.getD 25 undef = .pointer (some ⟨r, 3, none⟩) := (show a.tmps.getD 25 undef = x 4 from (hanc 4 (by decide +kernel)).2.1).trans ((hanc 4 (by decide +kernel)).2.2 _ rfl)
              have u25 := (Array.getD_eq_getD_getElem? (xs := a.tmps) (i := 25) (d := undef)).symm.trans t25
              have h19 := hdesc 19 (by decide) (by decide +kernel)
              obtain ⟨hA, hD⟩ := hG.1 h19
              have hc := (HKR.out w' (hA.keep r hr0 (fun _ => HNA.out) (fun _ => HNB.out))).1.2.2.2.1
              exact rstepJ_det rfl rfl rfl rfl (by simp [go_sem, t25, u25, hc]) (AGS.step (by decide) h19 (WG.other ⟨hA, hD⟩ (by decide))) hb
            | 6, _ =>
              exact rstepJ_det rfl rfl rfl rfl (by simp [go_sem, b1, e1]) (hG.keep (by decide) (fun _ z => WG.other z (by decide))) hb
            | 7, _ =>
              have t27 : a.tmps.getD 27 undef = .int .i64 si := (show a.tmps.getD 27 undef = x 6 from (hanc 6 (by decide +kernel)).2.1).trans ((hanc 6 (by decide +kernel)).2.2 _ rfl)
              have u27 := (Array.getD_eq_getD_getElem? (xs := a.tmps) (i := 27) (d := undef)).symm.trans t27
              have h19 := hdesc 19 (by decide) (by decide +kernel)
              obtain ⟨hA, hD⟩ := hG.1 h19
              exact rstepJ_run (v := .slice (some ⟨w'.heap.size, 0, none⟩) 1 1) (w' := w'.alloc (.cells #[.int .i64 si] 3)) rfl rfl rfl rfl (by simp [go_sem, t27, u27]) (AGS.step (by decide) h19 ⟨hA.build7 (by decide) (hdesc 8 (by decide) (by decide +kernel)) (fun _ => updV_ne _ _ (by decide)), fun z => by rw [updB_ne _ (by decide), hdesc 14 (by decide) (by decide +kernel)] at z; cases z⟩) hb
            | 8, _ =>
              have t26 : a.tmps.getD 26 undef = tv := (show a.tmps.getD 26 undef = x 5 from (hanc 5 (by decide +kernel)).2.1).trans ((hanc 5 (by decide +kernel)).2.2 _ rfl)
              have u26 := (Array.getD_eq_getD_getElem? (xs := a.tmps) (i := 26) (d := undef)).symm.trans t26
              have t28 : a.tmps.getD 28 undef = x 7 := (hanc 7 (by decide +kernel)).2.1
              have d7 : d 7 = true := (hanc 7 (by decide +kernel)).1
              have u28 := (Array.getD_eq_getD_getElem? (xs := a.tmps) (i := 28) (d := undef)).symm.trans t28
              have h19 := hdesc 19 (by decide) (by decide +kernel)
              obtain ⟨hA, hD⟩ := hG.1 h19
              obtain ⟨g7, e7, hg7, hc7⟩ := hA.l7 d7
              have h16 := hdesc 16 (by decide) (by decide +kernel)
              obtain ⟨v8, w8, hrun, ho8, hgr, hbk⟩ := run_app w' (ty := 23) ty_ints (hA.row8 HP.out.rt hdi h16) (c := 1) (rdC_cell1 (hc7 hdi)) (by simp [Value.oneCell']) (by have := HP.out.ok.since; omega) (by have := HP.out.ok.since; unfold maxLen; omega) (Nat.zero_le _)
              exact rstepJ_run (v := v8) (w' := w8) rfl rfl rfl rfl (exec_app rfl t26 (t28.trans e7) hrun) (AGS.step (by decide) h19 ⟨hA.app8 HP.out.rt (by decide) (by decide) h16 (fun _ => updV_ne _ _ (by decide)) hgr ho8 hbk, fun z => by rw [updB_ne _ (by decide), hdesc 14 (by decide) (by decide +kernel)] at z; cases z⟩) ⟨hgr.os.trans hb.1, hgr.tape.trans hb.2.1, hgr.output.trans hb.2.2⟩
            | 9, _ =>
              exact rstepJ_det rfl rfl rfl rfl (by simp [go_sem, b0, e0]) (hG.keep (by decide) (fun _ z => WG.other z (by decide))) hb
            | 10, _ =>
              have t30 : a.tmps.getD 30 undef = .pointer (some ⟨r, 0, none⟩) := (show a.tmps.getD 30 undef = x 9 from (hanc 9 (by decide +kernel)).2.1).trans ((hanc 9 (by decide +kernel)).2.2 _ rfl)
              have u30 := (Array.getD_eq_getD_getElem? (xs := a.tmps) (i := 30) (d := undef)).symm.trans t30
              exact rstepJ_det rfl rfl rfl rfl (by simp [go_sem, t30, u30]) (hG.keep (by decide) (fun _ z => WG.other z (by decide))) hb
            | 11, _ =>
              have t31 : a.tmps.getD 31 undef = .pointer (some ⟨r, 0, none⟩) := (show a.tmps.getD 31 undef = x 10 from (hanc 10 (by decide +kernel)).2.1).trans ((hanc 10 (by decide +kernel)).2.2 _ rfl)
              have u31 := (Array.getD_eq_getD_getElem? (xs := a.tmps) (i := 31) (d := undef)).symm.trans t31
              exact rstepJ_det rfl rfl rfl rfl (by simp [go_sem, t31, u31]) (hG.keep (by decide) (fun _ z => WG.other z (by decide))) hb
            | 12, _ =>
              have t32 : a.tmps.getD 32 undef = .pointer (some ⟨r, 4, none⟩) := (show a.tmps.getD 32 undef = x 11 from (hanc 11 (by decide +kernel)).2.1).trans ((hanc 11 (by decide +kernel)).2.2 _ rfl)
              have u32 := (Array.getD_eq_getD_getElem? (xs := a.tmps) (i := 32) (d := undef)).symm.trans t32
              have h19 := hdesc 19 (by decide) (by decide +kernel)
              obtain ⟨hA, hD⟩ := hG.1 h19
              have hc := (HKR.out w' (hA.keep r hr0 (fun _ => HNA.out) (fun _ => HNB.out))).1.2.2.2.2.1
              exact rstepJ_det rfl rfl rfl rfl (by simp [go_sem, t32, u32, hc]) (AGS.step (by decide) h19 (WG.other ⟨hA, hD⟩ (by decide))) hb
            | 13, _ =>
              exact rstepJ_det rfl rfl rfl rfl (by simp [go_sem, b2, e2]) (hG.keep (by decide) (fun _ z => WG.other z (by decide))) hb
            | 14, _ =>
              have t34 : a.tmps.getD 34 undef = .slice A n c := (show a.tmps.getD 34 undef = x 13 from (hanc 13 (by decide +kernel)).2.1).trans ((hanc 13 (by decide +kernel)).2.2 _ rfl)
              have u34 := (Array.getD_eq_getD_getElem? (xs := a.tmps) (i := 34) (d := undef)).symm.trans t34
              have h19 := hdesc 19 (by decide) (by decide +kernel)
              obtain ⟨hA, hD⟩ := hG.1 h19
              refine rstepJ_call rfl rfl rfl rfl (by simp [go_sem, t34, u34]) (ref_full A b n c w' HBN.out (HBR.out w' (fun k hk hF => hA.keep k hk (fun _ e => hF (HP.out.ft k e)) (fun _ e => hF (HP.out.fw k e)))) (by omega)) ?_
              rintro e w8 ⟨v, rfl, ho, hbw⟩
              exact ⟨v, rfl, AGS.step (by decide) h19 ⟨(hA.below hbw).other (by decide) (.inr ⟨hdesc 15 (by decide) (by decide +kernel), hdesc 16 (by decide) (by decide +kernel)⟩), fun _ => by rw [updV_same]; exact own_le ho hA.size⟩, hbw.os.trans hb.1, hbw.tape.trans hb.2.1, hbw.output.trans hb.2.2⟩
            | 15, _ =>
              have t35 : a.tmps.getD 35 undef = x 14 := (hanc 14 (by decide +kernel)).2.1
              have d14 : d 14 = true := (hanc 14 (by decide +kernel)).1
              have u35 := (Array.getD_eq_getD_getElem? (xs := a.tmps) (i := 35) (d := undef)).symm.trans t35
              have h19 := hdesc 19 (by decide) (by decide +kernel)
              obtain ⟨hA, hD⟩ := hG.1 h19
              obtain ⟨A14, c14, e14, _⟩ := own_form (hD d14)
              have hst := hA.build14 (by decide) (hdesc 16 (by decide) (by decide +kernel)) (fun _ => updV_ne _ _ (by decide))
              have hD2 : updB d 15 15 = true → True := fun _ => trivial
              rw [e14] at t35 u35
              refine rstepJ_run (v := .slice (some ⟨w'.heap.size, 0, none⟩) 1 1) (w' := w'.alloc (.cells #[.slice A14 512 c14] 33)) rfl rfl rfl rfl (by simp [go_sem, t35, u35]) (AGS.step (by decide) h19 ⟨by rw [← e14]; exact hst, fun _ => by rw [updV_ne _ _ (by decide)]; exact own_below (hD d14) ((Below.refl w'.heap.size w').alloc (Nat.le_refl _) _)⟩) hb
            | 16, _ =>
              have t33 : a.tmps.getD 33 undef = wv := (show a.tmps.getD 33 undef = x 12 from (hanc 12 (by decide +kernel)).2.1).trans ((hanc 12 (by decide +kernel)).2.2 _ rfl)
              have u33 := (Array.getD_eq_getD_getElem? (xs := a.tmps) (i := 33) (d := undef)).symm.trans t33
              have t36 : a.tmps.getD 36 undef = x 15 := (hanc 15 (by decide +kernel)).2.1
              have d15 : d 15 = true := (hanc 15 (by decide +kernel)).1
              have u36 := (Array.getD_eq_getD_getElem? (xs := a.tmps) (i := 36) (d := undef)).symm.trans t36
              have h19 := hdesc 19 (by decide) (by decide +kernel)
              obtain ⟨hA, hD⟩ := hG.1 h19
              obtain ⟨g14, e14, hg14, hc14⟩ := hA.l14 d15
              obtain ⟨A14, c14, e14', _⟩ := own_form (hD (hanc 14 (by decide +kernel)).1)
              obtain ⟨v8, w8, hrun, ho8, hgr, hbk⟩ := run_app w' (ty := 40) ty_byteses (hA.row15 HP.out.rt HP.out.rw (by decide) hdi) (c := 1) (rdC_cell1 (hc14 hdi)) (by simp [e14', Value.oneCell']) (by have := HP.out.ok.since; omega) (by have := HP.out.ok.since; unfold maxLen; omega) (Nat.zero_le _)
              exact rstepJ_run (v := v8) (w' := w8) rfl rfl rfl rfl (exec_app rfl t33 (t36.trans e14) hrun) (AGS.step (by decide) h19 ⟨hA.app15 HP.out.rw HP.out.rt (by decide) (by decide) (fun _ => updV_ne _ _ (by decide)) hgr ho8 hbk (hanc 8 (by decide +kernel)).1, fun _ => by rw [updV_ne _ _ (by decide)]; exact own_at (hD (hanc 14 (by decide +kernel)).1) (fun k hk => hgr.block k (own_base (hD (hanc 14 (by decide +kernel)).1) k hk).2 (fun e => by have h1 := (own_base (hD (hanc 14 (by decide +kernel)).1) k hk).1; have h2 := (own_base HP.out.rw k e.symm).2; omega))⟩) ⟨hgr.os.trans hb.1, hgr.tape.trans hb.2.1, hgr.output.trans hb.2.2⟩
            | 17, _ =>
              have t21 : a.tmps.getD 21 undef = .pointer (some ⟨r, 0, none⟩) := (show a.tmps.getD 21 undef = x 0 from (hanc 0 (by decide +kernel)).2.1).trans ((hanc 0 (by decide +kernel)).2.2 _ rfl)
              have u21 := (Array.getD_eq_getD_getElem? (xs := a.tmps) (i := 21) (d := undef)).symm.trans t21
              exact rstepJ_det rfl rfl rfl rfl (by simp [go_sem, t21, u21]) (hG.keep (by decide) (fun _ z => WG.other z (by decide))) hb
            | 18, _ =>
              have t38 : a.tmps.getD 38 undef = .pointer (some ⟨r, 0, none⟩) := (show a.tmps.getD 38 undef = x 17 from (hanc 17 (by decide +kernel)).2.1).trans ((hanc 17 (by decide +kernel)).2.2 _ rfl)
              have u38 := (Array.getD_eq_getD_getElem? (xs := a.tmps) (i := 38) (d := undef)).symm.trans t38
              exact rstepJ_det rfl rfl rfl rfl (by simp [go_sem, t38, u38]) (hG.keep (by decide) (fun _ z => WG.other z (by decide))) hb
            | 19, _ =>
              have t39 : a.tmps.getD 39 undef = .pointer (some ⟨r, 3, none⟩) := (show a.tmps.getD 39 undef = x 18 from (hanc 18 (by decide +kernel)).2.1).trans ((hanc 18 (by decide +kernel)).2.2 _ rfl)
              have u39 := (Array.getD_eq_getD_getElem? (xs := a.tmps) (i := 39) (d := undef)).symm.trans t39
              have t29 : a.tmps.getD 29 undef = x 8 := (hanc 8 (by decide +kernel)).2.1
              have d8 : d 8 = true := (hanc 8 (by decide +kernel)).1
              have u29 := (Array.getD_eq_getD_getElem? (xs := a.tmps) (i := 29) (d := undef)).symm.trans t29
              obtain ⟨hA, hD⟩ := hG.1 hdi
              obtain ⟨A8, c8, e8, _⟩ := own_form (hA.a8 d8).1
              obtain ⟨hc, hfz⟩ := HKR.out w' (hA.keep r hr0 (fun _ => HNA.out) (fun _ => HNB.out))
              have hc1 := hc.2.2.2.1
              have f1 := hfz 3
              have hst := hG.store (by decide) hdi hb (fun _ z => WG.other z (by decide))
              rw [e8] at t29 u29 hst
              exact rstepJ_skip rfl rfl rfl rfl (by simp [go_sem, t39, u39, t29, u29, hc1, f1]) hst hb
            | (m + 20), h => exact absurd h (by omega)
          · intro d x W hos0 hall hGG
            have d8 := (hall 8 (by omega)).1
            have d16 := (hall 16 (by omega)).1
            have d14 := (hall 14 (by omega)).1
            obtain ⟨w', hG, hos, hWe⟩ := hGG.2 (hall 19 (by omega)).1
            subst hWe
            have hfin : Hid (RE (.returned (.int .i64 0)) ((w'.setCell ⟨r, 3, none⟩ (x 8)).setCell ⟨r, 4, none⟩ (x 16))) := by
              show RE _ _
              rw [HRE.out]
              obtain ⟨F', z1, z2⟩ := HP.out.putW hG d8 d16 d14 hos hro
              refine ⟨by rw [HE0.out], F', ?_, HF1.out.trans z2⟩
              unfold RS.write
              rw [if_pos HE0.out]
              exact z1
            have hr' := hG.1.keep r hr0 (fun _ => HNA.out) (fun _ => HNB.out)
            obtain ⟨⟨c0, c1, c2, c3, c4, c5, c6, c7⟩, hfz⟩ := HKR.out w' hr'
            have f4 := hfz 4
            obtain ⟨A8, c8, e8, _⟩ := own_form (hG.1.a8 d8).1
            obtain ⟨A9, c9, e9, _⟩ := own_form (hG.1.a15 d16).1
            have e1 := (hall 1 (by omega)).2 _ rfl
            simp only [rfill, rdst, List.getElem?_toArray, List.getElem?_cons_zero, List.getElem?_cons_succ, Option.bind_some, Act.put, List.setIfInBounds_toArray, List.set_cons_zero, List.set_cons_succ, List.drop_succ_cons, List.drop_zero]
            rw [e8, e9] at hfin
            rw [e1, e8, e9]
            clear e1 e8 e9 hall hG hGG hr' hfz
            go_wp2_with fail
            exact hfin.out
  · have hfin : Hid (RE (.returned (.int .i64 190)) w1) := by
      have e : R.writeE si b = 190 := by unfold RS.writeE; rw [if_pos HDD.out.symm]
      show RE _ _
      rw [HRE.out]
      refine ⟨by rw [e], F1, ?_, HF1.out⟩
      unfold RS.write
      rw [if_neg (by rw [e]; decide)]
      exact hd1
    clear hd1
    go_wp2_with fail
    exact hfin.out
end
end Go.Proofs.Ytfngadidlmbfdaa
