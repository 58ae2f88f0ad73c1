/-
  The law DiskActs, walked.
-/
import Derived.Test.YtfngadidlmbfdaaDA6
namespace Go.Proofs.Ytfngadidlmbfdaa
open Go.RowKit
set_option linter.unusedVariables false
set_option linter.unusedSimpArgs false
/-- Between two rounds. -/
structure Acts (w : World) (q r : Nat) (k : Nat) (W : World) : Prop where
  both : ∃ F G S R, Both W F G q r S R k ∧ (∀ z, F z → w.heap.size ≤ z) ∧ (∀ z, G z → w.heap.size ≤ z)
  below : Below w.heap.size w W
theorem RetLoadR.rel {n : Int} {b : List Int} {w : World} {e : Ending} {w' : World} (h : RetLoadR w n b e w') : ∃ r G R, e = .returned (.pointer (some ⟨r, 0, none⟩)) ∧ RefAt w' G r R ∧ (∀ k, G k → w.heap.size ≤ k) ∧ Below w.heap.size w w' ∧ Rel (DS.load n b) R ∧ R.fs.length + R.since.length ≤ 5000 ∧ R.left = 0 := by
  obtain ⟨r, G, R, he, h1, h2, h3, h4, h5, h6, h7, h8, h9, h10⟩ := h
  exact ⟨r, G, R, he, h1, h2, h3, Rel.load h4 h5 h7 h8 h10, by rw [h5]; simp; omega, h6⟩
/-- The state once both disks are loaded. -/
theorem acts_start {w w1 w2 w3 : World} {q r : Nat} {F G : Nat → Prop} {n : Int} {b : List Int} {R : RS} (hb1 : Below w.heap.size w w1) (hd : DiskAt w2 F q (DS.load n b)) (hF : ∀ k, F k → w1.heap.size ≤ k) (hb2 : Below w1.heap.size w1 w2)
    (hr : RefAt w3 G r R) (hG : ∀ k, G k → w2.heap.size ≤ k) (hb3 : Below w2.heap.size w2 w3) (hrel : Rel (DS.load n b) R) (hl : R.fs.length + R.since.length ≤ 5000) (h0 : R.left = 0) :
    Both w3 F G q r (DS.load n b) R 0 ∧ (∀ z, F z → w.heap.size ≤ z) ∧ (∀ z, G z → w.heap.size ≤ z) ∧ Below w.heap.size w w3 :=
  ⟨⟨hd.below hb3, hr, fun k hk hk' => by have := hd.lt _ hk; have := hG _ hk'; omega, hrel, hl, by rw [h0]; exact Int.le_refl _⟩, fun z hz => Nat.le_trans hb1.size (hF z hz), fun z hz => Nat.le_trans hb1.size (Nat.le_trans hb2.size (hG z hz)),
    hb1.trans ((hb2.mono hb1.size).trans (hb3.mono (Nat.le_trans hb1.size hb2.size)))⟩
theorem Acts.thenBelow {w W W' : World} {q r k : Nat} (h : Acts w q r k W) (hb : Below W.heap.size W W') : Acts w q r k W' := by
  obtain ⟨⟨F, G, S, R, h1, h2, h3⟩, h4⟩ := h
  exact ⟨⟨F, G, S, R, ⟨h1.disk.below hb, h1.ref.below hb, h1.apart, h1.rel, h1.len, h1.left⟩, h2, h3⟩, h4.trans (hb.mono h4.size)⟩
theorem acts_does {w W : World} {q r k : Nat} {l : List ActD} {AL : Option Addr} (hl : ActsIn w AL l) (h : Acts w q r k W) (hk : k ≤ 40) (a : ActD) (ha : a ∈ l) : Calls Try.prog 25 #[.pointer (some ⟨q, 0, none⟩), .pointer (some ⟨r, 0, none⟩), .agg a.cells.toArray] W (fun e w' => e = .returned (.bool true) ∧ Acts w q r (k + 1) w') := by
  obtain ⟨⟨F, G, S, R, h1, h2, h3⟩, h4⟩ := h
  have hin := hl.each a ha
  have hFG : ∀ z, (F z ∨ G z) → w.heap.size ≤ z := fun z hz => hz.elim (h2 z) (h3 z)
  refine (does_any h1 (by omega) a (hin.below h4) (hin.off hFG)).mono ?_
  rintro e w' ⟨rfl, F', G', S', R', hb, hf⟩
  have hsub : ∀ z, (F' z ∨ G' z) → w.heap.size ≤ z := fun z hz => (hf.sub z hz).elim (hFG z) (fun y => Nat.le_trans h4.size y)
  exact ⟨rfl, ⟨F', G', S', R', hb, fun z hz => hsub z (.inl hz), fun z hz => hsub z (.inr hz)⟩, h4.trans (hf.toBelow hFG h4.size)⟩
/-- What both disks answer of a state. -/
theorem acts_answer {w W : World} {q r k : Nat} (h : Acts w q r k W) : ∃ (n1 : Nat) (dd : Bool) (tA : Option Addr) (tc : Nat) (bs : Int → List Int),
    Calls Try.prog 26 #[.pointer (some ⟨q, 0, none⟩)] W (fun e w' => e = .returned (.int .i64 (n1 : Int)) ∧ w' = W) ∧ Calls Try.prog 27 #[.pointer (some ⟨q, 0, none⟩)] W (fun e w' => e = .returned (.bool dd) ∧ w' = W) ∧
    W.cell? ⟨r, 3, none⟩ = some (.slice tA n1 tc) ∧ W.cell? ⟨r, 7, none⟩ = some (.bool dd) ∧
    (∀ i W', Below W.heap.size W W' → Calls Try.prog 28 #[.pointer (some ⟨q, 0, none⟩), .int .i64 i] W' (RetBytes W' (bs i))) ∧
    (∀ i W', Below W.heap.size W W' → Calls Try.prog 29 #[.pointer (some ⟨r, 0, none⟩), .int .i64 i] W' (RetRd W' (bs i))) := by
  obtain ⟨⟨F, G, S, R, h1, h2, h3⟩, h4⟩ := h
  obtain ⟨av, bv, tv, wv, bs, ws, hp⟩ := h1.ref
  obtain ⟨tA, tc, htv, _, _⟩ := own_form hp.rt
  have hc := fun i => cell_of_row W r i _ _ _ hp.cells
  refine ⟨S.since.length, S.dead, tA, tc, S.bytes, disk_pendingS h1.disk, disk_deadS h1.disk, ?_, ?_, fun i W' hb => disk_bytes (h1.disk.below hb) i, fun i W' hb => ?_⟩
  · rw [h1.rel.since, ← htv]; exact hc 3
  · rw [h1.rel.dead]; exact hc 7
  · rw [h1.rel.bytes i]; exact ref_bytes (h1.ref.below hb) i
set_option maxRecDepth 100000 in
set_option maxHeartbeats 8000000 in
theorem diskActs_no (w : World) (n : Int) (hn : -9223372036854775808 ≤ n ∧ n ≤ 9223372036854775807) (IA : Option Addr) (img : List Int) (ic : Nat) (hi : Rd (Value.int .u8) w IA img) (hic : img.length ≤ ic ∧ ic ≤ maxLen) (AL : Option Addr) (l : List ActD) (lc : Nat) (hl : ActsIn w AL l) (hll : l.length ≤ lc ∧ lc ≤ maxLen) (hc : img.length ≤ 5000) :
    Calls Try.prog 4 #[.int .i64 n, .slice IA img.length ic, .slice AL l.length lc] w (RetL w (.bool true)) := by
  obtain ⟨RE, hRE⟩ : ∃ RE, RE = RetL w (.bool true) := ⟨_, rfl⟩
  rw [← hRE]
  have HRE := Lib.hid hRE; clear hRE
  have HL := Lib.hid hl; clear hl
  have HI := Lib.hid hi; clear hi
  obtain ⟨N, hN⟩ : ∃ N, N = l.length := ⟨_, rfl⟩
  rw [← hN] at hll ⊢
  have HN := Lib.hid hN; clear hN
  obtain ⟨hl1, hl2⟩ := hll
  unfold maxLen at hl2
  obtain ⟨xs, hxs⟩ : ∃ xs, xs = img := ⟨_, rfl⟩; rw [← hxs] at hic hc HI ⊢; obtain ⟨M, hM⟩ : ∃ M, M = xs.length := ⟨_, rfl⟩; rw [← hM] at hic hc ⊢; have HM := Lib.hid hM; clear hM; obtain ⟨hi1, hi2⟩ := hic; unfold maxLen at hi2; have hcc : decide ((5000 : Int) < (M : Int)) = false := (by simp; omega)
  have HE : Hid ((w.alloc (.cells #[] 5)).ownsRow w.heap.size 5 1 (.slice (some ⟨w.heap.size, 0, none⟩) 0 0) 0 []) := own_empty w w.heap.size 5 1 (Nat.le_refl _)
  have HB0 : Hid (Below w.heap.size w (w.alloc (.cells #[] 5))) := (Below.refl _ w).alloc (Nat.le_refl _) _
  have H1C := Lib.hid (fun u (hu : u ∈ xs.map (Value.int .u8)) => (show u.oneCell' = true by obtain ⟨x, _, rfl⟩ := List.mem_map.1 hu; rfl))
  go_enter Try.func4, Try.ntmps4
  go_wp2_with (at_builtin; refine wpList_app _ rfl (.tmp 17) (.tmp 18) ty_bytes rfl _ _ _ rfl HE.out _ M _ (xs.map (Value.int .u8)) rfl (by rw [HM.out]; exact (HI.out.below HB0.out).cells) H1C.out (by omega) (by unfold maxLen; omega) HB0.out.size ?_; intro v1 w1 h1 h2 h3; simp only [Nat.zero_add, List.nil_append] at h1; have K1 := Lib.hid h1; have K2 := Lib.hid (show (w.alloc (.cells #[] 5)).grownBy w1 (some w.heap.size) from h2); clear h1 h2 h3)
  obtain ⟨A1, c1, rfl, hA1, hA2⟩ := own_form K1.out
  have HB1 : Hid (Below w.heap.size w w1) := HB0.out.grown K2.out HB0.out.size (fun k hk => by injection hk with hk; omega)
  have hld := disk_load n A1 xs c1 w1 hn (own_rd K1.out) (by have := HM.out; omega) (by have := HM.out; exact ⟨by omega, hA2⟩)
  rw [← HM.out] at hld
  have HLD := Lib.hid hld; clear hld
  go_wp2_with fail
  refine HLD.out.mono ?_
  rintro e w2 ⟨q, F, rfl, hd, hF, hb2⟩
  have HD := Lib.hid hd
  have HF := Lib.hid hF
  have HB2 := Lib.hid hb2
  clear hd hF hb2 HLD
  have hlr := ref_load n IA xs ic w2 hn ((HI.out.below HB1.out).below HB2.out) (by have := HM.out; omega) (by have := HM.out; unfold maxLen; exact ⟨by omega, hi2⟩)
  rw [← HM.out] at hlr
  have HLR := Lib.hid hlr; clear hlr
  go_wp2_with fail
  refine HLR.out.mono ?_
  clear HLR
  intro e w3 h
  obtain ⟨r, G, R, rfl, hr, hG, hb3, hrel, hrl, hr0⟩ := h.rel
  clear h
  have hst := acts_start HB1.out HD.out HF.out HB2.out hr hG hb3 hrel hrl hr0
  have HST := Lib.hid hst
  clear hst hr hG hb3 hrel hrl hr0 HB2 HF HD K1 K2
  go_wp2_with fail
  refine region_phases (by kernel_rfl) ?_
  have hdr : Below w3.heap.size w3 { w3 with drawn := w3.drawn + 1 } := ⟨rfl, rfl, rfl, Nat.le_refl _, fun _ _ => rfl⟩
  obtain ⟨W0, hW0⟩ : ∃ W0 : World, W0 = { w3 with drawn := w3.drawn + 1 } := ⟨_, rfl⟩
  rw [← hW0] at hdr ⊢
  have HS0 : Hid (Acts w q r 0 W0) := ⟨⟨F, G, _, R, ⟨HST.out.1.disk.below hdr, HST.out.1.ref.below hdr, HST.out.1.apart, HST.out.1.rel, HST.out.1.len, HST.out.1.left⟩, HST.out.2.1, HST.out.2.2.1⟩, HST.out.2.2.2.trans (hdr.mono HST.out.2.2.2.size)⟩
  have HSE := Lib.hid (disk_sectorsS (HST.out.1.disk.below hdr))
  obtain ⟨av, bv, tv, wv, hrc, _⟩ := (HST.out.1.ref.below hdr).rcells
  obtain ⟨n1, hn1⟩ : ∃ n1, n1 = R.n := ⟨_, rfl⟩
  have hn2 : n1 = (DS.load n xs).n := by rw [hn1]; exact HST.out.1.rel.n.symm
  rw [← hn1] at hrc
  rw [← hn2] at HSE
  clear hn1 hn2 hdr hW0
  obtain ⟨⟨c0, _, _, _, _, _, _, _⟩, _⟩ := hrc.cells
  clear hrc
  refine phaseJ (fun _ => True) (trivial) (fun | 0 => some (.pointer (some ⟨q, 0, none⟩)) | 1 => some (.bool false) | 2 => some (.bool false) | 3 => some (.pointer (some ⟨q, 0, none⟩)) | 4 => some (.int .i64 (n1 : Int)) | 5 => some (.pointer (some ⟨r, 0, none⟩)) | 6 => some (.pointer (some ⟨r, 0, none⟩)) | 7 => some (.pointer (some ⟨r, 0, none⟩)) | 8 => some (.int .i64 (n1 : Int)) | 9 => some (.bool false) | 10 => some (.bool false) | _ => none) (fun _ _ w => w = W0) 0 11 105 (by decide) rfl (by kernel_rfl) (by kernel_rfl) (rfl) ?_ ?_
  · intro i hmi hi d x a w' hb hsame hanc hdi hdesc hG
    have b7 : a.tmps.getD 7 undef = .pointer (some ⟨q, 0, none⟩) := by rw [Array.getD_eq_getD_getElem?, hsame 7 (by decide +kernel)]; rfl
    have e7 := (Array.getD_eq_getD_getElem? (xs := a.tmps) (i := 7) (d := undef)).symm.trans b7
    have b8 : a.tmps.getD 8 undef = .pointer (some ⟨r, 0, none⟩) := by rw [Array.getD_eq_getD_getElem?, hsame 8 (by decide +kernel)]; rfl
    have e8 := (Array.getD_eq_getD_getElem? (xs := a.tmps) (i := 8) (d := undef)).symm.trans b8
    match i, hmi, hi with
    | 0, _, _ =>
      exact pstep_det rfl (wanted_none rfl) rfl rfl (by simp [go_sem, b7, e7]) (hG) hb
    | 1, _, _ =>
      have t24 : a.tmps.getD 24 undef = .pointer (some ⟨q, 0, none⟩) := (show a.tmps.getD 24 undef = x 0 from (hanc 0 (by decide +kernel)).2.1).trans ((hanc 0 (by decide +kernel)).2.2 _ rfl)
      have u24 := (Array.getD_eq_getD_getElem? (xs := a.tmps) (i := 24) (d := undef)).symm.trans t24
      exact pstep_det rfl (wanted_none rfl) rfl rfl (by simp [go_sem, t24, u24]) (hG) hb
    | 2, _, _ =>
      have t25 : a.tmps.getD 25 undef = .bool false := (show a.tmps.getD 25 undef = x 1 from (hanc 1 (by decide +kernel)).2.1).trans ((hanc 1 (by decide +kernel)).2.2 _ rfl)
      have u25 := (Array.getD_eq_getD_getElem? (xs := a.tmps) (i := 25) (d := undef)).symm.trans t25
      exact pstep_det rfl (wanted_none rfl) rfl rfl (by simp [go_sem, t25, u25]) (hG) hb
    | 3, _, _ =>
      have t26 : a.tmps.getD 26 undef = .bool false := (show a.tmps.getD 26 undef = x 2 from (hanc 2 (by decide +kernel)).2.1).trans ((hanc 2 (by decide +kernel)).2.2 _ rfl)
      have u26 := (Array.getD_eq_getD_getElem? (xs := a.tmps) (i := 26) (d := undef)).symm.trans t26
      exact pstep_det rfl (wanted_slot rfl rfl t26) rfl rfl (by simp [go_sem, b7, e7, t26, u26]) (hG) hb
    | 4, _, _ =>
      have t27 : a.tmps.getD 27 undef = .pointer (some ⟨q, 0, none⟩) := (show a.tmps.getD 27 undef = x 3 from (hanc 3 (by decide +kernel)).2.1).trans ((hanc 3 (by decide +kernel)).2.2 _ rfl)
      have u27 := (Array.getD_eq_getD_getElem? (xs := a.tmps) (i := 27) (d := undef)).symm.trans t27
      have t26 : a.tmps.getD 26 undef = .bool false := (show a.tmps.getD 26 undef = x 2 from (hanc 2 (by decide +kernel)).2.1).trans ((hanc 2 (by decide +kernel)).2.2 _ rfl)
      have u26 := (Array.getD_eq_getD_getElem? (xs := a.tmps) (i := 26) (d := undef)).symm.trans t26
      have hcc := HSE.out
      rw [← hG] at hcc
      refine pstep_call rfl (wanted_slot rfl rfl t26) rfl (by simp [go_sem, t27, u27, t26, u26]) hcc ?_
      rintro e w8 ⟨rfl, h8⟩
      exact ⟨_, rfl, (fun c e => by cases e; rfl), h8.trans hG, trivial⟩
    | 5, _, _ =>
      have t26 : a.tmps.getD 26 undef = .bool false := (show a.tmps.getD 26 undef = x 2 from (hanc 2 (by decide +kernel)).2.1).trans ((hanc 2 (by decide +kernel)).2.2 _ rfl)
      have u26 := (Array.getD_eq_getD_getElem? (xs := a.tmps) (i := 26) (d := undef)).symm.trans t26
      exact pstep_det rfl (wanted_slot rfl rfl t26) rfl rfl (by simp [go_sem, b8, e8, t26, u26]) (hG) hb
    | 6, _, _ =>
      have t29 : a.tmps.getD 29 undef = .pointer (some ⟨r, 0, none⟩) := (show a.tmps.getD 29 undef = x 5 from (hanc 5 (by decide +kernel)).2.1).trans ((hanc 5 (by decide +kernel)).2.2 _ rfl)
      have u29 := (Array.getD_eq_getD_getElem? (xs := a.tmps) (i := 29) (d := undef)).symm.trans t29
      have t26 : a.tmps.getD 26 undef = .bool false := (show a.tmps.getD 26 undef = x 2 from (hanc 2 (by decide +kernel)).2.1).trans ((hanc 2 (by decide +kernel)).2.2 _ rfl)
      have u26 := (Array.getD_eq_getD_getElem? (xs := a.tmps) (i := 26) (d := undef)).symm.trans t26
      exact pstep_det rfl (wanted_slot rfl rfl t26) rfl rfl (by simp [go_sem, t29, u29, t26, u26]) (hG) hb
    | 7, _, _ =>
      have t30 : a.tmps.getD 30 undef = .pointer (some ⟨r, 0, none⟩) := (show a.tmps.getD 30 undef = x 6 from (hanc 6 (by decide +kernel)).2.1).trans ((hanc 6 (by decide +kernel)).2.2 _ rfl)
      have u30 := (Array.getD_eq_getD_getElem? (xs := a.tmps) (i := 30) (d := undef)).symm.trans t30
      have t26 : a.tmps.getD 26 undef = .bool false := (show a.tmps.getD 26 undef = x 2 from (hanc 2 (by decide +kernel)).2.1).trans ((hanc 2 (by decide +kernel)).2.2 _ rfl)
      have u26 := (Array.getD_eq_getD_getElem? (xs := a.tmps) (i := 26) (d := undef)).symm.trans t26
      exact pstep_det rfl (wanted_slot rfl rfl t26) rfl rfl (by simp [go_sem, t30, u30, t26, u26]) (hG) hb
    | 8, _, _ =>
      have t31 : a.tmps.getD 31 undef = .pointer (some ⟨r, 0, none⟩) := (show a.tmps.getD 31 undef = x 7 from (hanc 7 (by decide +kernel)).2.1).trans ((hanc 7 (by decide +kernel)).2.2 _ rfl)
      have u31 := (Array.getD_eq_getD_getElem? (xs := a.tmps) (i := 31) (d := undef)).symm.trans t31
      have t26 : a.tmps.getD 26 undef = .bool false := (show a.tmps.getD 26 undef = x 2 from (hanc 2 (by decide +kernel)).2.1).trans ((hanc 2 (by decide +kernel)).2.2 _ rfl)
      have u26 := (Array.getD_eq_getD_getElem? (xs := a.tmps) (i := 26) (d := undef)).symm.trans t26
      exact pstep_det rfl (wanted_slot rfl rfl t26) rfl rfl (by simp [go_sem, t31, u31, t26, u26, hG, c0]) (hG) hb
    | 9, _, _ =>
      have t28 : a.tmps.getD 28 undef = .int .i64 (n1 : Int) := (show a.tmps.getD 28 undef = x 4 from (hanc 4 (by decide +kernel)).2.1).trans ((hanc 4 (by decide +kernel)).2.2 _ rfl)
      have u28 := (Array.getD_eq_getD_getElem? (xs := a.tmps) (i := 28) (d := undef)).symm.trans t28
      have t32 : a.tmps.getD 32 undef = .int .i64 (n1 : Int) := (show a.tmps.getD 32 undef = x 8 from (hanc 8 (by decide +kernel)).2.1).trans ((hanc 8 (by decide +kernel)).2.2 _ rfl)
      have u32 := (Array.getD_eq_getD_getElem? (xs := a.tmps) (i := 32) (d := undef)).symm.trans t32
      have t26 : a.tmps.getD 26 undef = .bool false := (show a.tmps.getD 26 undef = x 2 from (hanc 2 (by decide +kernel)).2.1).trans ((hanc 2 (by decide +kernel)).2.2 _ rfl)
      have u26 := (Array.getD_eq_getD_getElem? (xs := a.tmps) (i := 26) (d := undef)).symm.trans t26
      exact pstep_det rfl (wanted_slot rfl rfl t26) rfl rfl (by simp [go_sem, t28, u28, t32, u32, t26, u26]) (hG) hb
    | 10, _, _ =>
      have t26 : a.tmps.getD 26 undef = .bool false := (show a.tmps.getD 26 undef = x 2 from (hanc 2 (by decide +kernel)).2.1).trans ((hanc 2 (by decide +kernel)).2.2 _ rfl)
      have u26 := (Array.getD_eq_getD_getElem? (xs := a.tmps) (i := 26) (d := undef)).symm.trans t26
      have t33 : a.tmps.getD 33 undef = .bool false := (show a.tmps.getD 33 undef = x 9 from (hanc 9 (by decide +kernel)).2.1).trans ((hanc 9 (by decide +kernel)).2.2 _ rfl)
      have u33 := (Array.getD_eq_getD_getElem? (xs := a.tmps) (i := 33) (d := undef)).symm.trans t33
      exact pstep_det rfl (wanted_none rfl) rfl rfl (by simp [go_sem, t26, u26, t33, u33]) (hG) hb
    | (k + 11), _, h => exact absurd h (by omega)
  intro d x w' hb hall hG
  have z0 := (hall 0 (by omega) (by omega)).2 _ rfl
  have z1 := (hall 1 (by omega) (by omega)).2 _ rfl
  have z2 := (hall 2 (by omega) (by omega)).2 _ rfl
  have z3 := (hall 3 (by omega) (by omega)).2 _ rfl
  have z4 := (hall 4 (by omega) (by omega)).2 _ rfl
  have z5 := (hall 5 (by omega) (by omega)).2 _ rfl
  have z6 := (hall 6 (by omega) (by omega)).2 _ rfl
  have z7 := (hall 7 (by omega) (by omega)).2 _ rfl
  have z8 := (hall 8 (by omega) (by omega)).2 _ rfl
  have z9 := (hall 9 (by omega) (by omega)).2 _ rfl
  have z10 := (hall 10 (by omega) (by omega)).2 _ rfl
  simp only [pfill, rdst, Nat.reduceAdd, List.getElem?_toArray, List.getElem?_cons_zero, List.getElem?_cons_succ, Option.bind_some, Act.put, List.setIfInBounds_toArray, List.set_cons_zero, List.set_cons_succ, List.drop_succ_cons, List.drop_zero]
  rw [z0, z1, z2, z3, z4, z5, z6, z7, z8, z9, z10]
  clear z0 z1 z2 z3 z4 z5 z6 z7 z8 z9 z10
  refine phase_end (by kernel_rfl) ?_
  have hG := hG.symm
  subst hG
  clear hall hb c0 HSE
  clear HST
  go_wp2_with fail
  go_loopw [9] (fun i W => ∃ k : Nat, k ≤ N ∧ i = .int .i64 k ∧ k ≤ 40 ∧ Hid (Acts w q r k W)) (fun i _ => N - (intOf i).toNat)
  case atStart => exact ⟨0, Nat.zero_le _, rfl, by omega, HS0⟩
  case round =>
    clear HS0
    obtain ⟨k, hk, rfl, hk40, HK⟩ := hrel
    by_cases hlt : k < N ∧ k < 40
    · obtain ⟨hlt, hk4⟩ := hlt
      have hg1 : decide ((k : Int) < (N : Int)) = true := by simp; omega
      have hg2 : decide ((k : Int) < 40) = true := by simp; omega
      go_wp2_with fail
      refine region_phases (by kernel_rfl) ?_
      have hdr : Below wr.heap.size wr { wr with drawn := wr.drawn + 1 } := ⟨rfl, rfl, rfl, Nat.le_refl _, fun _ _ => rfl⟩
      obtain ⟨W0, hW0⟩ : ∃ W0 : World, W0 = { wr with drawn := wr.drawn + 1 } := ⟨_, rfl⟩
      rw [← hW0] at hdr ⊢
      have HK0 := Lib.hid (HK.out.thenBelow hdr)
      clear HK hdr hW0
      have hkl : k < l.length := by have := HN.out; omega
      obtain ⟨g, o, hAL, hat⟩ := HL.out.at_ (by omega)
      subst hAL
      obtain ⟨a, ha⟩ : ∃ a, a = l[k] := ⟨_, rfl⟩
      have hmem : a ∈ l := by rw [ha]; exact List.getElem_mem hkl
      have hat := hat k hkl
      rw [← ha] at hat
      obtain ⟨P0, hP0⟩ : ∃ P0 : Addr, P0 = ⟨g, o + k * 4, none⟩ := ⟨_, rfl⟩
      obtain ⟨P1, hP1⟩ : ∃ P1 : Addr, P1 = ⟨g, o + k * 4 + 1, none⟩ := ⟨_, rfl⟩
      have hadd : ∀ j, P0.add j = ⟨g, o + k * 4 + j, none⟩ := fun j => by rw [hP0]; unfold Addr.add; split <;> simp_all
      have HP0 : Hid ((⟨g, o + k * 4, none⟩ : Addr) = P0) := hP0.symm
      have HP1 : Hid ((⟨P0.block, P0.off + 1, none⟩ : Addr) = P1) := by show _ = _; rw [hP0, hP1]
      obtain ⟨Cs, hCs⟩ : ∃ Cs, Cs = a.cells.toArray := ⟨_, rfl⟩
      have HSZ : Hid ((Try.prog.info? 46).map (·.size) = some Cs.size) := by show _ = _; rw [hCs]; exact sz_act
      have HLD : Hid (∀ j v, Cs.toList[j]? = some v → W0.cell? (P0.add j) = some v) := fun j v hv => by
        rw [hadd, ← hat j v (by rw [← hv, hCs])]
        exact World.cell?_of_block (w := w) (HK0.out.below.block g (block_lt_of_cell (hat j v (by rw [← hv, hCs]))))
      obtain ⟨at_, hat_⟩ : ∃ z, z = a.at_ := ⟨_, rfl⟩
      have HA1 : Hid (∀ W' : World, Below w.heap.size w W' → W'.cell? P1 = some (.int .i64 at_)) := fun W' hb => by
        have h1 := hat 1 (.int .i64 a.at_) rfl
        rw [hP1, hat_, ← h1]
        exact World.cell?_of_block (w := w) (hb.block g (block_lt_of_cell h1))
      obtain ⟨PP, hPP⟩ : ∃ PP, PP = Acts w q r (k + 1) := ⟨_, rfl⟩
      have hdo := acts_does HL.out HK0.out hk40 a hmem
      rw [← hCs, ← hPP] at hdo
      have HDO := Lib.hid hdo
      have HPP := Lib.hid hPP
      clear hdo hPP hat hadd ha hmem hP0 hP1 hCs hat_ hkl
      refine phaseJ (fun _ => True) (trivial) (fun | 0 => some (.pointer (some ⟨q, 0, none⟩)) | 1 => some (.pointer (some ⟨r, 0, none⟩)) | 2 => some (.slice (some ⟨g, o, none⟩) N lc) | 3 => some (.int .i64 (k : Int)) | 4 => some (.pointer (some P0)) | 5 => some (.agg Cs) | 7 => some (.bool false) | 8 => some (.bool false) | _ => none) (PA W0 PP) 0 9 105 (by decide) rfl (by kernel_rfl) (by kernel_rfl) (PA.init W0 PP) ?_ ?_
      · intro i hmi hi d x a w' hb hsame hanc hdi hdesc hG
        have b2 : a.tmps.getD 2 undef = .slice (some ⟨g, o, none⟩) N lc := by rw [Array.getD_eq_getD_getElem?, hsame 2 (by decide +kernel)]; rfl
        have e2 := (Array.getD_eq_getD_getElem? (xs := a.tmps) (i := 2) (d := undef)).symm.trans b2
        have b7 : a.tmps.getD 7 undef = .pointer (some ⟨q, 0, none⟩) := by rw [Array.getD_eq_getD_getElem?, hsame 7 (by decide +kernel)]; rfl
        have e7 := (Array.getD_eq_getD_getElem? (xs := a.tmps) (i := 7) (d := undef)).symm.trans b7
        have b8 : a.tmps.getD 8 undef = .pointer (some ⟨r, 0, none⟩) := by rw [Array.getD_eq_getD_getElem?, hsame 8 (by decide +kernel)]; rfl
        have e8 := (Array.getD_eq_getD_getElem? (xs := a.tmps) (i := 8) (d := undef)).symm.trans b8
        have b9 : a.tmps.getD 9 undef = .int .i64 (k : Int) := by rw [Array.getD_eq_getD_getElem?, hsame 9 (by decide +kernel)]; rfl
        have e9 := (Array.getD_eq_getD_getElem? (xs := a.tmps) (i := 9) (d := undef)).symm.trans b9
        match i, hmi, hi with
        | 0, _, _ =>
          exact pstep_det rfl (wanted_none rfl) rfl rfl (by simp [go_sem, b7, e7]) (hG.other (by decide)) hb
        | 1, _, _ =>
          exact pstep_det rfl (wanted_none rfl) rfl rfl (by simp [go_sem, b8, e8]) (hG.other (by decide)) hb
        | 2, _, _ =>
          exact pstep_det rfl (wanted_none rfl) rfl rfl (by simp [go_sem, b2, e2]) (hG.other (by decide)) hb
        | 3, _, _ =>
          exact pstep_det rfl (wanted_none rfl) rfl rfl (by simp [go_sem, b9, e9]) (hG.other (by decide)) hb
        | 4, _, _ =>
          have t47 : a.tmps.getD 47 undef = .slice (some ⟨g, o, none⟩) N lc := (show a.tmps.getD 47 undef = x 2 from (hanc 2 (by decide +kernel)).2.1).trans ((hanc 2 (by decide +kernel)).2.2 _ rfl)
          have u47 := (Array.getD_eq_getD_getElem? (xs := a.tmps) (i := 47) (d := undef)).symm.trans t47
          have t48 : a.tmps.getD 48 undef = .int .i64 (k : Int) := (show a.tmps.getD 48 undef = x 3 from (hanc 3 (by decide +kernel)).2.1).trans ((hanc 3 (by decide +kernel)).2.2 _ rfl)
          have u48 := (Array.getD_eq_getD_getElem? (xs := a.tmps) (i := 48) (d := undef)).symm.trans t48
          exact pstep_det rfl (wanted_none rfl) rfl rfl (by simp [go_sem, t47, u47, t48, u48, hlt, HP0.out]) (hG.other (by decide)) hb
        | 5, _, _ =>
          have t49 : a.tmps.getD 49 undef = .pointer (some P0) := (show a.tmps.getD 49 undef = x 4 from (hanc 4 (by decide +kernel)).2.1).trans ((hanc 4 (by decide +kernel)).2.2 _ rfl)
          have u49 := (Array.getD_eq_getD_getElem? (xs := a.tmps) (i := 49) (d := undef)).symm.trans t49
          have hw : w' = W0 := hG.pre (hdesc 6 (by decide) (by decide) (by decide +kernel))
          exact pstep_run (v := .agg Cs) (w' := w') rfl (wanted_none rfl) rfl (fun c e => by cases e; rfl) (exec_load_at _ (.tmp 49) rfl P0 t49 Cs Try.underlying46 rfl HSZ.out (by rw [hw]; exact HLD.out)) (hG.other (by decide)) hb
        | 6, _, _ =>
          have t45 : a.tmps.getD 45 undef = .pointer (some ⟨q, 0, none⟩) := (show a.tmps.getD 45 undef = x 0 from (hanc 0 (by decide +kernel)).2.1).trans ((hanc 0 (by decide +kernel)).2.2 _ rfl)
          have u45 := (Array.getD_eq_getD_getElem? (xs := a.tmps) (i := 45) (d := undef)).symm.trans t45
          have t46 : a.tmps.getD 46 undef = .pointer (some ⟨r, 0, none⟩) := (show a.tmps.getD 46 undef = x 1 from (hanc 1 (by decide +kernel)).2.1).trans ((hanc 1 (by decide +kernel)).2.2 _ rfl)
          have u46 := (Array.getD_eq_getD_getElem? (xs := a.tmps) (i := 46) (d := undef)).symm.trans t46
          have t50 : a.tmps.getD 50 undef = .agg Cs := (show a.tmps.getD 50 undef = x 5 from (hanc 5 (by decide +kernel)).2.1).trans ((hanc 5 (by decide +kernel)).2.2 _ rfl)
          have u50 := (Array.getD_eq_getD_getElem? (xs := a.tmps) (i := 50) (d := undef)).symm.trans t50
          have hw : w' = W0 := hG.pre hdi
          have hcc := HDO.out
          rw [← hw] at hcc
          refine pstep_call rfl (wanted_none rfl) rfl (by simp [go_sem, t45, u45, t46, u46, t50, u50]) hcc ?_
          rintro e w8 ⟨rfl, hp⟩
          exact ⟨_, rfl, nofun, hG.call hp, trivial⟩
        | 7, _, _ =>
          have t51 : a.tmps.getD 51 undef = x 6 := (hanc 6 (by decide +kernel)).2.1
          have d6 : d 6 = true := (hanc 6 (by decide +kernel)).1
          have u51 := (Array.getD_eq_getD_getElem? (xs := a.tmps) (i := 51) (d := undef)).symm.trans t51
          have e6 := (hG.post d6).1
          rw [e6] at t51 u51
          exact pstep_det rfl (wanted_none rfl) rfl rfl (by simp [go_sem, t51, u51]) (hG.other (by decide)) hb
        | 8, _, _ =>
          have t52 : a.tmps.getD 52 undef = .bool false := (show a.tmps.getD 52 undef = x 7 from (hanc 7 (by decide +kernel)).2.1).trans ((hanc 7 (by decide +kernel)).2.2 _ rfl)
          have u52 := (Array.getD_eq_getD_getElem? (xs := a.tmps) (i := 52) (d := undef)).symm.trans t52
          exact pstep_det rfl (wanted_none rfl) rfl rfl (by simp [go_sem, t52, u52]) (hG.other (by decide)) hb
        | (k + 9), _, h => exact absurd h (by omega)
      intro d x w' hb hall hG
      have z0 := (hall 0 (by omega) (by omega)).2 _ rfl
      have z1 := (hall 1 (by omega) (by omega)).2 _ rfl
      have z2 := (hall 2 (by omega) (by omega)).2 _ rfl
      have z3 := (hall 3 (by omega) (by omega)).2 _ rfl
      have z4 := (hall 4 (by omega) (by omega)).2 _ rfl
      have z5 := (hall 5 (by omega) (by omega)).2 _ rfl
      have z7 := (hall 7 (by omega) (by omega)).2 _ rfl
      have z8 := (hall 8 (by omega) (by omega)).2 _ rfl
      simp only [pfill, rdst, Nat.reduceAdd, List.getElem?_toArray, List.getElem?_cons_zero, List.getElem?_cons_succ, Option.bind_some, Act.put, List.setIfInBounds_toArray, List.set_cons_zero, List.set_cons_succ, List.drop_succ_cons, List.drop_zero]
      rw [z0, z1, z2, z3, z4, z5, z7, z8]
      clear z0 z1 z2 z3 z4 z5 z7 z8
      have hp := (hG.post (hall 6 (by omega) (by omega)).1).2
      rw [HPP.out] at hp
      have HK1 := Lib.hid hp
      clear hp hG hall hb HDO HLD HSZ HPP HK0
      obtain ⟨n1, dd, tA, tc, bs, hpe, hde, c3, c7, hdb, hrb⟩ := acts_answer HK1.out
      obtain ⟨W1, hW1⟩ : ∃ W1, W1 = w' := ⟨_, rfl⟩
      rw [← hW1] at hpe hde c3 c7 hdb hrb HK1
      have HPE := Lib.hid hpe
      have HDE := Lib.hid hde
      have HDB := Lib.hid (hdb at_)
      have HRB := Lib.hid (hrb at_)
      obtain ⟨Xs, hXs⟩ : ∃ Xs, Xs = bs at_ := ⟨_, rfl⟩
      rw [← hXs] at HDB HRB
      obtain ⟨Z, hZ⟩ : ∃ Z, Z = strOfNums Xs := ⟨_, rfl⟩
      have HZ := Lib.hid hZ
      have HAT : Hid (∀ W' : World, Below W1.heap.size W1 W' → W'.cell? P1 = some (.int .i64 at_)) := fun W' hb => HA1.out W' (HK1.out.below.trans (hb.mono HK1.out.below.size))
      clear hpe hde hdb hrb hXs hZ
      rw [show w' = W1 from hW1.symm]
      clear hW1
      refine phaseJ (fun _ => True) (trivial) (fun | 9 => some (.pointer (some ⟨q, 0, none⟩)) | 10 => some (.int .i64 (n1 : Int)) | 11 => some (.pointer (some ⟨r, 0, none⟩)) | 12 => some (.pointer (some ⟨r, 0, none⟩)) | 13 => some (.pointer (some ⟨r, 3, none⟩)) | 14 => some (.slice tA n1 tc) | 15 => some (.int .i64 (n1 : Int)) | 16 => some (.bool false) | 17 => some (.bool false) | 18 => some (.bool false) | 19 => some (.pointer (some ⟨q, 0, none⟩)) | 20 => some (.bool dd) | 21 => some (.pointer (some ⟨r, 0, none⟩)) | 22 => some (.pointer (some ⟨r, 0, none⟩)) | 23 => some (.pointer (some ⟨r, 7, none⟩)) | 24 => some (.bool dd) | 25 => some (.bool false) | 26 => some (.bool false) | 27 => some (.bool false) | _ => none) (fun _ _ w => w = W1) 9 19 105 (by decide) rfl (by kernel_rfl) (by kernel_rfl) (rfl) ?_ ?_
      · intro i hmi hi d x a w' hb hsame hanc hdi hdesc hG
        have b7 : a.tmps.getD 7 undef = .pointer (some ⟨q, 0, none⟩) := by rw [Array.getD_eq_getD_getElem?, hsame 7 (by decide +kernel)]; rfl
        have e7 := (Array.getD_eq_getD_getElem? (xs := a.tmps) (i := 7) (d := undef)).symm.trans b7
        have b8 : a.tmps.getD 8 undef = .pointer (some ⟨r, 0, none⟩) := by rw [Array.getD_eq_getD_getElem?, hsame 8 (by decide +kernel)]; rfl
        have e8 := (Array.getD_eq_getD_getElem? (xs := a.tmps) (i := 8) (d := undef)).symm.trans b8
        have b53 : a.tmps.getD 53 undef = .bool false := by rw [Array.getD_eq_getD_getElem?, hsame 53 (by decide +kernel)]; rfl
        have e53 := (Array.getD_eq_getD_getElem? (xs := a.tmps) (i := 53) (d := undef)).symm.trans b53
        match i, hmi, hi with
        | 0, h, _ => exact absurd h (by omega)
        | 1, h, _ => exact absurd h (by omega)
        | 2, h, _ => exact absurd h (by omega)
        | 3, h, _ => exact absurd h (by omega)
        | 4, h, _ => exact absurd h (by omega)
        | 5, h, _ => exact absurd h (by omega)
        | 6, h, _ => exact absurd h (by omega)
        | 7, h, _ => exact absurd h (by omega)
        | 8, h, _ => exact absurd h (by omega)
        | 9, _, _ =>
          exact pstep_det rfl (wanted_slot rfl rfl b53) rfl rfl (by simp [go_sem, b7, e7, b53, e53]) (hG) hb
        | 10, _, _ =>
          have t54 : a.tmps.getD 54 undef = .pointer (some ⟨q, 0, none⟩) := (show a.tmps.getD 54 undef = x 9 from (hanc 9 (by decide +kernel)).2.1).trans ((hanc 9 (by decide +kernel)).2.2 _ rfl)
          have u54 := (Array.getD_eq_getD_getElem? (xs := a.tmps) (i := 54) (d := undef)).symm.trans t54
          have hcc := HPE.out
          rw [← hG] at hcc
          refine pstep_call rfl (wanted_slot rfl rfl b53) rfl (by simp [go_sem, t54, u54, b53, e53]) hcc ?_
          rintro e w8 ⟨rfl, h8⟩
          exact ⟨_, rfl, (fun c e => by cases e; rfl), h8.trans hG, trivial⟩
        | 11, _, _ =>
          exact pstep_det rfl (wanted_slot rfl rfl b53) rfl rfl (by simp [go_sem, b8, e8, b53, e53]) (hG) hb
        | 12, _, _ =>
          have t56 : a.tmps.getD 56 undef = .pointer (some ⟨r, 0, none⟩) := (show a.tmps.getD 56 undef = x 11 from (hanc 11 (by decide +kernel)).2.1).trans ((hanc 11 (by decide +kernel)).2.2 _ rfl)
          have u56 := (Array.getD_eq_getD_getElem? (xs := a.tmps) (i := 56) (d := undef)).symm.trans t56
          exact pstep_det rfl (wanted_slot rfl rfl b53) rfl rfl (by simp [go_sem, t56, u56, b53, e53]) (hG) hb
        | 13, _, _ =>
          have t57 : a.tmps.getD 57 undef = .pointer (some ⟨r, 0, none⟩) := (show a.tmps.getD 57 undef = x 12 from (hanc 12 (by decide +kernel)).2.1).trans ((hanc 12 (by decide +kernel)).2.2 _ rfl)
          have u57 := (Array.getD_eq_getD_getElem? (xs := a.tmps) (i := 57) (d := undef)).symm.trans t57
          exact pstep_det rfl (wanted_slot rfl rfl b53) rfl rfl (by simp [go_sem, t57, u57, b53, e53]) (hG) hb
        | 14, _, _ =>
          have t58 : a.tmps.getD 58 undef = .pointer (some ⟨r, 3, none⟩) := (show a.tmps.getD 58 undef = x 13 from (hanc 13 (by decide +kernel)).2.1).trans ((hanc 13 (by decide +kernel)).2.2 _ rfl)
          have u58 := (Array.getD_eq_getD_getElem? (xs := a.tmps) (i := 58) (d := undef)).symm.trans t58
          exact pstep_det rfl (wanted_slot rfl rfl b53) rfl rfl (by simp [go_sem, t58, u58, b53, e53, hG, c3]) (hG) hb
        | 15, _, _ =>
          have t59 : a.tmps.getD 59 undef = .slice tA n1 tc := (show a.tmps.getD 59 undef = x 14 from (hanc 14 (by decide +kernel)).2.1).trans ((hanc 14 (by decide +kernel)).2.2 _ rfl)
          have u59 := (Array.getD_eq_getD_getElem? (xs := a.tmps) (i := 59) (d := undef)).symm.trans t59
          exact pstep_det rfl (wanted_slot rfl rfl b53) rfl rfl (by simp [go_sem, t59, u59, b53, e53]) (hG) hb
        | 16, _, _ =>
          have t55 : a.tmps.getD 55 undef = .int .i64 (n1 : Int) := (show a.tmps.getD 55 undef = x 10 from (hanc 10 (by decide +kernel)).2.1).trans ((hanc 10 (by decide +kernel)).2.2 _ rfl)
          have u55 := (Array.getD_eq_getD_getElem? (xs := a.tmps) (i := 55) (d := undef)).symm.trans t55
          have t60 : a.tmps.getD 60 undef = .int .i64 (n1 : Int) := (show a.tmps.getD 60 undef = x 15 from (hanc 15 (by decide +kernel)).2.1).trans ((hanc 15 (by decide +kernel)).2.2 _ rfl)
          have u60 := (Array.getD_eq_getD_getElem? (xs := a.tmps) (i := 60) (d := undef)).symm.trans t60
          exact pstep_det rfl (wanted_slot rfl rfl b53) rfl rfl (by simp [go_sem, t55, u55, t60, u60, b53, e53]) (hG) hb
        | 17, _, _ =>
          have t61 : a.tmps.getD 61 undef = .bool false := (show a.tmps.getD 61 undef = x 16 from (hanc 16 (by decide +kernel)).2.1).trans ((hanc 16 (by decide +kernel)).2.2 _ rfl)
          have u61 := (Array.getD_eq_getD_getElem? (xs := a.tmps) (i := 61) (d := undef)).symm.trans t61
          exact pstep_det rfl (wanted_none rfl) rfl rfl (by simp [go_sem, b53, e53, t61, u61]) (hG) hb
        | 18, _, _ =>
          have t62 : a.tmps.getD 62 undef = .bool false := (show a.tmps.getD 62 undef = x 17 from (hanc 17 (by decide +kernel)).2.1).trans ((hanc 17 (by decide +kernel)).2.2 _ rfl)
          have u62 := (Array.getD_eq_getD_getElem? (xs := a.tmps) (i := 62) (d := undef)).symm.trans t62
          exact pstep_det rfl (wanted_none rfl) rfl rfl (by simp [go_sem, t62, u62]) (hG) hb
        | 19, _, _ =>
          have t63 : a.tmps.getD 63 undef = .bool false := (show a.tmps.getD 63 undef = x 18 from (hanc 18 (by decide +kernel)).2.1).trans ((hanc 18 (by decide +kernel)).2.2 _ rfl)
          have u63 := (Array.getD_eq_getD_getElem? (xs := a.tmps) (i := 63) (d := undef)).symm.trans t63
          exact pstep_det rfl (wanted_slot rfl rfl t63) rfl rfl (by simp [go_sem, b7, e7, t63, u63]) (hG) hb
        | 20, _, _ =>
          have t64 : a.tmps.getD 64 undef = .pointer (some ⟨q, 0, none⟩) := (show a.tmps.getD 64 undef = x 19 from (hanc 19 (by decide +kernel)).2.1).trans ((hanc 19 (by decide +kernel)).2.2 _ rfl)
          have u64 := (Array.getD_eq_getD_getElem? (xs := a.tmps) (i := 64) (d := undef)).symm.trans t64
          have t63 : a.tmps.getD 63 undef = .bool false := (show a.tmps.getD 63 undef = x 18 from (hanc 18 (by decide +kernel)).2.1).trans ((hanc 18 (by decide +kernel)).2.2 _ rfl)
          have u63 := (Array.getD_eq_getD_getElem? (xs := a.tmps) (i := 63) (d := undef)).symm.trans t63
          have hcc := HDE.out
          rw [← hG] at hcc
          refine pstep_call rfl (wanted_slot rfl rfl t63) rfl (by simp [go_sem, t64, u64, t63, u63]) hcc ?_
          rintro e w8 ⟨rfl, h8⟩
          exact ⟨_, rfl, (fun c e => by cases e; rfl), h8.trans hG, trivial⟩
        | 21, _, _ =>
          have t63 : a.tmps.getD 63 undef = .bool false := (show a.tmps.getD 63 undef = x 18 from (hanc 18 (by decide +kernel)).2.1).trans ((hanc 18 (by decide +kernel)).2.2 _ rfl)
          have u63 := (Array.getD_eq_getD_getElem? (xs := a.tmps) (i := 63) (d := undef)).symm.trans t63
          exact pstep_det rfl (wanted_slot rfl rfl t63) rfl rfl (by simp [go_sem, b8, e8, t63, u63]) (hG) hb
        | 22, _, _ =>
          have t66 : a.tmps.getD 66 undef = .pointer (some ⟨r, 0, none⟩) := (show a.tmps.getD 66 undef = x 21 from (hanc 21 (by decide +kernel)).2.1).trans ((hanc 21 (by decide +kernel)).2.2 _ rfl)
          have u66 := (Array.getD_eq_getD_getElem? (xs := a.tmps) (i := 66) (d := undef)).symm.trans t66
          have t63 : a.tmps.getD 63 undef = .bool false := (show a.tmps.getD 63 undef = x 18 from (hanc 18 (by decide +kernel)).2.1).trans ((hanc 18 (by decide +kernel)).2.2 _ rfl)
          have u63 := (Array.getD_eq_getD_getElem? (xs := a.tmps) (i := 63) (d := undef)).symm.trans t63
          exact pstep_det rfl (wanted_slot rfl rfl t63) rfl rfl (by simp [go_sem, t66, u66, t63, u63]) (hG) hb
        | 23, _, _ =>
          have t67 : a.tmps.getD 67 undef = .pointer (some ⟨r, 0, none⟩) := (show a.tmps.getD 67 undef = x 22 from (hanc 22 (by decide +kernel)).2.1).trans ((hanc 22 (by decide +kernel)).2.2 _ rfl)
          have u67 := (Array.getD_eq_getD_getElem? (xs := a.tmps) (i := 67) (d := undef)).symm.trans t67
          have t63 : a.tmps.getD 63 undef = .bool false := (show a.tmps.getD 63 undef = x 18 from (hanc 18 (by decide +kernel)).2.1).trans ((hanc 18 (by decide +kernel)).2.2 _ rfl)
          have u63 := (Array.getD_eq_getD_getElem? (xs := a.tmps) (i := 63) (d := undef)).symm.trans t63
          exact pstep_det rfl (wanted_slot rfl rfl t63) rfl rfl (by simp [go_sem, t67, u67, t63, u63]) (hG) hb
        | 24, _, _ =>
          have t68 : a.tmps.getD 68 undef = .pointer (some ⟨r, 7, none⟩) := (show a.tmps.getD 68 undef = x 23 from (hanc 23 (by decide +kernel)).2.1).trans ((hanc 23 (by decide +kernel)).2.2 _ rfl)
          have u68 := (Array.getD_eq_getD_getElem? (xs := a.tmps) (i := 68) (d := undef)).symm.trans t68
          have t63 : a.tmps.getD 63 undef = .bool false := (show a.tmps.getD 63 undef = x 18 from (hanc 18 (by decide +kernel)).2.1).trans ((hanc 18 (by decide +kernel)).2.2 _ rfl)
          have u63 := (Array.getD_eq_getD_getElem? (xs := a.tmps) (i := 63) (d := undef)).symm.trans t63
          exact pstep_det rfl (wanted_slot rfl rfl t63) rfl rfl (by simp [go_sem, t68, u68, t63, u63, hG, c7]) (hG) hb
        | 25, _, _ =>
          have t65 : a.tmps.getD 65 undef = .bool dd := (show a.tmps.getD 65 undef = x 20 from (hanc 20 (by decide +kernel)).2.1).trans ((hanc 20 (by decide +kernel)).2.2 _ rfl)
          have u65 := (Array.getD_eq_getD_getElem? (xs := a.tmps) (i := 65) (d := undef)).symm.trans t65
          have t69 : a.tmps.getD 69 undef = .bool dd := (show a.tmps.getD 69 undef = x 24 from (hanc 24 (by decide +kernel)).2.1).trans ((hanc 24 (by decide +kernel)).2.2 _ rfl)
          have u69 := (Array.getD_eq_getD_getElem? (xs := a.tmps) (i := 69) (d := undef)).symm.trans t69
          have t63 : a.tmps.getD 63 undef = .bool false := (show a.tmps.getD 63 undef = x 18 from (hanc 18 (by decide +kernel)).2.1).trans ((hanc 18 (by decide +kernel)).2.2 _ rfl)
          have u63 := (Array.getD_eq_getD_getElem? (xs := a.tmps) (i := 63) (d := undef)).symm.trans t63
          exact pstep_det rfl (wanted_slot rfl rfl t63) rfl rfl (by simp [go_sem, t65, u65, t69, u69, t63, u63]) (hG) hb
        | 26, _, _ =>
          have t63 : a.tmps.getD 63 undef = .bool false := (show a.tmps.getD 63 undef = x 18 from (hanc 18 (by decide +kernel)).2.1).trans ((hanc 18 (by decide +kernel)).2.2 _ rfl)
          have u63 := (Array.getD_eq_getD_getElem? (xs := a.tmps) (i := 63) (d := undef)).symm.trans t63
          have t70 : a.tmps.getD 70 undef = .bool false := (show a.tmps.getD 70 undef = x 25 from (hanc 25 (by decide +kernel)).2.1).trans ((hanc 25 (by decide +kernel)).2.2 _ rfl)
          have u70 := (Array.getD_eq_getD_getElem? (xs := a.tmps) (i := 70) (d := undef)).symm.trans t70
          exact pstep_det rfl (wanted_none rfl) rfl rfl (by simp [go_sem, t63, u63, t70, u70]) (hG) hb
        | 27, _, _ =>
          have t71 : a.tmps.getD 71 undef = .bool false := (show a.tmps.getD 71 undef = x 26 from (hanc 26 (by decide +kernel)).2.1).trans ((hanc 26 (by decide +kernel)).2.2 _ rfl)
          have u71 := (Array.getD_eq_getD_getElem? (xs := a.tmps) (i := 71) (d := undef)).symm.trans t71
          exact pstep_det rfl (wanted_none rfl) rfl rfl (by simp [go_sem, t71, u71]) (hG) hb
        | (k + 28), _, h => exact absurd h (by omega)
      intro d x w' hb hall hG
      have z9 := (hall 9 (by omega) (by omega)).2 _ rfl
      have z10 := (hall 10 (by omega) (by omega)).2 _ rfl
      have z11 := (hall 11 (by omega) (by omega)).2 _ rfl
      have z12 := (hall 12 (by omega) (by omega)).2 _ rfl
      have z13 := (hall 13 (by omega) (by omega)).2 _ rfl
      have z14 := (hall 14 (by omega) (by omega)).2 _ rfl
      have z15 := (hall 15 (by omega) (by omega)).2 _ rfl
      have z16 := (hall 16 (by omega) (by omega)).2 _ rfl
      have z17 := (hall 17 (by omega) (by omega)).2 _ rfl
      have z18 := (hall 18 (by omega) (by omega)).2 _ rfl
      have z19 := (hall 19 (by omega) (by omega)).2 _ rfl
      have z20 := (hall 20 (by omega) (by omega)).2 _ rfl
      have z21 := (hall 21 (by omega) (by omega)).2 _ rfl
      have z22 := (hall 22 (by omega) (by omega)).2 _ rfl
      have z23 := (hall 23 (by omega) (by omega)).2 _ rfl
      have z24 := (hall 24 (by omega) (by omega)).2 _ rfl
      have z25 := (hall 25 (by omega) (by omega)).2 _ rfl
      have z26 := (hall 26 (by omega) (by omega)).2 _ rfl
      have z27 := (hall 27 (by omega) (by omega)).2 _ rfl
      simp only [pfill, rdst, Nat.reduceAdd, List.getElem?_toArray, List.getElem?_cons_zero, List.getElem?_cons_succ, Option.bind_some, Act.put, List.setIfInBounds_toArray, List.set_cons_zero, List.set_cons_succ, List.drop_succ_cons, List.drop_zero]
      rw [z9, z10, z11, z12, z13, z14, z15, z16, z17, z18, z19, z20, z21, z22, z23, z24, z25, z26, z27]
      clear z9 z10 z11 z12 z13 z14 z15 z16 z17 z18 z19 z20 z21 z22 z23 z24 z25 z26 z27
      have hG := hG.symm
      subst hG
      clear hall hb c3 c7 HPE HDE
      refine phaseJ (fun _ => True) (trivial) (fun | 28 => some (.pointer (some ⟨q, 0, none⟩)) | 29 => some (.slice (some ⟨g, o, none⟩) N lc) | 30 => some (.int .i64 (k : Int)) | 31 => some (.pointer (some P0)) | 32 => some (.pointer (some P1)) | 33 => some (.int .i64 at_) | 35 => some (.string Z) | 36 => some (.pointer (some ⟨r, 0, none⟩)) | 37 => some (.slice (some ⟨g, o, none⟩) N lc) | 38 => some (.int .i64 (k : Int)) | 39 => some (.pointer (some P0)) | 40 => some (.pointer (some P1)) | 41 => some (.int .i64 at_) | 43 => some (.string Z) | 44 => some (.bool false) | 45 => some (.bool false) | _ => none) (PB W1 Xs 34 42) 28 18 105 (by decide) rfl (by kernel_rfl) (by kernel_rfl) (PB.init W1 Xs 34 42) ?_ ?_
      · intro i hmi hi d x a w' hb hsame hanc hdi hdesc hG
        have b2 : a.tmps.getD 2 undef = .slice (some ⟨g, o, none⟩) N lc := by rw [Array.getD_eq_getD_getElem?, hsame 2 (by decide +kernel)]; rfl
        have e2 := (Array.getD_eq_getD_getElem? (xs := a.tmps) (i := 2) (d := undef)).symm.trans b2
        have b7 : a.tmps.getD 7 undef = .pointer (some ⟨q, 0, none⟩) := by rw [Array.getD_eq_getD_getElem?, hsame 7 (by decide +kernel)]; rfl
        have e7 := (Array.getD_eq_getD_getElem? (xs := a.tmps) (i := 7) (d := undef)).symm.trans b7
        have b8 : a.tmps.getD 8 undef = .pointer (some ⟨r, 0, none⟩) := by rw [Array.getD_eq_getD_getElem?, hsame 8 (by decide +kernel)]; rfl
        have e8 := (Array.getD_eq_getD_getElem? (xs := a.tmps) (i := 8) (d := undef)).symm.trans b8
        have b9 : a.tmps.getD 9 undef = .int .i64 (k : Int) := by rw [Array.getD_eq_getD_getElem?, hsame 9 (by decide +kernel)]; rfl
        have e9 := (Array.getD_eq_getD_getElem? (xs := a.tmps) (i := 9) (d := undef)).symm.trans b9
        have b72 : a.tmps.getD 72 undef = .bool false := by rw [Array.getD_eq_getD_getElem?, hsame 72 (by decide +kernel)]; rfl
        have e72 := (Array.getD_eq_getD_getElem? (xs := a.tmps) (i := 72) (d := undef)).symm.trans b72
        match i, hmi, hi with
        | 0, h, _ => exact absurd h (by omega)
        | 1, h, _ => exact absurd h (by omega)
        | 2, h, _ => exact absurd h (by omega)
        | 3, h, _ => exact absurd h (by omega)
        | 4, h, _ => exact absurd h (by omega)
        | 5, h, _ => exact absurd h (by omega)
        | 6, h, _ => exact absurd h (by omega)
        | 7, h, _ => exact absurd h (by omega)
        | 8, h, _ => exact absurd h (by omega)
        | 9, h, _ => exact absurd h (by omega)
        | 10, h, _ => exact absurd h (by omega)
        | 11, h, _ => exact absurd h (by omega)
        | 12, h, _ => exact absurd h (by omega)
        | 13, h, _ => exact absurd h (by omega)
        | 14, h, _ => exact absurd h (by omega)
        | 15, h, _ => exact absurd h (by omega)
        | 16, h, _ => exact absurd h (by omega)
        | 17, h, _ => exact absurd h (by omega)
        | 18, h, _ => exact absurd h (by omega)
        | 19, h, _ => exact absurd h (by omega)
        | 20, h, _ => exact absurd h (by omega)
        | 21, h, _ => exact absurd h (by omega)
        | 22, h, _ => exact absurd h (by omega)
        | 23, h, _ => exact absurd h (by omega)
        | 24, h, _ => exact absurd h (by omega)
        | 25, h, _ => exact absurd h (by omega)
        | 26, h, _ => exact absurd h (by omega)
        | 27, h, _ => exact absurd h (by omega)
        | 28, _, _ =>
          exact pstep_det rfl (wanted_slot rfl rfl b72) rfl rfl (by simp [go_sem, b7, e7, b72, e72]) (hG.other (by decide)) hb
        | 29, _, _ =>
          exact pstep_det rfl (wanted_slot rfl rfl b72) rfl rfl (by simp [go_sem, b2, e2, b72, e72]) (hG.other (by decide)) hb
        | 30, _, _ =>
          exact pstep_det rfl (wanted_slot rfl rfl b72) rfl rfl (by simp [go_sem, b9, e9, b72, e72]) (hG.other (by decide)) hb
        | 31, _, _ =>
          have t74 : a.tmps.getD 74 undef = .slice (some ⟨g, o, none⟩) N lc := (show a.tmps.getD 74 undef = x 29 from (hanc 29 (by decide +kernel)).2.1).trans ((hanc 29 (by decide +kernel)).2.2 _ rfl)
          have u74 := (Array.getD_eq_getD_getElem? (xs := a.tmps) (i := 74) (d := undef)).symm.trans t74
          have t75 : a.tmps.getD 75 undef = .int .i64 (k : Int) := (show a.tmps.getD 75 undef = x 30 from (hanc 30 (by decide +kernel)).2.1).trans ((hanc 30 (by decide +kernel)).2.2 _ rfl)
          have u75 := (Array.getD_eq_getD_getElem? (xs := a.tmps) (i := 75) (d := undef)).symm.trans t75
          exact pstep_det rfl (wanted_slot rfl rfl b72) rfl rfl (by simp [go_sem, t74, u74, t75, u75, b72, e72, hlt, HP0.out]) (hG.other (by decide)) hb
        | 32, _, _ =>
          have t76 : a.tmps.getD 76 undef = .pointer (some P0) := (show a.tmps.getD 76 undef = x 31 from (hanc 31 (by decide +kernel)).2.1).trans ((hanc 31 (by decide +kernel)).2.2 _ rfl)
          have u76 := (Array.getD_eq_getD_getElem? (xs := a.tmps) (i := 76) (d := undef)).symm.trans t76
          exact pstep_det rfl (wanted_slot rfl rfl b72) rfl rfl (by simp [go_sem, t76, u76, b72, e72, HP1.out]) (hG.other (by decide)) hb
        | 33, _, _ =>
          have t77 : a.tmps.getD 77 undef = .pointer (some P1) := (show a.tmps.getD 77 undef = x 32 from (hanc 32 (by decide +kernel)).2.1).trans ((hanc 32 (by decide +kernel)).2.2 _ rfl)
          have u77 := (Array.getD_eq_getD_getElem? (xs := a.tmps) (i := 77) (d := undef)).symm.trans t77
          exact pstep_det rfl (wanted_slot rfl rfl b72) rfl rfl (by simp [go_sem, t77, u77, b72, e72, HAT.out w' hG.below]) (hG.other (by decide)) hb
        | 34, _, _ =>
          have t73 : a.tmps.getD 73 undef = .pointer (some ⟨q, 0, none⟩) := (show a.tmps.getD 73 undef = x 28 from (hanc 28 (by decide +kernel)).2.1).trans ((hanc 28 (by decide +kernel)).2.2 _ rfl)
          have u73 := (Array.getD_eq_getD_getElem? (xs := a.tmps) (i := 73) (d := undef)).symm.trans t73
          have t78 : a.tmps.getD 78 undef = .int .i64 at_ := (show a.tmps.getD 78 undef = x 33 from (hanc 33 (by decide +kernel)).2.1).trans ((hanc 33 (by decide +kernel)).2.2 _ rfl)
          have u78 := (Array.getD_eq_getD_getElem? (xs := a.tmps) (i := 78) (d := undef)).symm.trans t78
          refine pstep_call rfl (wanted_slot rfl rfl b72) rfl (by simp [go_sem, t73, u73, t78, u78, b72, e72]) (HDB.out w' hG.below) ?_
          rintro e w8 ⟨v, rfl, hr, hbw, _⟩
          exact ⟨v, rfl, nofun, hG.call hr hbw, trivial⟩
        | 35, _, _ =>
          have t79 : a.tmps.getD 79 undef = x 34 := (hanc 34 (by decide +kernel)).2.1
          have d34 : d 34 = true := (hanc 34 (by decide +kernel)).1
          have u79 := (Array.getD_eq_getD_getElem? (xs := a.tmps) (i := 79) (d := undef)).symm.trans t79
          have hcv := conv_v (hG.ci d34)
          rw [← HZ.out] at hcv
          exact pstep_det rfl (wanted_slot rfl rfl b72) rfl rfl (by simp [go_sem, t79, u79, b72, e72, hcv]) (hG.other (by decide)) hb
        | 36, _, _ =>
          exact pstep_det rfl (wanted_slot rfl rfl b72) rfl rfl (by simp [go_sem, b8, e8, b72, e72]) (hG.other (by decide)) hb
        | 37, _, _ =>
          exact pstep_det rfl (wanted_slot rfl rfl b72) rfl rfl (by simp [go_sem, b2, e2, b72, e72]) (hG.other (by decide)) hb
        | 38, _, _ =>
          exact pstep_det rfl (wanted_slot rfl rfl b72) rfl rfl (by simp [go_sem, b9, e9, b72, e72]) (hG.other (by decide)) hb
        | 39, _, _ =>
          have t82 : a.tmps.getD 82 undef = .slice (some ⟨g, o, none⟩) N lc := (show a.tmps.getD 82 undef = x 37 from (hanc 37 (by decide +kernel)).2.1).trans ((hanc 37 (by decide +kernel)).2.2 _ rfl)
          have u82 := (Array.getD_eq_getD_getElem? (xs := a.tmps) (i := 82) (d := undef)).symm.trans t82
          have t83 : a.tmps.getD 83 undef = .int .i64 (k : Int) := (show a.tmps.getD 83 undef = x 38 from (hanc 38 (by decide +kernel)).2.1).trans ((hanc 38 (by decide +kernel)).2.2 _ rfl)
          have u83 := (Array.getD_eq_getD_getElem? (xs := a.tmps) (i := 83) (d := undef)).symm.trans t83
          exact pstep_det rfl (wanted_slot rfl rfl b72) rfl rfl (by simp [go_sem, t82, u82, t83, u83, b72, e72, hlt, HP0.out]) (hG.other (by decide)) hb
        | 40, _, _ =>
          have t84 : a.tmps.getD 84 undef = .pointer (some P0) := (show a.tmps.getD 84 undef = x 39 from (hanc 39 (by decide +kernel)).2.1).trans ((hanc 39 (by decide +kernel)).2.2 _ rfl)
          have u84 := (Array.getD_eq_getD_getElem? (xs := a.tmps) (i := 84) (d := undef)).symm.trans t84
          exact pstep_det rfl (wanted_slot rfl rfl b72) rfl rfl (by simp [go_sem, t84, u84, b72, e72, HP1.out]) (hG.other (by decide)) hb
        | 41, _, _ =>
          have t85 : a.tmps.getD 85 undef = .pointer (some P1) := (show a.tmps.getD 85 undef = x 40 from (hanc 40 (by decide +kernel)).2.1).trans ((hanc 40 (by decide +kernel)).2.2 _ rfl)
          have u85 := (Array.getD_eq_getD_getElem? (xs := a.tmps) (i := 85) (d := undef)).symm.trans t85
          exact pstep_det rfl (wanted_slot rfl rfl b72) rfl rfl (by simp [go_sem, t85, u85, b72, e72, HAT.out w' hG.below]) (hG.other (by decide)) hb
        | 42, _, _ =>
          have t81 : a.tmps.getD 81 undef = .pointer (some ⟨r, 0, none⟩) := (show a.tmps.getD 81 undef = x 36 from (hanc 36 (by decide +kernel)).2.1).trans ((hanc 36 (by decide +kernel)).2.2 _ rfl)
          have u81 := (Array.getD_eq_getD_getElem? (xs := a.tmps) (i := 81) (d := undef)).symm.trans t81
          have t86 : a.tmps.getD 86 undef = .int .i64 at_ := (show a.tmps.getD 86 undef = x 41 from (hanc 41 (by decide +kernel)).2.1).trans ((hanc 41 (by decide +kernel)).2.2 _ rfl)
          have u86 := (Array.getD_eq_getD_getElem? (xs := a.tmps) (i := 86) (d := undef)).symm.trans t86
          refine pstep_call rfl (wanted_slot rfl rfl b72) rfl (by simp [go_sem, t81, u81, t86, u86, b72, e72]) (HRB.out w' hG.below) ?_
          rintro e w8 ⟨v, rfl, hr, hbw⟩
          exact ⟨v, rfl, nofun, hG.call hr hbw, trivial⟩
        | 43, _, _ =>
          have t87 : a.tmps.getD 87 undef = x 42 := (hanc 42 (by decide +kernel)).2.1
          have d42 : d 42 = true := (hanc 42 (by decide +kernel)).1
          have u87 := (Array.getD_eq_getD_getElem? (xs := a.tmps) (i := 87) (d := undef)).symm.trans t87
          have hcv := conv_v (hG.cj d42)
          rw [← HZ.out] at hcv
          exact pstep_det rfl (wanted_slot rfl rfl b72) rfl rfl (by simp [go_sem, t87, u87, b72, e72, hcv]) (hG.other (by decide)) hb
        | 44, _, _ =>
          have t80 : a.tmps.getD 80 undef = .string Z := (show a.tmps.getD 80 undef = x 35 from (hanc 35 (by decide +kernel)).2.1).trans ((hanc 35 (by decide +kernel)).2.2 _ rfl)
          have u80 := (Array.getD_eq_getD_getElem? (xs := a.tmps) (i := 80) (d := undef)).symm.trans t80
          have t88 : a.tmps.getD 88 undef = .string Z := (show a.tmps.getD 88 undef = x 43 from (hanc 43 (by decide +kernel)).2.1).trans ((hanc 43 (by decide +kernel)).2.2 _ rfl)
          have u88 := (Array.getD_eq_getD_getElem? (xs := a.tmps) (i := 88) (d := undef)).symm.trans t88
          exact pstep_det rfl (wanted_slot rfl rfl b72) rfl rfl (by simp [go_sem, t80, u80, t88, u88, b72, e72]) (hG.other (by decide)) hb
        | 45, _, _ =>
          have t89 : a.tmps.getD 89 undef = .bool false := (show a.tmps.getD 89 undef = x 44 from (hanc 44 (by decide +kernel)).2.1).trans ((hanc 44 (by decide +kernel)).2.2 _ rfl)
          have u89 := (Array.getD_eq_getD_getElem? (xs := a.tmps) (i := 89) (d := undef)).symm.trans t89
          exact pstep_det rfl (wanted_none rfl) rfl rfl (by simp [go_sem, b72, e72, t89, u89]) (hG.other (by decide)) hb
        | (k + 46), _, h => exact absurd h (by omega)
      intro d x w' hb hall hG
      have z28 := (hall 28 (by omega) (by omega)).2 _ rfl
      have z29 := (hall 29 (by omega) (by omega)).2 _ rfl
      have z30 := (hall 30 (by omega) (by omega)).2 _ rfl
      have z31 := (hall 31 (by omega) (by omega)).2 _ rfl
      have z32 := (hall 32 (by omega) (by omega)).2 _ rfl
      have z33 := (hall 33 (by omega) (by omega)).2 _ rfl
      have z35 := (hall 35 (by omega) (by omega)).2 _ rfl
      have z36 := (hall 36 (by omega) (by omega)).2 _ rfl
      have z37 := (hall 37 (by omega) (by omega)).2 _ rfl
      have z38 := (hall 38 (by omega) (by omega)).2 _ rfl
      have z39 := (hall 39 (by omega) (by omega)).2 _ rfl
      have z40 := (hall 40 (by omega) (by omega)).2 _ rfl
      have z41 := (hall 41 (by omega) (by omega)).2 _ rfl
      have z43 := (hall 43 (by omega) (by omega)).2 _ rfl
      have z44 := (hall 44 (by omega) (by omega)).2 _ rfl
      have z45 := (hall 45 (by omega) (by omega)).2 _ rfl
      simp only [pfill, rdst, Nat.reduceAdd, List.getElem?_toArray, List.getElem?_cons_zero, List.getElem?_cons_succ, Option.bind_some, Act.put, List.setIfInBounds_toArray, List.set_cons_zero, List.set_cons_succ, List.drop_succ_cons, List.drop_zero]
      rw [z28, z29, z30, z31, z32, z33, z35, z36, z37, z38, z39, z40, z41, z43, z44, z45]
      clear z28 z29 z30 z31 z32 z33 z35 z36 z37 z38 z39 z40 z41 z43 z44 z45
      refine phase_end (by kernel_rfl) ?_
      have HK2 := Lib.hid (HK1.out.thenBelow hG.below)
      clear hG hall hb HDB HRB HAT HK1
      go_wp2_with fail
      go_roundw
      · exact ⟨k + 1, by omega, by simp; try omega, by omega, HK2⟩
      · simp [intOf]; omega
    · have hx : N ≤ k ∨ (k < N ∧ 40 ≤ k) := by omega
      clear hlt
      rcases hx with hg1 | ⟨hg1, hg2⟩
      all_goals
        go_wp2_with fail
        go_loopw [10] (fun i W => ∃ m : Nat, m ≤ 12 ∧ i = .int .i64 m ∧ Hid (Acts w q r k W)) (fun i _ => 12 - (intOf i).toNat)
        case atStart => exact ⟨0, Nat.zero_le _, rfl, HK⟩
        case round =>
          clear HK
          obtain ⟨m, hm, rfl, HK⟩ := hrel
          by_cases hlt : m < 12
          · have hg3 : decide ((m : Int) < 12) = true := by simp; omega
            go_wp2_with fail
            refine region_phases (by kernel_rfl) ?_
            have hdr : Below wr.heap.size wr { wr with drawn := wr.drawn + 1 } := ⟨rfl, rfl, rfl, Nat.le_refl _, fun _ _ => rfl⟩
            obtain ⟨W1, hW1⟩ : ∃ W1 : World, W1 = { wr with drawn := wr.drawn + 1 } := ⟨_, rfl⟩
            rw [← hW1] at hdr ⊢
            have HK1 := Lib.hid (HK.out.thenBelow hdr)
            clear HK hdr hW1
            obtain ⟨n1, dd, tA, tc, bs, _, _, _, _, hdb, hrb⟩ := acts_answer HK1.out
            have HDB := Lib.hid (hdb m)
            have HRB := Lib.hid (hrb m)
            obtain ⟨Xs, hXs⟩ : ∃ Xs, Xs = bs m := ⟨_, rfl⟩
            rw [← hXs] at HDB HRB
            obtain ⟨Z, hZ⟩ : ∃ Z, Z = strOfNums Xs := ⟨_, rfl⟩
            have HZ := Lib.hid hZ
            clear hdb hrb hXs hZ
            refine phaseJ (fun _ => True) (trivial) (fun | 0 => some (.pointer (some ⟨q, 0, none⟩)) | 1 => some (.int .i64 (m : Int)) | 3 => some (.string Z) | 4 => some (.pointer (some ⟨r, 0, none⟩)) | 5 => some (.int .i64 (m : Int)) | 7 => some (.string Z) | 8 => some (.bool false) | _ => none) (PB W1 Xs 2 6) 0 9 105 (by decide) rfl (by kernel_rfl) (by kernel_rfl) (PB.init W1 Xs 2 6) ?_ ?_
            · intro i hmi hi d x a w' hb hsame hanc hdi hdesc hG
              have b7 : a.tmps.getD 7 undef = .pointer (some ⟨q, 0, none⟩) := by rw [Array.getD_eq_getD_getElem?, hsame 7 (by decide +kernel)]; rfl
              have e7 := (Array.getD_eq_getD_getElem? (xs := a.tmps) (i := 7) (d := undef)).symm.trans b7
              have b8 : a.tmps.getD 8 undef = .pointer (some ⟨r, 0, none⟩) := by rw [Array.getD_eq_getD_getElem?, hsame 8 (by decide +kernel)]; rfl
              have e8 := (Array.getD_eq_getD_getElem? (xs := a.tmps) (i := 8) (d := undef)).symm.trans b8
              have b10 : a.tmps.getD 10 undef = .int .i64 (m : Int) := by rw [Array.getD_eq_getD_getElem?, hsame 10 (by decide +kernel)]; rfl
              have e10 := (Array.getD_eq_getD_getElem? (xs := a.tmps) (i := 10) (d := undef)).symm.trans b10
              match i, hmi, hi with
              | 0, _, _ =>
                exact pstep_det rfl (wanted_none rfl) rfl rfl (by simp [go_sem, b7, e7]) (hG.other (by decide)) hb
              | 1, _, _ =>
                exact pstep_det rfl (wanted_none rfl) rfl rfl (by simp [go_sem, b10, e10]) (hG.other (by decide)) hb
              | 2, _, _ =>
                have t95 : a.tmps.getD 95 undef = .pointer (some ⟨q, 0, none⟩) := (show a.tmps.getD 95 undef = x 0 from (hanc 0 (by decide +kernel)).2.1).trans ((hanc 0 (by decide +kernel)).2.2 _ rfl)
                have u95 := (Array.getD_eq_getD_getElem? (xs := a.tmps) (i := 95) (d := undef)).symm.trans t95
                have t96 : a.tmps.getD 96 undef = .int .i64 (m : Int) := (show a.tmps.getD 96 undef = x 1 from (hanc 1 (by decide +kernel)).2.1).trans ((hanc 1 (by decide +kernel)).2.2 _ rfl)
                have u96 := (Array.getD_eq_getD_getElem? (xs := a.tmps) (i := 96) (d := undef)).symm.trans t96
                refine pstep_call rfl (wanted_none rfl) rfl (by simp [go_sem, t95, u95, t96, u96]) (HDB.out w' hG.below) ?_
                rintro e w8 ⟨v, rfl, hr, hbw, _⟩
                exact ⟨v, rfl, nofun, hG.call hr hbw, trivial⟩
              | 3, _, _ =>
                have t97 : a.tmps.getD 97 undef = x 2 := (hanc 2 (by decide +kernel)).2.1
                have d2 : d 2 = true := (hanc 2 (by decide +kernel)).1
                have u97 := (Array.getD_eq_getD_getElem? (xs := a.tmps) (i := 97) (d := undef)).symm.trans t97
                have hcv := conv_v (hG.ci d2)
                rw [← HZ.out] at hcv
                exact pstep_det rfl (wanted_none rfl) rfl rfl (by simp [go_sem, t97, u97, hcv]) (hG.other (by decide)) hb
              | 4, _, _ =>
                exact pstep_det rfl (wanted_none rfl) rfl rfl (by simp [go_sem, b8, e8]) (hG.other (by decide)) hb
              | 5, _, _ =>
                exact pstep_det rfl (wanted_none rfl) rfl rfl (by simp [go_sem, b10, e10]) (hG.other (by decide)) hb
              | 6, _, _ =>
                have t99 : a.tmps.getD 99 undef = .pointer (some ⟨r, 0, none⟩) := (show a.tmps.getD 99 undef = x 4 from (hanc 4 (by decide +kernel)).2.1).trans ((hanc 4 (by decide +kernel)).2.2 _ rfl)
                have u99 := (Array.getD_eq_getD_getElem? (xs := a.tmps) (i := 99) (d := undef)).symm.trans t99
                have t100 : a.tmps.getD 100 undef = .int .i64 (m : Int) := (show a.tmps.getD 100 undef = x 5 from (hanc 5 (by decide +kernel)).2.1).trans ((hanc 5 (by decide +kernel)).2.2 _ rfl)
                have u100 := (Array.getD_eq_getD_getElem? (xs := a.tmps) (i := 100) (d := undef)).symm.trans t100
                refine pstep_call rfl (wanted_none rfl) rfl (by simp [go_sem, t99, u99, t100, u100]) (HRB.out w' hG.below) ?_
                rintro e w8 ⟨v, rfl, hr, hbw⟩
                exact ⟨v, rfl, nofun, hG.call hr hbw, trivial⟩
              | 7, _, _ =>
                have t101 : a.tmps.getD 101 undef = x 6 := (hanc 6 (by decide +kernel)).2.1
                have d6 : d 6 = true := (hanc 6 (by decide +kernel)).1
                have u101 := (Array.getD_eq_getD_getElem? (xs := a.tmps) (i := 101) (d := undef)).symm.trans t101
                have hcv := conv_v (hG.cj d6)
                rw [← HZ.out] at hcv
                exact pstep_det rfl (wanted_none rfl) rfl rfl (by simp [go_sem, t101, u101, hcv]) (hG.other (by decide)) hb
              | 8, _, _ =>
                have t98 : a.tmps.getD 98 undef = .string Z := (show a.tmps.getD 98 undef = x 3 from (hanc 3 (by decide +kernel)).2.1).trans ((hanc 3 (by decide +kernel)).2.2 _ rfl)
                have u98 := (Array.getD_eq_getD_getElem? (xs := a.tmps) (i := 98) (d := undef)).symm.trans t98
                have t102 : a.tmps.getD 102 undef = .string Z := (show a.tmps.getD 102 undef = x 7 from (hanc 7 (by decide +kernel)).2.1).trans ((hanc 7 (by decide +kernel)).2.2 _ rfl)
                have u102 := (Array.getD_eq_getD_getElem? (xs := a.tmps) (i := 102) (d := undef)).symm.trans t102
                exact pstep_det rfl (wanted_none rfl) rfl rfl (by simp [go_sem, t98, u98, t102, u102]) (hG.other (by decide)) hb
              | (k + 9), _, h => exact absurd h (by omega)
            intro d x w' hb hall hG
            have z0 := (hall 0 (by omega) (by omega)).2 _ rfl
            have z1 := (hall 1 (by omega) (by omega)).2 _ rfl
            have z3 := (hall 3 (by omega) (by omega)).2 _ rfl
            have z4 := (hall 4 (by omega) (by omega)).2 _ rfl
            have z5 := (hall 5 (by omega) (by omega)).2 _ rfl
            have z7 := (hall 7 (by omega) (by omega)).2 _ rfl
            have z8 := (hall 8 (by omega) (by omega)).2 _ rfl
            simp only [pfill, rdst, Nat.reduceAdd, List.getElem?_toArray, List.getElem?_cons_zero, List.getElem?_cons_succ, Option.bind_some, Act.put, List.setIfInBounds_toArray, List.set_cons_zero, List.set_cons_succ, List.drop_succ_cons, List.drop_zero]
            rw [z0, z1, z3, z4, z5, z7, z8]
            clear z0 z1 z3 z4 z5 z7 z8
            refine phase_end (by kernel_rfl) ?_
            have HK2 := Lib.hid (HK1.out.thenBelow hG.below)
            clear hG hall hb HDB HRB HK1
            go_wp2_with fail
            go_roundw
            · exact ⟨m + 1, by omega, by simp; try omega, HK2⟩
            · simp [intOf]; omega
          · have hg3 : 12 ≤ m := by omega
            clear hlt
            go_wp2_with fail
            refine (lives19_ok wr).mono ?_
            rintro e w9 ⟨rfl, hb9⟩
            have hfin : Hid (RE (.returned (.bool true)) w9) := by
              show RE _ _
              rw [HRE.out]
              exact ⟨rfl, HK.out.below.trans (hb9.mono HK.out.below.size)⟩
            go_wp2_with fail
            exact hfin.out
set_option maxRecDepth 100000 in
set_option maxHeartbeats 8000000 in
theorem diskActs_yes (w : World) (n : Int) (hn : -9223372036854775808 ≤ n ∧ n ≤ 9223372036854775807) (IA : Option Addr) (img : List Int) (ic : Nat) (hi : Rd (Value.int .u8) w IA img) (hic : img.length ≤ ic ∧ ic ≤ maxLen) (AL : Option Addr) (l : List ActD) (lc : Nat) (hl : ActsIn w AL l) (hll : l.length ≤ lc ∧ lc ≤ maxLen) (hc : 5000 < img.length) :
    Calls Try.prog 4 #[.int .i64 n, .slice IA img.length ic, .slice AL l.length lc] w (RetL w (.bool true)) := by
  obtain ⟨RE, hRE⟩ : ∃ RE, RE = RetL w (.bool true) := ⟨_, rfl⟩
  rw [← hRE]
  have HRE := Lib.hid hRE; clear hRE
  have HL := Lib.hid hl; clear hl
  have HI := Lib.hid hi; clear hi
  obtain ⟨N, hN⟩ : ∃ N, N = l.length := ⟨_, rfl⟩
  rw [← hN] at hll ⊢
  have HN := Lib.hid hN; clear hN
  obtain ⟨hl1, hl2⟩ := hll
  unfold maxLen at hl2
  obtain ⟨xs, hxs⟩ : ∃ xs, xs = img.take 5000 := ⟨_, rfl⟩; have HM : Hid (5000 = xs.length) := (by show _ = _; rw [hxs, List.length_take]; omega); obtain ⟨gi, oi, hIA, _⟩ := HI.out (by omega); subst hIA; have HI : Hid (Rd (Value.int .u8) w (some ⟨gi, oi, none⟩) xs) := (by show Rd _ _ _ _; rw [hxs]; exact rd_take HI.out 5000); obtain ⟨M, hM⟩ : ∃ M, M = img.length := ⟨_, rfl⟩; rw [← hM] at hic hc ⊢; clear hM hxs; obtain ⟨hi1, hi2⟩ := hic; unfold maxLen at hi2; have hcc : decide ((5000 : Int) < (M : Int)) = true := (by simp; omega)
  have HE : Hid ((w.alloc (.cells #[] 5)).ownsRow w.heap.size 5 1 (.slice (some ⟨w.heap.size, 0, none⟩) 0 0) 0 []) := own_empty w w.heap.size 5 1 (Nat.le_refl _)
  have HB0 : Hid (Below w.heap.size w (w.alloc (.cells #[] 5))) := (Below.refl _ w).alloc (Nat.le_refl _) _
  have H1C := Lib.hid (fun u (hu : u ∈ xs.map (Value.int .u8)) => (show u.oneCell' = true by obtain ⟨x, _, rfl⟩ := List.mem_map.1 hu; rfl))
  go_enter Try.func4, Try.ntmps4
  go_wp2_with (at_builtin; refine wpList_app _ rfl (.tmp 17) (.tmp 18) ty_bytes rfl _ _ _ rfl HE.out _ 5000 _ (xs.map (Value.int .u8)) rfl (by rw [HM.out]; exact (HI.out.below HB0.out).cells) H1C.out (by omega) (by unfold maxLen; omega) HB0.out.size ?_; intro v1 w1 h1 h2 h3; simp only [Nat.zero_add, List.nil_append] at h1; have K1 := Lib.hid h1; have K2 := Lib.hid (show (w.alloc (.cells #[] 5)).grownBy w1 (some w.heap.size) from h2); clear h1 h2 h3)
  obtain ⟨A1, c1, rfl, hA1, hA2⟩ := own_form K1.out
  have HB1 : Hid (Below w.heap.size w w1) := HB0.out.grown K2.out HB0.out.size (fun k hk => by injection hk with hk; omega)
  have hld := disk_load n A1 xs c1 w1 hn (own_rd K1.out) (by have := HM.out; omega) (by have := HM.out; exact ⟨by omega, hA2⟩)
  rw [← HM.out] at hld
  have HLD := Lib.hid hld; clear hld
  go_wp2_with fail
  refine HLD.out.mono ?_
  rintro e w2 ⟨q, F, rfl, hd, hF, hb2⟩
  have HD := Lib.hid hd
  have HF := Lib.hid hF
  have HB2 := Lib.hid hb2
  clear hd hF hb2 HLD
  have hlr := ref_load n (some ⟨gi, oi, none⟩) xs ic w2 hn ((HI.out.below HB1.out).below HB2.out) (by have := HM.out; omega) (by have := HM.out; unfold maxLen; exact ⟨by omega, hi2⟩)
  rw [← HM.out] at hlr
  have HLR := Lib.hid hlr; clear hlr
  go_wp2_with fail
  refine HLR.out.mono ?_
  clear HLR
  intro e w3 h
  obtain ⟨r, G, R, rfl, hr, hG, hb3, hrel, hrl, hr0⟩ := h.rel
  clear h
  have hst := acts_start HB1.out HD.out HF.out HB2.out hr hG hb3 hrel hrl hr0
  have HST := Lib.hid hst
  clear hst hr hG hb3 hrel hrl hr0 HB2 HF HD K1 K2
  go_wp2_with fail
  refine region_phases (by kernel_rfl) ?_
  have hdr : Below w3.heap.size w3 { w3 with drawn := w3.drawn + 1 } := ⟨rfl, rfl, rfl, Nat.le_refl _, fun _ _ => rfl⟩
  obtain ⟨W0, hW0⟩ : ∃ W0 : World, W0 = { w3 with drawn := w3.drawn + 1 } := ⟨_, rfl⟩
  rw [← hW0] at hdr ⊢
  have HS0 : Hid (Acts w q r 0 W0) := ⟨⟨F, G, _, R, ⟨HST.out.1.disk.below hdr, HST.out.1.ref.below hdr, HST.out.1.apart, HST.out.1.rel, HST.out.1.len, HST.out.1.left⟩, HST.out.2.1, HST.out.2.2.1⟩, HST.out.2.2.2.trans (hdr.mono HST.out.2.2.2.size)⟩
  have HSE := Lib.hid (disk_sectorsS (HST.out.1.disk.below hdr))
  obtain ⟨av, bv, tv, wv, hrc, _⟩ := (HST.out.1.ref.below hdr).rcells
  obtain ⟨n1, hn1⟩ : ∃ n1, n1 = R.n := ⟨_, rfl⟩
  have hn2 : n1 = (DS.load n xs).n := by rw [hn1]; exact HST.out.1.rel.n.symm
  rw [← hn1] at hrc
  rw [← hn2] at HSE
  clear hn1 hn2 hdr hW0
  obtain ⟨⟨c0, _, _, _, _, _, _, _⟩, _⟩ := hrc.cells
  clear hrc
  refine phaseJ (fun _ => True) (trivial) (fun | 0 => some (.pointer (some ⟨q, 0, none⟩)) | 1 => some (.bool false) | 2 => some (.bool false) | 3 => some (.pointer (some ⟨q, 0, none⟩)) | 4 => some (.int .i64 (n1 : Int)) | 5 => some (.pointer (some ⟨r, 0, none⟩)) | 6 => some (.pointer (some ⟨r, 0, none⟩)) | 7 => some (.pointer (some ⟨r, 0, none⟩)) | 8 => some (.int .i64 (n1 : Int)) | 9 => some (.bool false) | 10 => some (.bool false) | _ => none) (fun _ _ w => w = W0) 0 11 105 (by decide) rfl (by kernel_rfl) (by kernel_rfl) (rfl) ?_ ?_
  · intro i hmi hi d x a w' hb hsame hanc hdi hdesc hG
    have b7 : a.tmps.getD 7 undef = .pointer (some ⟨q, 0, none⟩) := by rw [Array.getD_eq_getD_getElem?, hsame 7 (by decide +kernel)]; rfl
    have e7 := (Array.getD_eq_getD_getElem? (xs := a.tmps) (i := 7) (d := undef)).symm.trans b7
    have b8 : a.tmps.getD 8 undef = .pointer (some ⟨r, 0, none⟩) := by rw [Array.getD_eq_getD_getElem?, hsame 8 (by decide +kernel)]; rfl
    have e8 := (Array.getD_eq_getD_getElem? (xs := a.tmps) (i := 8) (d := undef)).symm.trans b8
    match i, hmi, hi with
    | 0, _, _ =>
      exact pstep_det rfl (wanted_none rfl) rfl rfl (by simp [go_sem, b7, e7]) (hG) hb
    | 1, _, _ =>
      have t24 : a.tmps.getD 24 undef = .pointer (some ⟨q, 0, none⟩) := (show a.tmps.getD 24 undef = x 0 from (hanc 0 (by decide +kernel)).2.1).trans ((hanc 0 (by decide +kernel)).2.2 _ rfl)
      have u24 := (Array.getD_eq_getD_getElem? (xs := a.tmps) (i := 24) (d := undef)).symm.trans t24
      exact pstep_det rfl (wanted_none rfl) rfl rfl (by simp [go_sem, t24, u24]) (hG) hb
    | 2, _, _ =>
      have t25 : a.tmps.getD 25 undef = .bool false := (show a.tmps.getD 25 undef = x 1 from (hanc 1 (by decide +kernel)).2.1).trans ((hanc 1 (by decide +kernel)).2.2 _ rfl)
      have u25 := (Array.getD_eq_getD_getElem? (xs := a.tmps) (i := 25) (d := undef)).symm.trans t25
      exact pstep_det rfl (wanted_none rfl) rfl rfl (by simp [go_sem, t25, u25]) (hG) hb
    | 3, _, _ =>
      have t26 : a.tmps.getD 26 undef = .bool false := (show a.tmps.getD 26 undef = x 2 from (hanc 2 (by decide +kernel)).2.1).trans ((hanc 2 (by decide +kernel)).2.2 _ rfl)
      have u26 := (Array.getD_eq_getD_getElem? (xs := a.tmps) (i := 26) (d := undef)).symm.trans t26
      exact pstep_det rfl (wanted_slot rfl rfl t26) rfl rfl (by simp [go_sem, b7, e7, t26, u26]) (hG) hb
    | 4, _, _ =>
      have t27 : a.tmps.getD 27 undef = .pointer (some ⟨q, 0, none⟩) := (show a.tmps.getD 27 undef = x 3 from (hanc 3 (by decide +kernel)).2.1).trans ((hanc 3 (by decide +kernel)).2.2 _ rfl)
      have u27 := (Array.getD_eq_getD_getElem? (xs := a.tmps) (i := 27) (d := undef)).symm.trans t27
      have t26 : a.tmps.getD 26 undef = .bool false := (show a.tmps.getD 26 undef = x 2 from (hanc 2 (by decide +kernel)).2.1).trans ((hanc 2 (by decide +kernel)).2.2 _ rfl)
      have u26 := (Array.getD_eq_getD_getElem? (xs := a.tmps) (i := 26) (d := undef)).symm.trans t26
      have hcc := HSE.out
      rw [← hG] at hcc
      refine pstep_call rfl (wanted_slot rfl rfl t26) rfl (by simp [go_sem, t27, u27, t26, u26]) hcc ?_
      rintro e w8 ⟨rfl, h8⟩
      exact ⟨_, rfl, (fun c e => by cases e; rfl), h8.trans hG, trivial⟩
    | 5, _, _ =>
      have t26 : a.tmps.getD 26 undef = .bool false := (show a.tmps.getD 26 undef = x 2 from (hanc 2 (by decide +kernel)).2.1).trans ((hanc 2 (by decide +kernel)).2.2 _ rfl)
      have u26 := (Array.getD_eq_getD_getElem? (xs := a.tmps) (i := 26) (d := undef)).symm.trans t26
      exact pstep_det rfl (wanted_slot rfl rfl t26) rfl rfl (by simp [go_sem, b8, e8, t26, u26]) (hG) hb
    | 6, _, _ =>
      have t29 : a.tmps.getD 29 undef = .pointer (some ⟨r, 0, none⟩) := (show a.tmps.getD 29 undef = x 5 from (hanc 5 (by decide +kernel)).2.1).trans ((hanc 5 (by decide +kernel)).2.2 _ rfl)
      have u29 := (Array.getD_eq_getD_getElem? (xs := a.tmps) (i := 29) (d := undef)).symm.trans t29
      have t26 : a.tmps.getD 26 undef = .bool false := (show a.tmps.getD 26 undef = x 2 from (hanc 2 (by decide +kernel)).2.1).trans ((hanc 2 (by decide +kernel)).2.2 _ rfl)
      have u26 := (Array.getD_eq_getD_getElem? (xs := a.tmps) (i := 26) (d := undef)).symm.trans t26
      exact pstep_det rfl (wanted_slot rfl rfl t26) rfl rfl (by simp [go_sem, t29, u29, t26, u26]) (hG) hb
    | 7, _, _ =>
      have t30 : a.tmps.getD 30 undef = .pointer (some ⟨r, 0, none⟩) := (show a.tmps.getD 30 undef = x 6 from (hanc 6 (by decide +kernel)).2.1).trans ((hanc 6 (by decide +kernel)).2.2 _ rfl)
      have u30 := (Array.getD_eq_getD_getElem? (xs := a.tmps) (i := 30) (d := undef)).symm.trans t30
      have t26 : a.tmps.getD 26 undef = .bool false := (show a.tmps.getD 26 undef = x 2 from (hanc 2 (by decide +kernel)).2.1).trans ((hanc 2 (by decide +kernel)).2.2 _ rfl)
      have u26 := (Array.getD_eq_getD_getElem? (xs := a.tmps) (i := 26) (d := undef)).symm.trans t26
      exact pstep_det rfl (wanted_slot rfl rfl t26) rfl rfl (by simp [go_sem, t30, u30, t26, u26]) (hG) hb
    | 8, _, _ =>
      have t31 : a.tmps.getD 31 undef = .pointer (some ⟨r, 0, none⟩) := (show a.tmps.getD 31 undef = x 7 from (hanc 7 (by decide +kernel)).2.1).trans ((hanc 7 (by decide +kernel)).2.2 _ rfl)
      have u31 := (Array.getD_eq_getD_getElem? (xs := a.tmps) (i := 31) (d := undef)).symm.trans t31
      have t26 : a.tmps.getD 26 undef = .bool false := (show a.tmps.getD 26 undef = x 2 from (hanc 2 (by decide +kernel)).2.1).trans ((hanc 2 (by decide +kernel)).2.2 _ rfl)
      have u26 := (Array.getD_eq_getD_getElem? (xs := a.tmps) (i := 26) (d := undef)).symm.trans t26
      exact pstep_det rfl (wanted_slot rfl rfl t26) rfl rfl (by simp [go_sem, t31, u31, t26, u26, hG, c0]) (hG) hb
    | 9, _, _ =>
      have t28 : a.tmps.getD 28 undef = .int .i64 (n1 : Int) := (show a.tmps.getD 28 undef = x 4 from (hanc 4 (by decide +kernel)).2.1).trans ((hanc 4 (by decide +kernel)).2.2 _ rfl)
      have u28 := (Array.getD_eq_getD_getElem? (xs := a.tmps) (i := 28) (d := undef)).symm.trans t28
      have t32 : a.tmps.getD 32 undef = .int .i64 (n1 : Int) := (show a.tmps.getD 32 undef = x 8 from (hanc 8 (by decide +kernel)).2.1).trans ((hanc 8 (by decide +kernel)).2.2 _ rfl)
      have u32 := (Array.getD_eq_getD_getElem? (xs := a.tmps) (i := 32) (d := undef)).symm.trans t32
      have t26 : a.tmps.getD 26 undef = .bool false := (show a.tmps.getD 26 undef = x 2 from (hanc 2 (by decide +kernel)).2.1).trans ((hanc 2 (by decide +kernel)).2.2 _ rfl)
      have u26 := (Array.getD_eq_getD_getElem? (xs := a.tmps) (i := 26) (d := undef)).symm.trans t26
      exact pstep_det rfl (wanted_slot rfl rfl t26) rfl rfl (by simp [go_sem, t28, u28, t32, u32, t26, u26]) (hG) hb
    | 10, _, _ =>
      have t26 : a.tmps.getD 26 undef = .bool false := (show a.tmps.getD 26 undef = x 2 from (hanc 2 (by decide +kernel)).2.1).trans ((hanc 2 (by decide +kernel)).2.2 _ rfl)
      have u26 := (Array.getD_eq_getD_getElem? (xs := a.tmps) (i := 26) (d := undef)).symm.trans t26
      have t33 : a.tmps.getD 33 undef = .bool false := (show a.tmps.getD 33 undef = x 9 from (hanc 9 (by decide +kernel)).2.1).trans ((hanc 9 (by decide +kernel)).2.2 _ rfl)
      have u33 := (Array.getD_eq_getD_getElem? (xs := a.tmps) (i := 33) (d := undef)).symm.trans t33
      exact pstep_det rfl (wanted_none rfl) rfl rfl (by simp [go_sem, t26, u26, t33, u33]) (hG) hb
    | (k + 11), _, h => exact absurd h (by omega)
  intro d x w' hb hall hG
  have z0 := (hall 0 (by omega) (by omega)).2 _ rfl
  have z1 := (hall 1 (by omega) (by omega)).2 _ rfl
  have z2 := (hall 2 (by omega) (by omega)).2 _ rfl
  have z3 := (hall 3 (by omega) (by omega)).2 _ rfl
  have z4 := (hall 4 (by omega) (by omega)).2 _ rfl
  have z5 := (hall 5 (by omega) (by omega)).2 _ rfl
  have z6 := (hall 6 (by omega) (by omega)).2 _ rfl
  have z7 := (hall 7 (by omega) (by omega)).2 _ rfl
  have z8 := (hall 8 (by omega) (by omega)).2 _ rfl
  have z9 := (hall 9 (by omega) (by omega)).2 _ rfl
  have z10 := (hall 10 (by omega) (by omega)).2 _ rfl
  simp only [pfill, rdst, Nat.reduceAdd, List.getElem?_toArray, List.getElem?_cons_zero, List.getElem?_cons_succ, Option.bind_some, Act.put, List.setIfInBounds_toArray, List.set_cons_zero, List.set_cons_succ, List.drop_succ_cons, List.drop_zero]
  rw [z0, z1, z2, z3, z4, z5, z6, z7, z8, z9, z10]
  clear z0 z1 z2 z3 z4 z5 z6 z7 z8 z9 z10
  refine phase_end (by kernel_rfl) ?_
  have hG := hG.symm
  subst hG
  clear hall hb c0 HSE
  clear HST
  go_wp2_with fail
  go_loopw [9] (fun i W => ∃ k : Nat, k ≤ N ∧ i = .int .i64 k ∧ k ≤ 40 ∧ Hid (Acts w q r k W)) (fun i _ => N - (intOf i).toNat)
  case atStart => exact ⟨0, Nat.zero_le _, rfl, by omega, HS0⟩
  case round =>
    clear HS0
    obtain ⟨k, hk, rfl, hk40, HK⟩ := hrel
    by_cases hlt : k < N ∧ k < 40
    · obtain ⟨hlt, hk4⟩ := hlt
      have hg1 : decide ((k : Int) < (N : Int)) = true := by simp; omega
      have hg2 : decide ((k : Int) < 40) = true := by simp; omega
      go_wp2_with fail
      refine region_phases (by kernel_rfl) ?_
      have hdr : Below wr.heap.size wr { wr with drawn := wr.drawn + 1 } := ⟨rfl, rfl, rfl, Nat.le_refl _, fun _ _ => rfl⟩
      obtain ⟨W0, hW0⟩ : ∃ W0 : World, W0 = { wr with drawn := wr.drawn + 1 } := ⟨_, rfl⟩
      rw [← hW0] at hdr ⊢
      have HK0 := Lib.hid (HK.out.thenBelow hdr)
      clear HK hdr hW0
      have hkl : k < l.length := by have := HN.out; omega
      obtain ⟨g, o, hAL, hat⟩ := HL.out.at_ (by omega)
      subst hAL
      obtain ⟨a, ha⟩ : ∃ a, a = l[k] := ⟨_, rfl⟩
      have hmem : a ∈ l := by rw [ha]; exact List.getElem_mem hkl
      have hat := hat k hkl
      rw [← ha] at hat
      obtain ⟨P0, hP0⟩ : ∃ P0 : Addr, P0 = ⟨g, o + k * 4, none⟩ := ⟨_, rfl⟩
      obtain ⟨P1, hP1⟩ : ∃ P1 : Addr, P1 = ⟨g, o + k * 4 + 1, none⟩ := ⟨_, rfl⟩
      have hadd : ∀ j, P0.add j = ⟨g, o + k * 4 + j, none⟩ := fun j => by rw [hP0]; unfold Addr.add; split <;> simp_all
      have HP0 : Hid ((⟨g, o + k * 4, none⟩ : Addr) = P0) := hP0.symm
      have HP1 : Hid ((⟨P0.block, P0.off + 1, none⟩ : Addr) = P1) := by show _ = _; rw [hP0, hP1]
      obtain ⟨Cs, hCs⟩ : ∃ Cs, Cs = a.cells.toArray := ⟨_, rfl⟩
      have HSZ : Hid ((Try.prog.info? 46).map (·.size) = some Cs.size) := by show _ = _; rw [hCs]; exact sz_act
      have HLD : Hid (∀ j v, Cs.toList[j]? = some v → W0.cell? (P0.add j) = some v) := fun j v hv => by
        rw [hadd, ← hat j v (by rw [← hv, hCs])]
        exact World.cell?_of_block (w := w) (HK0.out.below.block g (block_lt_of_cell (hat j v (by rw [← hv, hCs]))))
      obtain ⟨at_, hat_⟩ : ∃ z, z = a.at_ := ⟨_, rfl⟩
      have HA1 : Hid (∀ W' : World, Below w.heap.size w W' → W'.cell? P1 = some (.int .i64 at_)) := fun W' hb => by
        have h1 := hat 1 (.int .i64 a.at_) rfl
        rw [hP1, hat_, ← h1]
        exact World.cell?_of_block (w := w) (hb.block g (block_lt_of_cell h1))
      obtain ⟨PP, hPP⟩ : ∃ PP, PP = Acts w q r (k + 1) := ⟨_, rfl⟩
      have hdo := acts_does HL.out HK0.out hk40 a hmem
      rw [← hCs, ← hPP] at hdo
      have HDO := Lib.hid hdo
      have HPP := Lib.hid hPP
      clear hdo hPP hat hadd ha hmem hP0 hP1 hCs hat_ hkl
      refine phaseJ (fun _ => True) (trivial) (fun | 0 => some (.pointer (some ⟨q, 0, none⟩)) | 1 => some (.pointer (some ⟨r, 0, none⟩)) | 2 => some (.slice (some ⟨g, o, none⟩) N lc) | 3 => some (.int .i64 (k : Int)) | 4 => some (.pointer (some P0)) | 5 => some (.agg Cs) | 7 => some (.bool false) | 8 => some (.bool false) | _ => none) (PA W0 PP) 0 9 105 (by decide) rfl (by kernel_rfl) (by kernel_rfl) (PA.init W0 PP) ?_ ?_
      · intro i hmi hi d x a w' hb hsame hanc hdi hdesc hG
        have b2 : a.tmps.getD 2 undef = .slice (some ⟨g, o, none⟩) N lc := by rw [Array.getD_eq_getD_getElem?, hsame 2 (by decide +kernel)]; rfl
        have e2 := (Array.getD_eq_getD_getElem? (xs := a.tmps) (i := 2) (d := undef)).symm.trans b2
        have b7 : a.tmps.getD 7 undef = .pointer (some ⟨q, 0, none⟩) := by rw [Array.getD_eq_getD_getElem?, hsame 7 (by decide +kernel)]; rfl
        have e7 := (Array.getD_eq_getD_getElem? (xs := a.tmps) (i := 7) (d := undef)).symm.trans b7
        have b8 : a.tmps.getD 8 undef = .pointer (some ⟨r, 0, none⟩) := by rw [Array.getD_eq_getD_getElem?, hsame 8 (by decide +kernel)]; rfl
        have e8 := (Array.getD_eq_getD_getElem? (xs := a.tmps) (i := 8) (d := undef)).symm.trans b8
        have b9 : a.tmps.getD 9 undef = .int .i64 (k : Int) := by rw [Array.getD_eq_getD_getElem?, hsame 9 (by decide +kernel)]; rfl
        have e9 := (Array.getD_eq_getD_getElem? (xs := a.tmps) (i := 9) (d := undef)).symm.trans b9
        match i, hmi, hi with
        | 0, _, _ =>
          exact pstep_det rfl (wanted_none rfl) rfl rfl (by simp [go_sem, b7, e7]) (hG.other (by decide)) hb
        | 1, _, _ =>
          exact pstep_det rfl (wanted_none rfl) rfl rfl (by simp [go_sem, b8, e8]) (hG.other (by decide)) hb
        | 2, _, _ =>
          exact pstep_det rfl (wanted_none rfl) rfl rfl (by simp [go_sem, b2, e2]) (hG.other (by decide)) hb
        | 3, _, _ =>
          exact pstep_det rfl (wanted_none rfl) rfl rfl (by simp [go_sem, b9, e9]) (hG.other (by decide)) hb
        | 4, _, _ =>
          have t47 : a.tmps.getD 47 undef = .slice (some ⟨g, o, none⟩) N lc := (show a.tmps.getD 47 undef = x 2 from (hanc 2 (by decide +kernel)).2.1).trans ((hanc 2 (by decide +kernel)).2.2 _ rfl)
          have u47 := (Array.getD_eq_getD_getElem? (xs := a.tmps) (i := 47) (d := undef)).symm.trans t47
          have t48 : a.tmps.getD 48 undef = .int .i64 (k : Int) := (show a.tmps.getD 48 undef = x 3 from (hanc 3 (by decide +kernel)).2.1).trans ((hanc 3 (by decide +kernel)).2.2 _ rfl)
          have u48 := (Array.getD_eq_getD_getElem? (xs := a.tmps) (i := 48) (d := undef)).symm.trans t48
          exact pstep_det rfl (wanted_none rfl) rfl rfl (by simp [go_sem, t47, u47, t48, u48, hlt, HP0.out]) (hG.other (by decide)) hb
        | 5, _, _ =>
          have t49 : a.tmps.getD 49 undef = .pointer (some P0) := (show a.tmps.getD 49 undef = x 4 from (hanc 4 (by decide +kernel)).2.1).trans ((hanc 4 (by decide +kernel)).2.2 _ rfl)
          have u49 := (Array.getD_eq_getD_getElem? (xs := a.tmps) (i := 49) (d := undef)).symm.trans t49
          have hw : w' = W0 := hG.pre (hdesc 6 (by decide) (by decide) (by decide +kernel))
          exact pstep_run (v := .agg Cs) (w' := w') rfl (wanted_none rfl) rfl (fun c e => by cases e; rfl) (exec_load_at _ (.tmp 49) rfl P0 t49 Cs Try.underlying46 rfl HSZ.out (by rw [hw]; exact HLD.out)) (hG.other (by decide)) hb
        | 6, _, _ =>
          have t45 : a.tmps.getD 45 undef = .pointer (some ⟨q, 0, none⟩) := (show a.tmps.getD 45 undef = x 0 from (hanc 0 (by decide +kernel)).2.1).trans ((hanc 0 (by decide +kernel)).2.2 _ rfl)
          have u45 := (Array.getD_eq_getD_getElem? (xs := a.tmps) (i := 45) (d := undef)).symm.trans t45
          have t46 : a.tmps.getD 46 undef = .pointer (some ⟨r, 0, none⟩) := (show a.tmps.getD 46 undef = x 1 from (hanc 1 (by decide +kernel)).2.1).trans ((hanc 1 (by decide +kernel)).2.2 _ rfl)
          have u46 := (Array.getD_eq_getD_getElem? (xs := a.tmps) (i := 46) (d := undef)).symm.trans t46
          have t50 : a.tmps.getD 50 undef = .agg Cs := (show a.tmps.getD 50 undef = x 5 from (hanc 5 (by decide +kernel)).2.1).trans ((hanc 5 (by decide +kernel)).2.2 _ rfl)
          have u50 := (Array.getD_eq_getD_getElem? (xs := a.tmps) (i := 50) (d := undef)).symm.trans t50
          have hw : w' = W0 := hG.pre hdi
          have hcc := HDO.out
          rw [← hw] at hcc
          refine pstep_call rfl (wanted_none rfl) rfl (by simp [go_sem, t45, u45, t46, u46, t50, u50]) hcc ?_
          rintro e w8 ⟨rfl, hp⟩
          exact ⟨_, rfl, nofun, hG.call hp, trivial⟩
        | 7, _, _ =>
          have t51 : a.tmps.getD 51 undef = x 6 := (hanc 6 (by decide +kernel)).2.1
          have d6 : d 6 = true := (hanc 6 (by decide +kernel)).1
          have u51 := (Array.getD_eq_getD_getElem? (xs := a.tmps) (i := 51) (d := undef)).symm.trans t51
          have e6 := (hG.post d6).1
          rw [e6] at t51 u51
          exact pstep_det rfl (wanted_none rfl) rfl rfl (by simp [go_sem, t51, u51]) (hG.other (by decide)) hb
        | 8, _, _ =>
          have t52 : a.tmps.getD 52 undef = .bool false := (show a.tmps.getD 52 undef = x 7 from (hanc 7 (by decide +kernel)).2.1).trans ((hanc 7 (by decide +kernel)).2.2 _ rfl)
          have u52 := (Array.getD_eq_getD_getElem? (xs := a.tmps) (i := 52) (d := undef)).symm.trans t52
          exact pstep_det rfl (wanted_none rfl) rfl rfl (by simp [go_sem, t52, u52]) (hG.other (by decide)) hb
        | (k + 9), _, h => exact absurd h (by omega)
      intro d x w' hb hall hG
      have z0 := (hall 0 (by omega) (by omega)).2 _ rfl
      have z1 := (hall 1 (by omega) (by omega)).2 _ rfl
      have z2 := (hall 2 (by omega) (by omega)).2 _ rfl
      have z3 := (hall 3 (by omega) (by omega)).2 _ rfl
      have z4 := (hall 4 (by omega) (by omega)).2 _ rfl
      have z5 := (hall 5 (by omega) (by omega)).2 _ rfl
      have z7 := (hall 7 (by omega) (by omega)).2 _ rfl
      have z8 := (hall 8 (by omega) (by omega)).2 _ rfl
      simp only [pfill, rdst, Nat.reduceAdd, List.getElem?_toArray, List.getElem?_cons_zero, List.getElem?_cons_succ, Option.bind_some, Act.put, List.setIfInBounds_toArray, List.set_cons_zero, List.set_cons_succ, List.drop_succ_cons, List.drop_zero]
      rw [z0, z1, z2, z3, z4, z5, z7, z8]
      clear z0 z1 z2 z3 z4 z5 z7 z8
      have hp := (hG.post (hall 6 (by omega) (by omega)).1).2
      rw [HPP.out] at hp
      have HK1 := Lib.hid hp
      clear hp hG hall hb HDO HLD HSZ HPP HK0
      obtain ⟨n1, dd, tA, tc, bs, hpe, hde, c3, c7, hdb, hrb⟩ := acts_answer HK1.out
      obtain ⟨W1, hW1⟩ : ∃ W1, W1 = w' := ⟨_, rfl⟩
      rw [← hW1] at hpe hde c3 c7 hdb hrb HK1
      have HPE := Lib.hid hpe
      have HDE := Lib.hid hde
      have HDB := Lib.hid (hdb at_)
      have HRB := Lib.hid (hrb at_)
      obtain ⟨Xs, hXs⟩ : ∃ Xs, Xs = bs at_ := ⟨_, rfl⟩
      rw [← hXs] at HDB HRB
      obtain ⟨Z, hZ⟩ : ∃ Z, Z = strOfNums Xs := ⟨_, rfl⟩
      have HZ := Lib.hid hZ
      have HAT : Hid (∀ W' : World, Below W1.heap.size W1 W' → W'.cell? P1 = some (.int .i64 at_)) := fun W' hb => HA1.out W' (HK1.out.below.trans (hb.mono HK1.out.below.size))
      clear hpe hde hdb hrb hXs hZ
      rw [show w' = W1 from hW1.symm]
      clear hW1
      refine phaseJ (fun _ => True) (trivial) (fun | 9 => some (.pointer (some ⟨q, 0, none⟩)) | 10 => some (.int .i64 (n1 : Int)) | 11 => some (.pointer (some ⟨r, 0, none⟩)) | 12 => some (.pointer (some ⟨r, 0, none⟩)) | 13 => some (.pointer (some ⟨r, 3, none⟩)) | 14 => some (.slice tA n1 tc) | 15 => some (.int .i64 (n1 : Int)) | 16 => some (.bool false) | 17 => some (.bool false) | 18 => some (.bool false) | 19 => some (.pointer (some ⟨q, 0, none⟩)) | 20 => some (.bool dd) | 21 => some (.pointer (some ⟨r, 0, none⟩)) | 22 => some (.pointer (some ⟨r, 0, none⟩)) | 23 => some (.pointer (some ⟨r, 7, none⟩)) | 24 => some (.bool dd) | 25 => some (.bool false) | 26 => some (.bool false) | 27 => some (.bool false) | _ => none) (fun _ _ w => w = W1) 9 19 105 (by decide) rfl (by kernel_rfl) (by kernel_rfl) (rfl) ?_ ?_
      · intro i hmi hi d x a w' hb hsame hanc hdi hdesc hG
        have b7 : a.tmps.getD 7 undef = .pointer (some ⟨q, 0, none⟩) := by rw [Array.getD_eq_getD_getElem?, hsame 7 (by decide +kernel)]; rfl
        have e7 := (Array.getD_eq_getD_getElem? (xs := a.tmps) (i := 7) (d := undef)).symm.trans b7
        have b8 : a.tmps.getD 8 undef = .pointer (some ⟨r, 0, none⟩) := by rw [Array.getD_eq_getD_getElem?, hsame 8 (by decide +kernel)]; rfl
        have e8 := (Array.getD_eq_getD_getElem? (xs := a.tmps) (i := 8) (d := undef)).symm.trans b8
        have b53 : a.tmps.getD 53 undef = .bool false := by rw [Array.getD_eq_getD_getElem?, hsame 53 (by decide +kernel)]; rfl
        have e53 := (Array.getD_eq_getD_getElem? (xs := a.tmps) (i := 53) (d := undef)).symm.trans b53
        match i, hmi, hi with
        | 0, h, _ => exact absurd h (by omega)
        | 1, h, _ => exact absurd h (by omega)
        | 2, h, _ => exact absurd h (by omega)
        | 3, h, _ => exact absurd h (by omega)
        | 4, h, _ => exact absurd h (by omega)
        | 5, h, _ => exact absurd h (by omega)
        | 6, h, _ => exact absurd h (by omega)
        | 7, h, _ => exact absurd h (by omega)
        | 8, h, _ => exact absurd h (by omega)
        | 9, _, _ =>
          exact pstep_det rfl (wanted_slot rfl rfl b53) rfl rfl (by simp [go_sem, b7, e7, b53, e53]) (hG) hb
        | 10, _, _ =>
          have t54 : a.tmps.getD 54 undef = .pointer (some ⟨q, 0, none⟩) := (show a.tmps.getD 54 undef = x 9 from (hanc 9 (by decide +kernel)).2.1).trans ((hanc 9 (by decide +kernel)).2.2 _ rfl)
          have u54 := (Array.getD_eq_getD_getElem? (xs := a.tmps) (i := 54) (d := undef)).symm.trans t54
          have hcc := HPE.out
          rw [← hG] at hcc
          refine pstep_call rfl (wanted_slot rfl rfl b53) rfl (by simp [go_sem, t54, u54, b53, e53]) hcc ?_
          rintro e w8 ⟨rfl, h8⟩
          exact ⟨_, rfl, (fun c e => by cases e; rfl), h8.trans hG, trivial⟩
        | 11, _, _ =>
          exact pstep_det rfl (wanted_slot rfl rfl b53) rfl rfl (by simp [go_sem, b8, e8, b53, e53]) (hG) hb
        | 12, _, _ =>
          have t56 : a.tmps.getD 56 undef = .pointer (some ⟨r, 0, none⟩) := (show a.tmps.getD 56 undef = x 11 from (hanc 11 (by decide +kernel)).2.1).trans ((hanc 11 (by decide +kernel)).2.2 _ rfl)
          have u56 := (Array.getD_eq_getD_getElem? (xs := a.tmps) (i := 56) (d := undef)).symm.trans t56
          exact pstep_det rfl (wanted_slot rfl rfl b53) rfl rfl (by simp [go_sem, t56, u56, b53, e53]) (hG) hb
        | 13, _, _ =>
          have t57 : a.tmps.getD 57 undef = .pointer (some ⟨r, 0, none⟩) := (show a.tmps.getD 57 undef = x 12 from (hanc 12 (by decide +kernel)).2.1).trans ((hanc 12 (by decide +kernel)).2.2 _ rfl)
          have u57 := (Array.getD_eq_getD_getElem? (xs := a.tmps) (i := 57) (d := undef)).symm.trans t57
          exact pstep_det rfl (wanted_slot rfl rfl b53) rfl rfl (by simp [go_sem, t57, u57, b53, e53]) (hG) hb
        | 14, _, _ =>
          have t58 : a.tmps.getD 58 undef = .pointer (some ⟨r, 3, none⟩) := (show a.tmps.getD 58 undef = x 13 from (hanc 13 (by decide +kernel)).2.1).trans ((hanc 13 (by decide +kernel)).2.2 _ rfl)
          have u58 := (Array.getD_eq_getD_getElem? (xs := a.tmps) (i := 58) (d := undef)).symm.trans t58
          exact pstep_det rfl (wanted_slot rfl rfl b53) rfl rfl (by simp [go_sem, t58, u58, b53, e53, hG, c3]) (hG) hb
        | 15, _, _ =>
          have t59 : a.tmps.getD 59 undef = .slice tA n1 tc := (show a.tmps.getD 59 undef = x 14 from (hanc 14 (by decide +kernel)).2.1).trans ((hanc 14 (by decide +kernel)).2.2 _ rfl)
          have u59 := (Array.getD_eq_getD_getElem? (xs := a.tmps) (i := 59) (d := undef)).symm.trans t59
          exact pstep_det rfl (wanted_slot rfl rfl b53) rfl rfl (by simp [go_sem, t59, u59, b53, e53]) (hG) hb
        | 16, _, _ =>
          have t55 : a.tmps.getD 55 undef = .int .i64 (n1 : Int) := (show a.tmps.getD 55 undef = x 10 from (hanc 10 (by decide +kernel)).2.1).trans ((hanc 10 (by decide +kernel)).2.2 _ rfl)
          have u55 := (Array.getD_eq_getD_getElem? (xs := a.tmps) (i := 55) (d := undef)).symm.trans t55
          have t60 : a.tmps.getD 60 undef = .int .i64 (n1 : Int) := (show a.tmps.getD 60 undef = x 15 from (hanc 15 (by decide +kernel)).2.1).trans ((hanc 15 (by decide +kernel)).2.2 _ rfl)
          have u60 := (Array.getD_eq_getD_getElem? (xs := a.tmps) (i := 60) (d := undef)).symm.trans t60
          exact pstep_det rfl (wanted_slot rfl rfl b53) rfl rfl (by simp [go_sem, t55, u55, t60, u60, b53, e53]) (hG) hb
        | 17, _, _ =>
          have t61 : a.tmps.getD 61 undef = .bool false := (show a.tmps.getD 61 undef = x 16 from (hanc 16 (by decide +kernel)).2.1).trans ((hanc 16 (by decide +kernel)).2.2 _ rfl)
          have u61 := (Array.getD_eq_getD_getElem? (xs := a.tmps) (i := 61) (d := undef)).symm.trans t61
          exact pstep_det rfl (wanted_none rfl) rfl rfl (by simp [go_sem, b53, e53, t61, u61]) (hG) hb
        | 18, _, _ =>
          have t62 : a.tmps.getD 62 undef = .bool false := (show a.tmps.getD 62 undef = x 17 from (hanc 17 (by decide +kernel)).2.1).trans ((hanc 17 (by decide +kernel)).2.2 _ rfl)
          have u62 := (Array.getD_eq_getD_getElem? (xs := a.tmps) (i := 62) (d := undef)).symm.trans t62
          exact pstep_det rfl (wanted_none rfl) rfl rfl (by simp [go_sem, t62, u62]) (hG) hb
        | 19, _, _ =>
          have t63 : a.tmps.getD 63 undef = .bool false := (show a.tmps.getD 63 undef = x 18 from (hanc 18 (by decide +kernel)).2.1).trans ((hanc 18 (by decide +kernel)).2.2 _ rfl)
          have u63 := (Array.getD_eq_getD_getElem? (xs := a.tmps) (i := 63) (d := undef)).symm.trans t63
          exact pstep_det rfl (wanted_slot rfl rfl t63) rfl rfl (by simp [go_sem, b7, e7, t63, u63]) (hG) hb
        | 20, _, _ =>
          have t64 : a.tmps.getD 64 undef = .pointer (some ⟨q, 0, none⟩) := (show a.tmps.getD 64 undef = x 19 from (hanc 19 (by decide +kernel)).2.1).trans ((hanc 19 (by decide +kernel)).2.2 _ rfl)
          have u64 := (Array.getD_eq_getD_getElem? (xs := a.tmps) (i := 64) (d := undef)).symm.trans t64
          have t63 : a.tmps.getD 63 undef = .bool false := (show a.tmps.getD 63 undef = x 18 from (hanc 18 (by decide +kernel)).2.1).trans ((hanc 18 (by decide +kernel)).2.2 _ rfl)
          have u63 := (Array.getD_eq_getD_getElem? (xs := a.tmps) (i := 63) (d := undef)).symm.trans t63
          have hcc := HDE.out
          rw [← hG] at hcc
          refine pstep_call rfl (wanted_slot rfl rfl t63) rfl (by simp [go_sem, t64, u64, t63, u63]) hcc ?_
          rintro e w8 ⟨rfl, h8⟩
          exact ⟨_, rfl, (fun c e => by cases e; rfl), h8.trans hG, trivial⟩
        | 21, _, _ =>
          have t63 : a.tmps.getD 63 undef = .bool false := (show a.tmps.getD 63 undef = x 18 from (hanc 18 (by decide +kernel)).2.1).trans ((hanc 18 (by decide +kernel)).2.2 _ rfl)
          have u63 := (Array.getD_eq_getD_getElem? (xs := a.tmps) (i := 63) (d := undef)).symm.trans t63
          exact pstep_det rfl (wanted_slot rfl rfl t63) rfl rfl (by simp [go_sem, b8, e8, t63, u63]) (hG) hb
        | 22, _, _ =>
          have t66 : a.tmps.getD 66 undef = .pointer (some ⟨r, 0, none⟩) := (show a.tmps.getD 66 undef = x 21 from (hanc 21 (by decide +kernel)).2.1).trans ((hanc 21 (by decide +kernel)).2.2 _ rfl)
          have u66 := (Array.getD_eq_getD_getElem? (xs := a.tmps) (i := 66) (d := undef)).symm.trans t66
          have t63 : a.tmps.getD 63 undef = .bool false := (show a.tmps.getD 63 undef = x 18 from (hanc 18 (by decide +kernel)).2.1).trans ((hanc 18 (by decide +kernel)).2.2 _ rfl)
          have u63 := (Array.getD_eq_getD_getElem? (xs := a.tmps) (i := 63) (d := undef)).symm.trans t63
          exact pstep_det rfl (wanted_slot rfl rfl t63) rfl rfl (by simp [go_sem, t66, u66, t63, u63]) (hG) hb
        | 23, _, _ =>
          have t67 : a.tmps.getD 67 undef = .pointer (some ⟨r, 0, none⟩) := (show a.tmps.getD 67 undef = x 22 from (hanc 22 (by decide +kernel)).2.1).trans ((hanc 22 (by decide +kernel)).2.2 _ rfl)
          have u67 := (Array.getD_eq_getD_getElem? (xs := a.tmps) (i := 67) (d := undef)).symm.trans t67
          have t63 : a.tmps.getD 63 undef = .bool false := (show a.tmps.getD 63 undef = x 18 from (hanc 18 (by decide +kernel)).2.1).trans ((hanc 18 (by decide +kernel)).2.2 _ rfl)
          have u63 := (Array.getD_eq_getD_getElem? (xs := a.tmps) (i := 63) (d := undef)).symm.trans t63
          exact pstep_det rfl (wanted_slot rfl rfl t63) rfl rfl (by simp [go_sem, t67, u67, t63, u63]) (hG) hb
        | 24, _, _ =>
          have t68 : a.tmps.getD 68 undef = .pointer (some ⟨r, 7, none⟩) := (show a.tmps.getD 68 undef = x 23 from (hanc 23 (by decide +kernel)).2.1).trans ((hanc 23 (by decide +kernel)).2.2 _ rfl)
          have u68 := (Array.getD_eq_getD_getElem? (xs := a.tmps) (i := 68) (d := undef)).symm.trans t68
          have t63 : a.tmps.getD 63 undef = .bool false := (show a.tmps.getD 63 undef = x 18 from (hanc 18 (by decide +kernel)).2.1).trans ((hanc 18 (by decide +kernel)).2.2 _ rfl)
          have u63 := (Array.getD_eq_getD_getElem? (xs := a.tmps) (i := 63) (d := undef)).symm.trans t63
          exact pstep_det rfl (wanted_slot rfl rfl t63) rfl rfl (by simp [go_sem, t68, u68, t63, u63, hG, c7]) (hG) hb
        | 25, _, _ =>
          have t65 : a.tmps.getD 65 undef = .bool dd := (show a.tmps.getD 65 undef = x 20 from (hanc 20 (by decide +kernel)).2.1).trans ((hanc 20 (by decide +kernel)).2.2 _ rfl)
          have u65 := (Array.getD_eq_getD_getElem? (xs := a.tmps) (i := 65) (d := undef)).symm.trans t65
          have t69 : a.tmps.getD 69 undef = .bool dd := (show a.tmps.getD 69 undef = x 24 from (hanc 24 (by decide +kernel)).2.1).trans ((hanc 24 (by decide +kernel)).2.2 _ rfl)
          have u69 := (Array.getD_eq_getD_getElem? (xs := a.tmps) (i := 69) (d := undef)).symm.trans t69
          have t63 : a.tmps.getD 63 undef = .bool false := (show a.tmps.getD 63 undef = x 18 from (hanc 18 (by decide +kernel)).2.1).trans ((hanc 18 (by decide +kernel)).2.2 _ rfl)
          have u63 := (Array.getD_eq_getD_getElem? (xs := a.tmps) (i := 63) (d := undef)).symm.trans t63
          exact pstep_det rfl (wanted_slot rfl rfl t63) rfl rfl (by simp [go_sem, t65, u65, t69, u69, t63, u63]) (hG) hb
        | 26, _, _ =>
          have t63 : a.tmps.getD 63 undef = .bool false := (show a.tmps.getD 63 undef = x 18 from (hanc 18 (by decide +kernel)).2.1).trans ((hanc 18 (by decide +kernel)).2.2 _ rfl)
          have u63 := (Array.getD_eq_getD_getElem? (xs := a.tmps) (i := 63) (d := undef)).symm.trans t63
          have t70 : a.tmps.getD 70 undef = .bool false := (show a.tmps.getD 70 undef = x 25 from (hanc 25 (by decide +kernel)).2.1).trans ((hanc 25 (by decide +kernel)).2.2 _ rfl)
          have u70 := (Array.getD_eq_getD_getElem? (xs := a.tmps) (i := 70) (d := undef)).symm.trans t70
          exact pstep_det rfl (wanted_none rfl) rfl rfl (by simp [go_sem, t63, u63, t70, u70]) (hG) hb
        | 27, _, _ =>
          have t71 : a.tmps.getD 71 undef = .bool false := (show a.tmps.getD 71 undef = x 26 from (hanc 26 (by decide +kernel)).2.1).trans ((hanc 26 (by decide +kernel)).2.2 _ rfl)
          have u71 := (Array.getD_eq_getD_getElem? (xs := a.tmps) (i := 71) (d := undef)).symm.trans t71
          exact pstep_det rfl (wanted_none rfl) rfl rfl (by simp [go_sem, t71, u71]) (hG) hb
        | (k + 28), _, h => exact absurd h (by omega)
      intro d x w' hb hall hG
      have z9 := (hall 9 (by omega) (by omega)).2 _ rfl
      have z10 := (hall 10 (by omega) (by omega)).2 _ rfl
      have z11 := (hall 11 (by omega) (by omega)).2 _ rfl
      have z12 := (hall 12 (by omega) (by omega)).2 _ rfl
      have z13 := (hall 13 (by omega) (by omega)).2 _ rfl
      have z14 := (hall 14 (by omega) (by omega)).2 _ rfl
      have z15 := (hall 15 (by omega) (by omega)).2 _ rfl
      have z16 := (hall 16 (by omega) (by omega)).2 _ rfl
      have z17 := (hall 17 (by omega) (by omega)).2 _ rfl
      have z18 := (hall 18 (by omega) (by omega)).2 _ rfl
      have z19 := (hall 19 (by omega) (by omega)).2 _ rfl
      have z20 := (hall 20 (by omega) (by omega)).2 _ rfl
      have z21 := (hall 21 (by omega) (by omega)).2 _ rfl
      have z22 := (hall 22 (by omega) (by omega)).2 _ rfl
      have z23 := (hall 23 (by omega) (by omega)).2 _ rfl
      have z24 := (hall 24 (by omega) (by omega)).2 _ rfl
      have z25 := (hall 25 (by omega) (by omega)).2 _ rfl
      have z26 := (hall 26 (by omega) (by omega)).2 _ rfl
      have z27 := (hall 27 (by omega) (by omega)).2 _ rfl
      simp only [pfill, rdst, Nat.reduceAdd, List.getElem?_toArray, List.getElem?_cons_zero, List.getElem?_cons_succ, Option.bind_some, Act.put, List.setIfInBounds_toArray, List.set_cons_zero, List.set_cons_succ, List.drop_succ_cons, List.drop_zero]
      rw [z9, z10, z11, z12, z13, z14, z15, z16, z17, z18, z19, z20, z21, z22, z23, z24, z25, z26, z27]
      clear z9 z10 z11 z12 z13 z14 z15 z16 z17 z18 z19 z20 z21 z22 z23 z24 z25 z26 z27
      have hG := hG.symm
      subst hG
      clear hall hb c3 c7 HPE HDE
      refine phaseJ (fun _ => True) (trivial) (fun | 28 => some (.pointer (some ⟨q, 0, none⟩)) | 29 => some (.slice (some ⟨g, o, none⟩) N lc) | 30 => some (.int .i64 (k : Int)) | 31 => some (.pointer (some P0)) | 32 => some (.pointer (some P1)) | 33 => some (.int .i64 at_) | 35 => some (.string Z) | 36 => some (.pointer (some ⟨r, 0, none⟩)) | 37 => some (.slice (some ⟨g, o, none⟩) N lc) | 38 => some (.int .i64 (k : Int)) | 39 => some (.pointer (some P0)) | 40 => some (.pointer (some P1)) | 41 => some (.int .i64 at_) | 43 => some (.string Z) | 44 => some (.bool false) | 45 => some (.bool false) | _ => none) (PB W1 Xs 34 42) 28 18 105 (by decide) rfl (by kernel_rfl) (by kernel_rfl) (PB.init W1 Xs 34 42) ?_ ?_
      · intro i hmi hi d x a w' hb hsame hanc hdi hdesc hG
        have b2 : a.tmps.getD 2 undef = .slice (some ⟨g, o, none⟩) N lc := by rw [Array.getD_eq_getD_getElem?, hsame 2 (by decide +kernel)]; rfl
        have e2 := (Array.getD_eq_getD_getElem? (xs := a.tmps) (i := 2) (d := undef)).symm.trans b2
        have b7 : a.tmps.getD 7 undef = .pointer (some ⟨q, 0, none⟩) := by rw [Array.getD_eq_getD_getElem?, hsame 7 (by decide +kernel)]; rfl
        have e7 := (Array.getD_eq_getD_getElem? (xs := a.tmps) (i := 7) (d := undef)).symm.trans b7
        have b8 : a.tmps.getD 8 undef = .pointer (some ⟨r, 0, none⟩) := by rw [Array.getD_eq_getD_getElem?, hsame 8 (by decide +kernel)]; rfl
        have e8 := (Array.getD_eq_getD_getElem? (xs := a.tmps) (i := 8) (d := undef)).symm.trans b8
        have b9 : a.tmps.getD 9 undef = .int .i64 (k : Int) := by rw [Array.getD_eq_getD_getElem?, hsame 9 (by decide +kernel)]; rfl
        have e9 := (Array.getD_eq_getD_getElem? (xs := a.tmps) (i := 9) (d := undef)).symm.trans b9
        have b72 : a.tmps.getD 72 undef = .bool false := by rw [Array.getD_eq_getD_getElem?, hsame 72 (by decide +kernel)]; rfl
        have e72 := (Array.getD_eq_getD_getElem? (xs := a.tmps) (i := 72) (d := undef)).symm.trans b72
        match i, hmi, hi with
        | 0, h, _ => exact absurd h (by omega)
        | 1, h, _ => exact absurd h (by omega)
        | 2, h, _ => exact absurd h (by omega)
        | 3, h, _ => exact absurd h (by omega)
        | 4, h, _ => exact absurd h (by omega)
        | 5, h, _ => exact absurd h (by omega)
        | 6, h, _ => exact absurd h (by omega)
        | 7, h, _ => exact absurd h (by omega)
        | 8, h, _ => exact absurd h (by omega)
        | 9, h, _ => exact absurd h (by omega)
        | 10, h, _ => exact absurd h (by omega)
        | 11, h, _ => exact absurd h (by omega)
        | 12, h, _ => exact absurd h (by omega)
        | 13, h, _ => exact absurd h (by omega)
        | 14, h, _ => exact absurd h (by omega)
        | 15, h, _ => exact absurd h (by omega)
        | 16, h, _ => exact absurd h (by omega)
        | 17, h, _ => exact absurd h (by omega)
        | 18, h, _ => exact absurd h (by omega)
        | 19, h, _ => exact absurd h (by omega)
        | 20, h, _ => exact absurd h (by omega)
        | 21, h, _ => exact absurd h (by omega)
        | 22, h, _ => exact absurd h (by omega)
        | 23, h, _ => exact absurd h (by omega)
        | 24, h, _ => exact absurd h (by omega)
        | 25, h, _ => exact absurd h (by omega)
        | 26, h, _ => exact absurd h (by omega)
        | 27, h, _ => exact absurd h (by omega)
        | 28, _, _ =>
          exact pstep_det rfl (wanted_slot rfl rfl b72) rfl rfl (by simp [go_sem, b7, e7, b72, e72]) (hG.other (by decide)) hb
        | 29, _, _ =>
          exact pstep_det rfl (wanted_slot rfl rfl b72) rfl rfl (by simp [go_sem, b2, e2, b72, e72]) (hG.other (by decide)) hb
        | 30, _, _ =>
          exact pstep_det rfl (wanted_slot rfl rfl b72) rfl rfl (by simp [go_sem, b9, e9, b72, e72]) (hG.other (by decide)) hb
        | 31, _, _ =>
          have t74 : a.tmps.getD 74 undef = .slice (some ⟨g, o, none⟩) N lc := (show a.tmps.getD 74 undef = x 29 from (hanc 29 (by decide +kernel)).2.1).trans ((hanc 29 (by decide +kernel)).2.2 _ rfl)
          have u74 := (Array.getD_eq_getD_getElem? (xs := a.tmps) (i := 74) (d := undef)).symm.trans t74
          have t75 : a.tmps.getD 75 undef = .int .i64 (k : Int) := (show a.tmps.getD 75 undef = x 30 from (hanc 30 (by decide +kernel)).2.1).trans ((hanc 30 (by decide +kernel)).2.2 _ rfl)
          have u75 := (Array.getD_eq_getD_getElem? (xs := a.tmps) (i := 75) (d := undef)).symm.trans t75
          exact pstep_det rfl (wanted_slot rfl rfl b72) rfl rfl (by simp [go_sem, t74, u74, t75, u75, b72, e72, hlt, HP0.out]) (hG.other (by decide)) hb
        | 32, _, _ =>
          have t76 : a.tmps.getD 76 undef = .pointer (some P0) := (show a.tmps.getD 76 undef = x 31 from (hanc 31 (by decide +kernel)).2.1).trans ((hanc 31 (by decide +kernel)).2.2 _ rfl)
          have u76 := (Array.getD_eq_getD_getElem? (xs := a.tmps) (i := 76) (d := undef)).symm.trans t76
          exact pstep_det rfl (wanted_slot rfl rfl b72) rfl rfl (by simp [go_sem, t76, u76, b72, e72, HP1.out]) (hG.other (by decide)) hb
        | 33, _, _ =>
          have t77 : a.tmps.getD 77 undef = .pointer (some P1) := (show a.tmps.getD 77 undef = x 32 from (hanc 32 (by decide +kernel)).2.1).trans ((hanc 32 (by decide +kernel)).2.2 _ rfl)
          have u77 := (Array.getD_eq_getD_getElem? (xs := a.tmps) (i := 77) (d := undef)).symm.trans t77
          exact pstep_det rfl (wanted_slot rfl rfl b72) rfl rfl (by simp [go_sem, t77, u77, b72, e72, HAT.out w' hG.below]) (hG.other (by decide)) hb
        | 34, _, _ =>
          have t73 : a.tmps.getD 73 undef = .pointer (some ⟨q, 0, none⟩) := (show a.tmps.getD 73 undef = x 28 from (hanc 28 (by decide +kernel)).2.1).trans ((hanc 28 (by decide +kernel)).2.2 _ rfl)
          have u73 := (Array.getD_eq_getD_getElem? (xs := a.tmps) (i := 73) (d := undef)).symm.trans t73
          have t78 : a.tmps.getD 78 undef = .int .i64 at_ := (show a.tmps.getD 78 undef = x 33 from (hanc 33 (by decide +kernel)).2.1).trans ((hanc 33 (by decide +kernel)).2.2 _ rfl)
          have u78 := (Array.getD_eq_getD_getElem? (xs := a.tmps) (i := 78) (d := undef)).symm.trans t78
          refine pstep_call rfl (wanted_slot rfl rfl b72) rfl (by simp [go_sem, t73, u73, t78, u78, b72, e72]) (HDB.out w' hG.below) ?_
          rintro e w8 ⟨v, rfl, hr, hbw, _⟩
          exact ⟨v, rfl, nofun, hG.call hr hbw, trivial⟩
        | 35, _, _ =>
          have t79 : a.tmps.getD 79 undef = x 34 := (hanc 34 (by decide +kernel)).2.1
          have d34 : d 34 = true := (hanc 34 (by decide +kernel)).1
          have u79 := (Array.getD_eq_getD_getElem? (xs := a.tmps) (i := 79) (d := undef)).symm.trans t79
          have hcv := conv_v (hG.ci d34)
          rw [← HZ.out] at hcv
          exact pstep_det rfl (wanted_slot rfl rfl b72) rfl rfl (by simp [go_sem, t79, u79, b72, e72, hcv]) (hG.other (by decide)) hb
        | 36, _, _ =>
          exact pstep_det rfl (wanted_slot rfl rfl b72) rfl rfl (by simp [go_sem, b8, e8, b72, e72]) (hG.other (by decide)) hb
        | 37, _, _ =>
          exact pstep_det rfl (wanted_slot rfl rfl b72) rfl rfl (by simp [go_sem, b2, e2, b72, e72]) (hG.other (by decide)) hb
        | 38, _, _ =>
          exact pstep_det rfl (wanted_slot rfl rfl b72) rfl rfl (by simp [go_sem, b9, e9, b72, e72]) (hG.other (by decide)) hb
        | 39, _, _ =>
          have t82 : a.tmps.getD 82 undef = .slice (some ⟨g, o, none⟩) N lc := (show a.tmps.getD 82 undef = x 37 from (hanc 37 (by decide +kernel)).2.1).trans ((hanc 37 (by decide +kernel)).2.2 _ rfl)
          have u82 := (Array.getD_eq_getD_getElem? (xs := a.tmps) (i := 82) (d := undef)).symm.trans t82
          have t83 : a.tmps.getD 83 undef = .int .i64 (k : Int) := (show a.tmps.getD 83 undef = x 38 from (hanc 38 (by decide +kernel)).2.1).trans ((hanc 38 (by decide +kernel)).2.2 _ rfl)
          have u83 := (Array.getD_eq_getD_getElem? (xs := a.tmps) (i := 83) (d := undef)).symm.trans t83
          exact pstep_det rfl (wanted_slot rfl rfl b72) rfl rfl (by simp [go_sem, t82, u82, t83, u83, b72, e72, hlt, HP0.out]) (hG.other (by decide)) hb
        | 40, _, _ =>
          have t84 : a.tmps.getD 84 undef = .pointer (some P0) := (show a.tmps.getD 84 undef = x 39 from (hanc 39 (by decide +kernel)).2.1).trans ((hanc 39 (by decide +kernel)).2.2 _ rfl)
          have u84 := (Array.getD_eq_getD_getElem? (xs := a.tmps) (i := 84) (d := undef)).symm.trans t84
          exact pstep_det rfl (wanted_slot rfl rfl b72) rfl rfl (by simp [go_sem, t84, u84, b72, e72, HP1.out]) (hG.other (by decide)) hb
        | 41, _, _ =>
          have t85 : a.tmps.getD 85 undef = .pointer (some P1) := (show a.tmps.getD 85 undef = x 40 from (hanc 40 (by decide +kernel)).2.1).trans ((hanc 40 (by decide +kernel)).2.2 _ rfl)
          have u85 := (Array.getD_eq_getD_getElem? (xs := a.tmps) (i := 85) (d := undef)).symm.trans t85
          exact pstep_det rfl (wanted_slot rfl rfl b72) rfl rfl (by simp [go_sem, t85, u85, b72, e72, HAT.out w' hG.below]) (hG.other (by decide)) hb
        | 42, _, _ =>
          have t81 : a.tmps.getD 81 undef = .pointer (some ⟨r, 0, none⟩) := (show a.tmps.getD 81 undef = x 36 from (hanc 36 (by decide +kernel)).2.1).trans ((hanc 36 (by decide +kernel)).2.2 _ rfl)
          have u81 := (Array.getD_eq_getD_getElem? (xs := a.tmps) (i := 81) (d := undef)).symm.trans t81
          have t86 : a.tmps.getD 86 undef = .int .i64 at_ := (show a.tmps.getD 86 undef = x 41 from (hanc 41 (by decide +kernel)).2.1).trans ((hanc 41 (by decide +kernel)).2.2 _ rfl)
          have u86 := (Array.getD_eq_getD_getElem? (xs := a.tmps) (i := 86) (d := undef)).symm.trans t86
          refine pstep_call rfl (wanted_slot rfl rfl b72) rfl (by simp [go_sem, t81, u81, t86, u86, b72, e72]) (HRB.out w' hG.below) ?_
          rintro e w8 ⟨v, rfl, hr, hbw⟩
          exact ⟨v, rfl, nofun, hG.call hr hbw, trivial⟩
        | 43, _, _ =>
          have t87 : a.tmps.getD 87 undef = x 42 := (hanc 42 (by decide +kernel)).2.1
          have d42 : d 42 = true := (hanc 42 (by decide +kernel)).1
          have u87 := (Array.getD_eq_getD_getElem? (xs := a.tmps) (i := 87) (d := undef)).symm.trans t87
          have hcv := conv_v (hG.cj d42)
          rw [← HZ.out] at hcv
          exact pstep_det rfl (wanted_slot rfl rfl b72) rfl rfl (by simp [go_sem, t87, u87, b72, e72, hcv]) (hG.other (by decide)) hb
        | 44, _, _ =>
          have t80 : a.tmps.getD 80 undef = .string Z := (show a.tmps.getD 80 undef = x 35 from (hanc 35 (by decide +kernel)).2.1).trans ((hanc 35 (by decide +kernel)).2.2 _ rfl)
          have u80 := (Array.getD_eq_getD_getElem? (xs := a.tmps) (i := 80) (d := undef)).symm.trans t80
          have t88 : a.tmps.getD 88 undef = .string Z := (show a.tmps.getD 88 undef = x 43 from (hanc 43 (by decide +kernel)).2.1).trans ((hanc 43 (by decide +kernel)).2.2 _ rfl)
          have u88 := (Array.getD_eq_getD_getElem? (xs := a.tmps) (i := 88) (d := undef)).symm.trans t88
          exact pstep_det rfl (wanted_slot rfl rfl b72) rfl rfl (by simp [go_sem, t80, u80, t88, u88, b72, e72]) (hG.other (by decide)) hb
        | 45, _, _ =>
          have t89 : a.tmps.getD 89 undef = .bool false := (show a.tmps.getD 89 undef = x 44 from (hanc 44 (by decide +kernel)).2.1).trans ((hanc 44 (by decide +kernel)).2.2 _ rfl)
          have u89 := (Array.getD_eq_getD_getElem? (xs := a.tmps) (i := 89) (d := undef)).symm.trans t89
          exact pstep_det rfl (wanted_none rfl) rfl rfl (by simp [go_sem, b72, e72, t89, u89]) (hG.other (by decide)) hb
        | (k + 46), _, h => exact absurd h (by omega)
      intro d x w' hb hall hG
      have z28 := (hall 28 (by omega) (by omega)).2 _ rfl
      have z29 := (hall 29 (by omega) (by omega)).2 _ rfl
      have z30 := (hall 30 (by omega) (by omega)).2 _ rfl
      have z31 := (hall 31 (by omega) (by omega)).2 _ rfl
      have z32 := (hall 32 (by omega) (by omega)).2 _ rfl
      have z33 := (hall 33 (by omega) (by omega)).2 _ rfl
      have z35 := (hall 35 (by omega) (by omega)).2 _ rfl
      have z36 := (hall 36 (by omega) (by omega)).2 _ rfl
      have z37 := (hall 37 (by omega) (by omega)).2 _ rfl
      have z38 := (hall 38 (by omega) (by omega)).2 _ rfl
      have z39 := (hall 39 (by omega) (by omega)).2 _ rfl
      have z40 := (hall 40 (by omega) (by omega)).2 _ rfl
      have z41 := (hall 41 (by omega) (by omega)).2 _ rfl
      have z43 := (hall 43 (by omega) (by omega)).2 _ rfl
      have z44 := (hall 44 (by omega) (by omega)).2 _ rfl
      have z45 := (hall 45 (by omega) (by omega)).2 _ rfl
      simp only [pfill, rdst, Nat.reduceAdd, List.getElem?_toArray, List.getElem?_cons_zero, List.getElem?_cons_succ, Option.bind_some, Act.put, List.setIfInBounds_toArray, List.set_cons_zero, List.set_cons_succ, List.drop_succ_cons, List.drop_zero]
      rw [z28, z29, z30, z31, z32, z33, z35, z36, z37, z38, z39, z40, z41, z43, z44, z45]
      clear z28 z29 z30 z31 z32 z33 z35 z36 z37 z38 z39 z40 z41 z43 z44 z45
      refine phase_end (by kernel_rfl) ?_
      have HK2 := Lib.hid (HK1.out.thenBelow hG.below)
      clear hG hall hb HDB HRB HAT HK1
      go_wp2_with fail
      go_roundw
      · exact ⟨k + 1, by omega, by simp; try omega, by omega, HK2⟩
      · simp [intOf]; omega
    · have hx : N ≤ k ∨ (k < N ∧ 40 ≤ k) := by omega
      clear hlt
      rcases hx with hg1 | ⟨hg1, hg2⟩
      all_goals
        go_wp2_with fail
        go_loopw [10] (fun i W => ∃ m : Nat, m ≤ 12 ∧ i = .int .i64 m ∧ Hid (Acts w q r k W)) (fun i _ => 12 - (intOf i).toNat)
        case atStart => exact ⟨0, Nat.zero_le _, rfl, HK⟩
        case round =>
          clear HK
          obtain ⟨m, hm, rfl, HK⟩ := hrel
          by_cases hlt : m < 12
          · have hg3 : decide ((m : Int) < 12) = true := by simp; omega
            go_wp2_with fail
            refine region_phases (by kernel_rfl) ?_
            have hdr : Below wr.heap.size wr { wr with drawn := wr.drawn + 1 } := ⟨rfl, rfl, rfl, Nat.le_refl _, fun _ _ => rfl⟩
            obtain ⟨W1, hW1⟩ : ∃ W1 : World, W1 = { wr with drawn := wr.drawn + 1 } := ⟨_, rfl⟩
            rw [← hW1] at hdr ⊢
            have HK1 := Lib.hid (HK.out.thenBelow hdr)
            clear HK hdr hW1
            obtain ⟨n1, dd, tA, tc, bs, _, _, _, _, hdb, hrb⟩ := acts_answer HK1.out
            have HDB := Lib.hid (hdb m)
            have HRB := Lib.hid (hrb m)
            obtain ⟨Xs, hXs⟩ : ∃ Xs, Xs = bs m := ⟨_, rfl⟩
            rw [← hXs] at HDB HRB
            obtain ⟨Z, hZ⟩ : ∃ Z, Z = strOfNums Xs := ⟨_, rfl⟩
            have HZ := Lib.hid hZ
            clear hdb hrb hXs hZ
            refine phaseJ (fun _ => True) (trivial) (fun | 0 => some (.pointer (some ⟨q, 0, none⟩)) | 1 => some (.int .i64 (m : Int)) | 3 => some (.string Z) | 4 => some (.pointer (some ⟨r, 0, none⟩)) | 5 => some (.int .i64 (m : Int)) | 7 => some (.string Z) | 8 => some (.bool false) | _ => none) (PB W1 Xs 2 6) 0 9 105 (by decide) rfl (by kernel_rfl) (by kernel_rfl) (PB.init W1 Xs 2 6) ?_ ?_
            · intro i hmi hi d x a w' hb hsame hanc hdi hdesc hG
              have b7 : a.tmps.getD 7 undef = .pointer (some ⟨q, 0, none⟩) := by rw [Array.getD_eq_getD_getElem?, hsame 7 (by decide +kernel)]; rfl
              have e7 := (Array.getD_eq_getD_getElem? (xs := a.tmps) (i := 7) (d := undef)).symm.trans b7
              have b8 : a.tmps.getD 8 undef = .pointer (some ⟨r, 0, none⟩) := by rw [Array.getD_eq_getD_getElem?, hsame 8 (by decide +kernel)]; rfl
              have e8 := (Array.getD_eq_getD_getElem? (xs := a.tmps) (i := 8) (d := undef)).symm.trans b8
              have b10 : a.tmps.getD 10 undef = .int .i64 (m : Int) := by rw [Array.getD_eq_getD_getElem?, hsame 10 (by decide +kernel)]; rfl
              have e10 := (Array.getD_eq_getD_getElem? (xs := a.tmps) (i := 10) (d := undef)).symm.trans b10
              match i, hmi, hi with
              | 0, _, _ =>
                exact pstep_det rfl (wanted_none rfl) rfl rfl (by simp [go_sem, b7, e7]) (hG.other (by decide)) hb
              | 1, _, _ =>
                exact pstep_det rfl (wanted_none rfl) rfl rfl (by simp [go_sem, b10, e10]) (hG.other (by decide)) hb
              | 2, _, _ =>
                have t95 : a.tmps.getD 95 undef = .pointer (some ⟨q, 0, none⟩) := (show a.tmps.getD 95 undef = x 0 from (hanc 0 (by decide +kernel)).2.1).trans ((hanc 0 (by decide +kernel)).2.2 _ rfl)
                have u95 := (Array.getD_eq_getD_getElem? (xs := a.tmps) (i := 95) (d := undef)).symm.trans t95
                have t96 : a.tmps.getD 96 undef = .int .i64 (m : Int) := (show a.tmps.getD 96 undef = x 1 from (hanc 1 (by decide +kernel)).2.1).trans ((hanc 1 (by decide +kernel)).2.2 _ rfl)
                have u96 := (Array.getD_eq_getD_getElem? (xs := a.tmps) (i := 96) (d := undef)).symm.trans t96
                refine pstep_call rfl (wanted_none rfl) rfl (by simp [go_sem, t95, u95, t96, u96]) (HDB.out w' hG.below) ?_
                rintro e w8 ⟨v, rfl, hr, hbw, _⟩
                exact ⟨v, rfl, nofun, hG.call hr hbw, trivial⟩
              | 3, _, _ =>
                have t97 : a.tmps.getD 97 undef = x 2 := (hanc 2 (by decide +kernel)).2.1
                have d2 : d 2 = true := (hanc 2 (by decide +kernel)).1
                have u97 := (Array.getD_eq_getD_getElem? (xs := a.tmps) (i := 97) (d := undef)).symm.trans t97
                have hcv := conv_v (hG.ci d2)
                rw [← HZ.out] at hcv
                exact pstep_det rfl (wanted_none rfl) rfl rfl (by simp [go_sem, t97, u97, hcv]) (hG.other (by decide)) hb
              | 4, _, _ =>
                exact pstep_det rfl (wanted_none rfl) rfl rfl (by simp [go_sem, b8, e8]) (hG.other (by decide)) hb
              | 5, _, _ =>
                exact pstep_det rfl (wanted_none rfl) rfl rfl (by simp [go_sem, b10, e10]) (hG.other (by decide)) hb
              | 6, _, _ =>
                have t99 : a.tmps.getD 99 undef = .pointer (some ⟨r, 0, none⟩) := (show a.tmps.getD 99 undef = x 4 from (hanc 4 (by decide +kernel)).2.1).trans ((hanc 4 (by decide +kernel)).2.2 _ rfl)
                have u99 := (Array.getD_eq_getD_getElem? (xs := a.tmps) (i := 99) (d := undef)).symm.trans t99
                have t100 : a.tmps.getD 100 undef = .int .i64 (m : Int) := (show a.tmps.getD 100 undef = x 5 from (hanc 5 (by decide +kernel)).2.1).trans ((hanc 5 (by decide +kernel)).2.2 _ rfl)
                have u100 := (Array.getD_eq_getD_getElem? (xs := a.tmps) (i := 100) (d := undef)).symm.trans t100
                refine pstep_call rfl (wanted_none rfl) rfl (by simp [go_sem, t99, u99, t100, u100]) (HRB.out w' hG.below) ?_
                rintro e w8 ⟨v, rfl, hr, hbw⟩
                exact ⟨v, rfl, nofun, hG.call hr hbw, trivial⟩
              | 7, _, _ =>
                have t101 : a.tmps.getD 101 undef = x 6 := (hanc 6 (by decide +kernel)).2.1
                have d6 : d 6 = true := (hanc 6 (by decide +kernel)).1
                have u101 := (Array.getD_eq_getD_getElem? (xs := a.tmps) (i := 101) (d := undef)).symm.trans t101
                have hcv := conv_v (hG.cj d6)
                rw [← HZ.out] at hcv
                exact pstep_det rfl (wanted_none rfl) rfl rfl (by simp [go_sem, t101, u101, hcv]) (hG.other (by decide)) hb
              | 8, _, _ =>
                have t98 : a.tmps.getD 98 undef = .string Z := (show a.tmps.getD 98 undef = x 3 from (hanc 3 (by decide +kernel)).2.1).trans ((hanc 3 (by decide +kernel)).2.2 _ rfl)
                have u98 := (Array.getD_eq_getD_getElem? (xs := a.tmps) (i := 98) (d := undef)).symm.trans t98
                have t102 : a.tmps.getD 102 undef = .string Z := (show a.tmps.getD 102 undef = x 7 from (hanc 7 (by decide +kernel)).2.1).trans ((hanc 7 (by decide +kernel)).2.2 _ rfl)
                have u102 := (Array.getD_eq_getD_getElem? (xs := a.tmps) (i := 102) (d := undef)).symm.trans t102
                exact pstep_det rfl (wanted_none rfl) rfl rfl (by simp [go_sem, t98, u98, t102, u102]) (hG.other (by decide)) hb
              | (k + 9), _, h => exact absurd h (by omega)
            intro d x w' hb hall hG
            have z0 := (hall 0 (by omega) (by omega)).2 _ rfl
            have z1 := (hall 1 (by omega) (by omega)).2 _ rfl
            have z3 := (hall 3 (by omega) (by omega)).2 _ rfl
            have z4 := (hall 4 (by omega) (by omega)).2 _ rfl
            have z5 := (hall 5 (by omega) (by omega)).2 _ rfl
            have z7 := (hall 7 (by omega) (by omega)).2 _ rfl
            have z8 := (hall 8 (by omega) (by omega)).2 _ rfl
            simp only [pfill, rdst, Nat.reduceAdd, List.getElem?_toArray, List.getElem?_cons_zero, List.getElem?_cons_succ, Option.bind_some, Act.put, List.setIfInBounds_toArray, List.set_cons_zero, List.set_cons_succ, List.drop_succ_cons, List.drop_zero]
            rw [z0, z1, z3, z4, z5, z7, z8]
            clear z0 z1 z3 z4 z5 z7 z8
            refine phase_end (by kernel_rfl) ?_
            have HK2 := Lib.hid (HK1.out.thenBelow hG.below)
            clear hG hall hb HDB HRB HK1
            go_wp2_with fail
            go_roundw
            · exact ⟨m + 1, by omega, by simp; try omega, HK2⟩
            · simp [intOf]; omega
          · have hg3 : 12 ≤ m := by omega
            clear hlt
            go_wp2_with fail
            refine (lives19_ok wr).mono ?_
            rintro e w9 ⟨rfl, hb9⟩
            have hfin : Hid (RE (.returned (.bool true)) w9) := by
              show RE _ _
              rw [HRE.out]
              exact ⟨rfl, HK.out.below.trans (hb9.mono HK.out.below.size)⟩
            go_wp2_with fail
            exact hfin.out
theorem diskActs_any (w : World) (n : Int) (hn : -9223372036854775808 ≤ n ∧ n ≤ 9223372036854775807) (IA : Option Addr) (img : List Int) (ic : Nat) (hi : Rd (Value.int .u8) w IA img) (hic : img.length ≤ ic ∧ ic ≤ maxLen) (AL : Option Addr) (l : List ActD) (lc : Nat) (hl : ActsIn w AL l) (hll : l.length ≤ lc ∧ lc ≤ maxLen) :
    Calls Try.prog 4 #[.int .i64 n, .slice IA img.length ic, .slice AL l.length lc] w (RetL w (.bool true)) := by
  by_cases hc : img.length ≤ 5000
  · exact diskActs_no w n hn IA img ic hi hic AL l lc hl hll hc
  · exact diskActs_yes w n hn IA img ic hi hic AL l lc hl hll (by omega)
end Go.Proofs.Ytfngadidlmbfdaa
