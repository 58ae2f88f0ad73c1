/-
  Contract of node.Merge: two blocks of one kind.
-/
import Derived.Test.YtfngadidlmbfdaaMerge1
namespace Go.Proofs.Ytfngadidlmbfdaa
open Go.RowKit
set_option linter.unusedSimpArgs false

def mergeG (B : Nat) (la : Bool) (L1 L2 : List (Option Addr × List ByteArray × Nat)) (L3 : List (Option Addr × List Int × Nat)) (Ks Vs : List ByteArray) (Cs : List Int) (d : Nat → Bool) (x : Nat → Value) (w : World) : Prop :=
  (d 7 = true → RdV slv w (x 7) L1) ∧ (d 8 = true → RdV Value.string w (x 8) Ks) ∧ (d 13 = true → RdV slv w (x 13) L2) ∧ (d 14 = true → RdV Value.string w (x 14) Vs) ∧
  (d 19 = true → RdV slv w (x 19) L3) ∧ (d 20 = true → RdV (Value.int .i64) w (x 20) Cs) ∧ (d 21 = true → x 21 = .agg #[.bool la, x 8, x 14, x 20]) ∧
  (d 22 = true → ∃ g, x 22 = .pointer (some ⟨g, 0, none⟩) ∧ B ≤ g ∧ Blk4 w g 25 (.bool false) (.slice none 0 0) (.slice none 0 0) (.slice none 0 0))
theorem mergeG.below {B : Nat} {la : Bool} {L1 L2 : List (Option Addr × List ByteArray × Nat)} {L3 : List (Option Addr × List Int × Nat)} {Ks Vs : List ByteArray} {Cs : List Int} {d : Nat → Bool} {x : Nat → Value} {w w' : World} (h : mergeG B la L1 L2 L3 Ks Vs Cs d x w) (hb : Below w.heap.size w w') : mergeG B la L1 L2 L3 Ks Vs Cs d x w' := by
  obtain ⟨h7, h8, h13, h14, h19, h20, h21, h22⟩ := h
  exact ⟨fun h => (h7 h).below hb, fun h => (h8 h).below hb, fun h => (h13 h).below hb, fun h => (h14 h).below hb, fun h => (h19 h).below hb, fun h => (h20 h).below hb, h21, fun h => by
    obtain ⟨g, h1, h2, h3⟩ := h22 h
    exact ⟨g, h1, h2, h3.below hb⟩⟩

set_option maxRecDepth 100000 in
set_option maxHeartbeats 4000000 in
theorem merge_yesT (K V C K' V' C' : Option Addr) (ka va : List ByteArray) (ca : List Int) (kc vc cc : Nat) (key : ByteArray) (kb vb : List ByteArray) (cb : List Int) (kc' vc' cc' : Nat) (w : World)
    (hk : Rd Value.string w K ka) (hv : Rd Value.string w V va) (hc : Rd (Value.int .i64) w C ca) (hk' : Rd Value.string w K' kb) (hv' : Rd Value.string w V' vb) (hc' : Rd (Value.int .i64) w C' cb)
    (l1 : ka.length ≤ 300) (l2 : va.length ≤ 300) (l3 : ca.length ≤ 300) (l4 : kb.length ≤ 300) (l5 : vb.length ≤ 300) (l6 : cb.length ≤ 300)
    (hA : canB true ka va ca = true) (hB : canB true kb vb cb = true) (ok : Bool) (ks vs : List ByteArray) (cs : List Int)
    (hres : if canB true (mergeK true ka key kb) (va ++ vb) (ca ++ cb) = true ∧ needB true (mergeK true ka key kb) (va ++ vb) (mergeK true ka key kb).length ≤ 509 then ok = true ∧ ks = mergeK true ka key kb ∧ vs = va ++ vb ∧ cs = ca ++ cb else ok = false ∧ ks = [] ∧ vs = [] ∧ cs = []) :
    Calls Try.prog 18 #[.agg #[.bool true, .slice K ka.length kc, .slice V va.length vc, .slice C ca.length cc], .string key, .agg #[.bool true, .slice K' kb.length kc', .slice V' vb.length vc', .slice C' cb.length cc']] w (RetM w ok (ok && true) ks vs cs) := by
  have HW := Lib.hid (((Below.refl w.heap.size w).alloc (Nat.le_refl _) (.cells #[.bool true, .slice K ka.length kc, .slice V va.length vc, .slice C ca.length cc] 25)).alloc (by first | omega | (simp; done) | (simp; omega)) (.cells #[.bool true, .slice K' kb.length kc', .slice V' vb.length vc', .slice C' cb.length cc'] 25) |>.alloc (by first | omega | (simp; done) | (simp; omega)) (.cells #[.bool false, .slice none 0 0, .slice none 0 0, .slice none 0 0] 25))
  have H1 := Lib.hid (fun W (hb : Below w.heap.size w W) => can_any true K V C ka va ca kc vc cc W (hk.below hb) (hv.below hb) (hc.below hb) (by omega) (by omega) (by omega))
  have H2 := Lib.hid (fun W (hb : Below w.heap.size w W) => can_any true K' V' C' kb vb cb kc' vc' cc' W (hk'.below hb) (hv'.below hb) (hc'.below hb) (by omega) (by omega) (by omega))
  have B1 : Hid (Blk4 (((w.alloc (.cells #[.bool true, .slice K ka.length kc, .slice V va.length vc, .slice C ca.length cc] 25)).alloc (.cells #[.bool true, .slice K' kb.length kc', .slice V' vb.length vc', .slice C' cb.length cc'] 25)).alloc (.cells #[.bool false, .slice none 0 0, .slice none 0 0, .slice none 0 0] 25)) w.heap.size 25 (.bool true) (.slice K ka.length kc) (.slice V va.length vc) (.slice C ca.length cc)) :=
    ((blk4_new w _ _ _ _ _).below (below_box _ _)).below (below_box _ _)
  have B2 : Hid (Blk4 (((w.alloc (.cells #[.bool true, .slice K ka.length kc, .slice V va.length vc, .slice C ca.length cc] 25)).alloc (.cells #[.bool true, .slice K' kb.length kc', .slice V' vb.length vc', .slice C' cb.length cc'] 25)).alloc (.cells #[.bool false, .slice none 0 0, .slice none 0 0, .slice none 0 0] 25)) (w.heap.size + 1) 25 (.bool true) (.slice K' kb.length kc') (.slice V' vb.length vc') (.slice C' cb.length cc')) := by
    have := (blk4_new (w.alloc (.cells #[.bool true, .slice K ka.length kc, .slice V va.length vc, .slice C ca.length cc] 25)) 25 (.bool true) (.slice K' kb.length kc') (.slice V' vb.length vc') (.slice C' cb.length cc')).below (below_box _ (.cells #[.bool false, .slice none 0 0, .slice none 0 0, .slice none 0 0] 25))
    simp only [World.size_alloc] at this
    exact this
  have B3 : Hid (Blk4 (((w.alloc (.cells #[.bool true, .slice K ka.length kc, .slice V va.length vc, .slice C ca.length cc] 25)).alloc (.cells #[.bool true, .slice K' kb.length kc', .slice V' vb.length vc', .slice C' cb.length cc'] 25)).alloc (.cells #[.bool false, .slice none 0 0, .slice none 0 0, .slice none 0 0] 25)) (w.heap.size + 1 + 1) 25 (.bool false) (.slice none 0 0) (.slice none 0 0) (.slice none 0 0)) := by
    have := blk4_new ((w.alloc (.cells #[.bool true, .slice K ka.length kc, .slice V va.length vc, .slice C ca.length cc] 25)).alloc (.cells #[.bool true, .slice K' kb.length kc', .slice V' vb.length vc', .slice C' cb.length cc'] 25)) 25 (.bool false) (.slice none 0 0) (.slice none 0 0) (.slice none 0 0)
    simp only [World.size_alloc] at this
    exact this
  have HRD := Lib.hid (And.intro hk (And.intro hv (And.intro hc (And.intro hk' (And.intro hv' hc')))))
  clear hk hv hc hk' hv' hc'
  have HRES := Lib.hid hres; clear hres
  rw [hA] at H1
  rw [hB] at H2
  clear hA hB
  have hee : (true == true) = true := by simp
  obtain ⟨mid, hmid⟩ : ∃ mid, mid = if true then [] else [key] := ⟨_, rfl⟩
  have HMID := Lib.hid hmid; clear hmid
  go_enter Try.func18, Try.ntmps18
  go_wp2_with fail
  refine (H1.out _ HW.out).mono ?_
  rintro e w1 ⟨rfl, hb1⟩
  have HB1 := Lib.hid hb1; clear hb1
  obtain ⟨⟨c0, c1, c2, c3⟩, _⟩ := (B2.out.below HB1.out).cells
  go_wp2_with fail
  refine (H2.out _ (HW.out.trans (HB1.out.mono (by first | omega | (simp; done) | (simp; omega))))).mono ?_
  rintro e w2 ⟨rfl, hb2⟩
  have HB2 := Lib.hid (below_then HB1.out (Nat.le_refl _) hb2); clear hb2 HB1 c0 c1 c2 c3
  have hz0 : w.heap.size < w2.heap.size := by have := HB2.out.size; simp at this; omega
  have hz1 : w.heap.size + 1 < w2.heap.size := by have := HB2.out.size; simp at this; omega
  have hz2 : w.heap.size + 1 + 1 < w2.heap.size := by have := HB2.out.size; simp at this; omega
  obtain ⟨⟨c0, c1, c2, c3⟩, _⟩ := (B1.out.below HB2.out).cells
  obtain ⟨⟨d0, d1, d2, d3⟩, _⟩ := (B2.out.below HB2.out).cells
  go_wp2_with fail
  obtain ⟨M, mc, hM, hRM⟩ : ∃ M mc, Value.slice none 0 0 = .slice M mid.length mc ∧ Rd Value.string (w2.alloc (.cells #[.string key] 9)) M mid := by
    rw [HMID.out]
    exact ⟨none, 0, rfl, Rd.nil⟩
  rw [hM]
  clear hM
  obtain ⟨Ks, hKs⟩ : ∃ Ks, Ks = [(K, ka, kc), (M, mid, mc), (K', kb, kc')].flatMap (·.2.1) := ⟨_, rfl⟩
  obtain ⟨Vs, hVs⟩ : ∃ Vs, Vs = [(V, va, vc), (V', vb, vc')].flatMap (·.2.1) := ⟨_, rfl⟩
  obtain ⟨Cs, hCs⟩ : ∃ Cs, Cs = [(C, ca, cc), (C', cb, cc')].flatMap (·.2.1) := ⟨_, rfl⟩
  have HKS := Lib.hid hKs; clear hKs
  have HVS := Lib.hid hVs; clear hVs
  have HCS := Lib.hid hCs; clear hCs
  have hml : mid.length ≤ 1 := by rw [HMID.out]; split <;> simp
  have hb0 : Below w.heap.size w (w2.alloc (.cells #[.string key] 9)) := (HW.out.trans (HB2.out.mono (by first | omega | (simp; done) | (simp; omega)))).alloc (by first | omega | (simp; done) | (simp; omega)) _
  have k1 : ∀ W, Below (w2.alloc (.cells #[.string key] 9)).heap.size (w2.alloc (.cells #[.string key] 9)) W → Blk4 W w.heap.size 25 (.bool true) (.slice K ka.length kc) (.slice V va.length vc) (.slice C ca.length cc) := fun W hb => ((B1.out.below HB2.out).below (below_box w2 _)).below hb
  have k2 : ∀ W, Below (w2.alloc (.cells #[.string key] 9)).heap.size (w2.alloc (.cells #[.string key] 9)) W → Blk4 W (w.heap.size + 1) 25 (.bool true) (.slice K' kb.length kc') (.slice V' vb.length vc') (.slice C' cb.length cc') := fun W hb => ((B2.out.below HB2.out).below (below_box w2 _)).below hb
  have hx1 : ∀ W, Below (w2.alloc (.cells #[.string key] 9)).heap.size (w2.alloc (.cells #[.string key] 9)) W → ∀ p ∈ [(K, ka, kc), (M, mid, mc), (K', kb, kc')], Rd Value.string W p.1 p.2.1 := by
    intro W hb p hp
    simp only [List.mem_cons, List.not_mem_nil, or_false] at hp
    rcases hp with rfl | rfl | rfl
    · exact (HRD.out.1.below hb0).below hb
    · exact hRM.below hb
    · exact (HRD.out.2.2.2.1.below hb0).below hb
  have hx2 : ∀ W, Below (w2.alloc (.cells #[.string key] 9)).heap.size (w2.alloc (.cells #[.string key] 9)) W → ∀ p ∈ [(V, va, vc), (V', vb, vc')], Rd Value.string W p.1 p.2.1 := by
    intro W hb p hp
    simp only [List.mem_cons, List.not_mem_nil, or_false] at hp
    rcases hp with rfl | rfl
    · exact (HRD.out.2.1.below hb0).below hb
    · exact (HRD.out.2.2.2.2.1.below hb0).below hb
  have hx3 : ∀ W, Below (w2.alloc (.cells #[.string key] 9)).heap.size (w2.alloc (.cells #[.string key] 9)) W → ∀ p ∈ [(C, ca, cc), (C', cb, cc')], Rd (Value.int .i64) W p.1 p.2.1 := by
    intro W hb p hp
    simp only [List.mem_cons, List.not_mem_nil, or_false] at hp
    rcases hp with rfl | rfl
    · exact (HRD.out.2.2.1.below hb0).below hb
    · exact (HRD.out.2.2.2.2.2.below hb0).below hb
  clear c0 c1 c2 c3 d0 d1 d2 d3
  refine region_front (by kernel_rfl) (fun | 0 => some (.pointer (some ⟨w.heap.size, 0, none⟩)) | 1 => some (.bool true) | 2 => some (.pointer (some ⟨w.heap.size, 1, none⟩)) | 3 => some (.slice K ka.length kc) | 4 => some (.slice M mid.length mc) | 5 => some (.pointer (some ⟨w.heap.size + 1, 1, none⟩)) | 6 => some (.slice K' kb.length kc') | 9 => some (.pointer (some ⟨w.heap.size, 2, none⟩)) | 10 => some (.slice V va.length vc) | 11 => some (.pointer (some ⟨w.heap.size + 1, 2, none⟩)) | 12 => some (.slice V' vb.length vc') | 15 => some (.pointer (some ⟨w.heap.size, 3, none⟩)) | 16 => some (.slice C ca.length cc) | 17 => some (.pointer (some ⟨w.heap.size + 1, 3, none⟩)) | 18 => some (.slice C' cb.length cc') | _ => none)
    (mergeG (w2.heap.size + 1) true [(K, ka, kc), (M, mid, mc), (K', kb, kc')] [(V, va, vc), (V', vb, vc')] [(C, ca, cc), (C', cb, cc')] Ks Vs Cs) 23 65 (by decide) rfl (by kernel_rfl) (by kernel_rfl) (by kernel_rfl) (by kernel_rfl) ?_ ?_ ?_
  · intro w' _
    simp [mergeG]
  · intro i hi d x a w' hb hsame hanc hdi hdesc hG
    obtain ⟨⟨c0, c1, c2, c3⟩, _⟩ := (k1 _ hb).cells
    obtain ⟨⟨d0, d1, d2, d3⟩, _⟩ := (k2 _ hb).cells
    have b3 : a.tmps.getD 3 undef = .pointer (some ⟨w.heap.size, 0, none⟩) := by rw [Array.getD_eq_getD_getElem?, hsame 3 (by decide +kernel)]; rfl
    have e3 := (Array.getD_eq_getD_getElem? (xs := a.tmps) (i := 3) (d := undef)).symm.trans b3
    have b5 : a.tmps.getD 5 undef = .pointer (some ⟨w.heap.size + 1, 0, none⟩) := by rw [Array.getD_eq_getD_getElem?, hsame 5 (by decide +kernel)]; rfl
    have e5 := (Array.getD_eq_getD_getElem? (xs := a.tmps) (i := 5) (d := undef)).symm.trans b5
    have b8 : a.tmps.getD 8 undef = .slice M mid.length mc := by rw [Array.getD_eq_getD_getElem?, hsame 8 (by decide +kernel)]; rfl
    have e8 := (Array.getD_eq_getD_getElem? (xs := a.tmps) (i := 8) (d := undef)).symm.trans b8
    match i, hi with
    | 0, _ =>
      exact rstep_det rfl rfl rfl rfl (by simp [go_sem, b3, e3]) (by simpa [mergeG, updB, updV] using hG) hb
    | 1, _ =>
      have t30 : a.tmps.getD 30 undef = .pointer (some ⟨w.heap.size, 0, none⟩) := (show a.tmps.getD 30 undef = x 0 from (hanc 0 (by decide +kernel)).2.1).trans ((hanc 0 (by decide +kernel)).2.2 _ rfl)
      have u30 := (Array.getD_eq_getD_getElem? (xs := a.tmps) (i := 30) (d := undef)).symm.trans t30
      exact rstep_det rfl rfl rfl rfl (by simp [go_sem, t30, u30, c0]) (by simpa [mergeG, updB, updV] using hG) hb
    | 2, _ =>
      exact rstep_det rfl rfl rfl rfl (by simp [go_sem, b3, e3]) (by simpa [mergeG, updB, updV] using hG) hb
    | 3, _ =>
      have t32 : a.tmps.getD 32 undef = .pointer (some ⟨w.heap.size, 1, none⟩) := (show a.tmps.getD 32 undef = x 2 from (hanc 2 (by decide +kernel)).2.1).trans ((hanc 2 (by decide +kernel)).2.2 _ rfl)
      have u32 := (Array.getD_eq_getD_getElem? (xs := a.tmps) (i := 32) (d := undef)).symm.trans t32
      exact rstep_det rfl rfl rfl rfl (by simp [go_sem, t32, u32, c1]) (by simpa [mergeG, updB, updV] using hG) hb
    | 4, _ =>
      exact rstep_det rfl rfl rfl rfl (by simp [go_sem, b8, e8]) (by simpa [mergeG, updB, updV] using hG) hb
    | 5, _ =>
      exact rstep_det rfl rfl rfl rfl (by simp [go_sem, b5, e5]) (by simpa [mergeG, updB, updV] using hG) hb
    | 6, _ =>
      have t35 : a.tmps.getD 35 undef = .pointer (some ⟨w.heap.size + 1, 1, none⟩) := (show a.tmps.getD 35 undef = x 5 from (hanc 5 (by decide +kernel)).2.1).trans ((hanc 5 (by decide +kernel)).2.2 _ rfl)
      have u35 := (Array.getD_eq_getD_getElem? (xs := a.tmps) (i := 35) (d := undef)).symm.trans t35
      exact rstep_det rfl rfl rfl rfl (by simp [go_sem, t35, u35, d1]) (by simpa [mergeG, updB, updV] using hG) hb
    | 7, _ =>
      have t33 : a.tmps.getD 33 undef = .slice K ka.length kc := (show a.tmps.getD 33 undef = x 3 from (hanc 3 (by decide +kernel)).2.1).trans ((hanc 3 (by decide +kernel)).2.2 _ rfl)
      have u33 := (Array.getD_eq_getD_getElem? (xs := a.tmps) (i := 33) (d := undef)).symm.trans t33
      have t34 : a.tmps.getD 34 undef = .slice M mid.length mc := (show a.tmps.getD 34 undef = x 4 from (hanc 4 (by decide +kernel)).2.1).trans ((hanc 4 (by decide +kernel)).2.2 _ rfl)
      have u34 := (Array.getD_eq_getD_getElem? (xs := a.tmps) (i := 34) (d := undef)).symm.trans t34
      have t36 : a.tmps.getD 36 undef = .slice K' kb.length kc' := (show a.tmps.getD 36 undef = x 6 from (hanc 6 (by decide +kernel)).2.1).trans ((hanc 6 (by decide +kernel)).2.2 _ rfl)
      have u36 := (Array.getD_eq_getD_getElem? (xs := a.tmps) (i := 36) (d := undef)).symm.trans t36
      have hnew : RdV slv (w'.alloc (.cells #[.slice K ka.length kc, .slice M mid.length mc, .slice K' kb.length kc'] 22)) (.slice (some ⟨w'.heap.size, 0, none⟩) 3 3) [(K, ka, kc), (M, mid, mc), (K', kb, kc')] := RdV.own (B := w'.heap.size) rfl (own_full w' w'.heap.size 22 1 3 ([(K, ka, kc), (M, mid, mc), (K', kb, kc')].map slv) (Nat.le_refl _) rfl (by simp [maxLen]))
      obtain ⟨h7, h8, h13, h14, h19, h20, h21, h22⟩ := hG.below (below_box w' (.cells #[.slice K ka.length kc, .slice M mid.length mc, .slice K' kb.length kc'] 22))
      exact rstep_run (v := .slice (some ⟨w'.heap.size, 0, none⟩) 3 3) (w' := w'.alloc (.cells #[.slice K ka.length kc, .slice M mid.length mc, .slice K' kb.length kc'] 22)) rfl rfl rfl rfl (by simp [go_sem, t33, u33, t34, u34, t36, u36]) ⟨fun _ => by simpa [updV] using hnew, by simpa [updB, updV] using h8, by simpa [updB, updV] using h13, by simpa [updB, updV] using h14, by simpa [updB, updV] using h19, by simpa [updB, updV] using h20, by simp [updB, updV, hdesc 21 (by decide) (by decide +kernel)], by simpa [updB, updV] using h22⟩ (hb.alloc hb.size _)
    | 8, _ =>
      have t37 : a.tmps.getD 37 undef = x 7 := (hanc 7 (by decide +kernel)).2.1
      have d7 : d 7 = true := (hanc 7 (by decide +kernel)).1
      have u37 := (Array.getD_eq_getD_getElem? (xs := a.tmps) (i := 37) (d := undef)).symm.trans t37
      obtain ⟨A7, c7, e7, _, _, r7⟩ := hG.1 d7
      exact rstep_call (f := 73) (args := #[.slice A7 ([(K, ka, kc), (M, mid, mc), (K', kb, kc')] : List _).length c7]) rfl rfl rfl rfl (by simp [go_sem, t37, u37, e7]) (concatS_any [(K, ka, kc), (M, mid, mc), (K', kb, kc')] A7 c7 w' r7 (hx1 w' hb) (by simp) (by simp [lsum]; omega)) (fun e w1 he => by
        obtain ⟨v1, rfl, hown, hbw⟩ := he
        obtain ⟨h7, h8, h13, h14, h19, h20, h21, h22⟩ := hG.below hbw
        exact ⟨v1, rfl, ⟨by simpa [updB, updV] using h7, fun _ => by rw [updV_same, HKS.out]; exact RdV.own rfl hown, by simpa [updB, updV] using h13, by simpa [updB, updV] using h14, by simpa [updB, updV] using h19, by simpa [updB, updV] using h20, by simp [updB, updV, hdesc 21 (by decide) (by decide +kernel)], by simpa [updB, updV] using h22⟩, below_then hb (Nat.le_refl _) hbw⟩)
    | 9, _ =>
      exact rstep_det rfl rfl rfl rfl (by simp [go_sem, b3, e3]) (by simpa [mergeG, updB, updV] using hG) hb
    | 10, _ =>
      have t39 : a.tmps.getD 39 undef = .pointer (some ⟨w.heap.size, 2, none⟩) := (show a.tmps.getD 39 undef = x 9 from (hanc 9 (by decide +kernel)).2.1).trans ((hanc 9 (by decide +kernel)).2.2 _ rfl)
      have u39 := (Array.getD_eq_getD_getElem? (xs := a.tmps) (i := 39) (d := undef)).symm.trans t39
      exact rstep_det rfl rfl rfl rfl (by simp [go_sem, t39, u39, c2]) (by simpa [mergeG, updB, updV] using hG) hb
    | 11, _ =>
      exact rstep_det rfl rfl rfl rfl (by simp [go_sem, b5, e5]) (by simpa [mergeG, updB, updV] using hG) hb
    | 12, _ =>
      have t41 : a.tmps.getD 41 undef = .pointer (some ⟨w.heap.size + 1, 2, none⟩) := (show a.tmps.getD 41 undef = x 11 from (hanc 11 (by decide +kernel)).2.1).trans ((hanc 11 (by decide +kernel)).2.2 _ rfl)
      have u41 := (Array.getD_eq_getD_getElem? (xs := a.tmps) (i := 41) (d := undef)).symm.trans t41
      exact rstep_det rfl rfl rfl rfl (by simp [go_sem, t41, u41, d2]) (by simpa [mergeG, updB, updV] using hG) hb
    | 13, _ =>
      have t40 : a.tmps.getD 40 undef = .slice V va.length vc := (show a.tmps.getD 40 undef = x 10 from (hanc 10 (by decide +kernel)).2.1).trans ((hanc 10 (by decide +kernel)).2.2 _ rfl)
      have u40 := (Array.getD_eq_getD_getElem? (xs := a.tmps) (i := 40) (d := undef)).symm.trans t40
      have t42 : a.tmps.getD 42 undef = .slice V' vb.length vc' := (show a.tmps.getD 42 undef = x 12 from (hanc 12 (by decide +kernel)).2.1).trans ((hanc 12 (by decide +kernel)).2.2 _ rfl)
      have u42 := (Array.getD_eq_getD_getElem? (xs := a.tmps) (i := 42) (d := undef)).symm.trans t42
      have hnew : RdV slv (w'.alloc (.cells #[.slice V va.length vc, .slice V' vb.length vc'] 22)) (.slice (some ⟨w'.heap.size, 0, none⟩) 2 2) [(V, va, vc), (V', vb, vc')] := RdV.own (B := w'.heap.size) rfl (own_full w' w'.heap.size 22 1 2 ([(V, va, vc), (V', vb, vc')].map slv) (Nat.le_refl _) rfl (by simp [maxLen]))
      obtain ⟨h7, h8, h13, h14, h19, h20, h21, h22⟩ := hG.below (below_box w' (.cells #[.slice V va.length vc, .slice V' vb.length vc'] 22))
      exact rstep_run (v := .slice (some ⟨w'.heap.size, 0, none⟩) 2 2) (w' := w'.alloc (.cells #[.slice V va.length vc, .slice V' vb.length vc'] 22)) rfl rfl rfl rfl (by simp [go_sem, t40, u40, t42, u42]) ⟨by simpa [updB, updV] using h7, by simpa [updB, updV] using h8, fun _ => by simpa [updV] using hnew, by simpa [updB, updV] using h14, by simpa [updB, updV] using h19, by simpa [updB, updV] using h20, by simp [updB, updV, hdesc 21 (by decide) (by decide +kernel)], by simpa [updB, updV] using h22⟩ (hb.alloc hb.size _)
    | 14, _ =>
      have t43 : a.tmps.getD 43 undef = x 13 := (hanc 13 (by decide +kernel)).2.1
      have d13 : d 13 = true := (hanc 13 (by decide +kernel)).1
      have u43 := (Array.getD_eq_getD_getElem? (xs := a.tmps) (i := 43) (d := undef)).symm.trans t43
      obtain ⟨A7, c7, e7, _, _, r7⟩ := hG.2.2.1 d13
      exact rstep_call (f := 73) (args := #[.slice A7 ([(V, va, vc), (V', vb, vc')] : List _).length c7]) rfl rfl rfl rfl (by simp [go_sem, t43, u43, e7]) (concatS_any [(V, va, vc), (V', vb, vc')] A7 c7 w' r7 (hx2 w' hb) (by simp) (by simp [lsum]; omega)) (fun e w1 he => by
        obtain ⟨v1, rfl, hown, hbw⟩ := he
        obtain ⟨h7, h8, h13, h14, h19, h20, h21, h22⟩ := hG.below hbw
        exact ⟨v1, rfl, ⟨by simpa [updB, updV] using h7, by simpa [updB, updV] using h8, by simpa [updB, updV] using h13, fun _ => by rw [updV_same, HVS.out]; exact RdV.own rfl hown, by simpa [updB, updV] using h19, by simpa [updB, updV] using h20, by simp [updB, updV, hdesc 21 (by decide) (by decide +kernel)], by simpa [updB, updV] using h22⟩, below_then hb (Nat.le_refl _) hbw⟩)
    | 15, _ =>
      exact rstep_det rfl rfl rfl rfl (by simp [go_sem, b3, e3]) (by simpa [mergeG, updB, updV] using hG) hb
    | 16, _ =>
      have t45 : a.tmps.getD 45 undef = .pointer (some ⟨w.heap.size, 3, none⟩) := (show a.tmps.getD 45 undef = x 15 from (hanc 15 (by decide +kernel)).2.1).trans ((hanc 15 (by decide +kernel)).2.2 _ rfl)
      have u45 := (Array.getD_eq_getD_getElem? (xs := a.tmps) (i := 45) (d := undef)).symm.trans t45
      exact rstep_det rfl rfl rfl rfl (by simp [go_sem, t45, u45, c3]) (by simpa [mergeG, updB, updV] using hG) hb
    | 17, _ =>
      exact rstep_det rfl rfl rfl rfl (by simp [go_sem, b5, e5]) (by simpa [mergeG, updB, updV] using hG) hb
    | 18, _ =>
      have t47 : a.tmps.getD 47 undef = .pointer (some ⟨w.heap.size + 1, 3, none⟩) := (show a.tmps.getD 47 undef = x 17 from (hanc 17 (by decide +kernel)).2.1).trans ((hanc 17 (by decide +kernel)).2.2 _ rfl)
      have u47 := (Array.getD_eq_getD_getElem? (xs := a.tmps) (i := 47) (d := undef)).symm.trans t47
      exact rstep_det rfl rfl rfl rfl (by simp [go_sem, t47, u47, d3]) (by simpa [mergeG, updB, updV] using hG) hb
    | 19, _ =>
      have t46 : a.tmps.getD 46 undef = .slice C ca.length cc := (show a.tmps.getD 46 undef = x 16 from (hanc 16 (by decide +kernel)).2.1).trans ((hanc 16 (by decide +kernel)).2.2 _ rfl)
      have u46 := (Array.getD_eq_getD_getElem? (xs := a.tmps) (i := 46) (d := undef)).symm.trans t46
      have t48 : a.tmps.getD 48 undef = .slice C' cb.length cc' := (show a.tmps.getD 48 undef = x 18 from (hanc 18 (by decide +kernel)).2.1).trans ((hanc 18 (by decide +kernel)).2.2 _ rfl)
      have u48 := (Array.getD_eq_getD_getElem? (xs := a.tmps) (i := 48) (d := undef)).symm.trans t48
      have hnew : RdV slv (w'.alloc (.cells #[.slice C ca.length cc, .slice C' cb.length cc'] 23)) (.slice (some ⟨w'.heap.size, 0, none⟩) 2 2) [(C, ca, cc), (C', cb, cc')] := RdV.own (B := w'.heap.size) rfl (own_full w' w'.heap.size 23 1 2 ([(C, ca, cc), (C', cb, cc')].map slv) (Nat.le_refl _) rfl (by simp [maxLen]))
      obtain ⟨h7, h8, h13, h14, h19, h20, h21, h22⟩ := hG.below (below_box w' (.cells #[.slice C ca.length cc, .slice C' cb.length cc'] 23))
      exact rstep_run (v := .slice (some ⟨w'.heap.size, 0, none⟩) 2 2) (w' := w'.alloc (.cells #[.slice C ca.length cc, .slice C' cb.length cc'] 23)) rfl rfl rfl rfl (by simp [go_sem, t46, u46, t48, u48]) ⟨by simpa [updB, updV] using h7, by simpa [updB, updV] using h8, by simpa [updB, updV] using h13, by simpa [updB, updV] using h14, fun _ => by simpa [updV] using hnew, by simpa [updB, updV] using h20, by simp [updB, updV, hdesc 21 (by decide) (by decide +kernel)], by simpa [updB, updV] using h22⟩ (hb.alloc hb.size _)
    | 20, _ =>
      have t49 : a.tmps.getD 49 undef = x 19 := (hanc 19 (by decide +kernel)).2.1
      have d19 : d 19 = true := (hanc 19 (by decide +kernel)).1
      have u49 := (Array.getD_eq_getD_getElem? (xs := a.tmps) (i := 49) (d := undef)).symm.trans t49
      obtain ⟨A7, c7, e7, _, _, r7⟩ := hG.2.2.2.2.1 d19
      exact rstep_call (f := 74) (args := #[.slice A7 ([(C, ca, cc), (C', cb, cc')] : List _).length c7]) rfl rfl rfl rfl (by simp [go_sem, t49, u49, e7]) (concatI_any [(C, ca, cc), (C', cb, cc')] A7 c7 w' r7 (hx3 w' hb) (by simp) (by simp [lsum]; omega)) (fun e w1 he => by
        obtain ⟨v1, rfl, hown, hbw⟩ := he
        obtain ⟨h7, h8, h13, h14, h19, h20, h21, h22⟩ := hG.below hbw
        exact ⟨v1, rfl, ⟨by simpa [updB, updV] using h7, by simpa [updB, updV] using h8, by simpa [updB, updV] using h13, by simpa [updB, updV] using h14, by simpa [updB, updV] using h19, fun _ => by rw [updV_same, HCS.out]; exact RdV.own rfl hown, by simp [updB, updV, hdesc 21 (by decide) (by decide +kernel)], by simpa [updB, updV] using h22⟩, below_then hb (Nat.le_refl _) hbw⟩)
    | 21, _ =>
      have t31 : a.tmps.getD 31 undef = .bool true := (show a.tmps.getD 31 undef = x 1 from (hanc 1 (by decide +kernel)).2.1).trans ((hanc 1 (by decide +kernel)).2.2 _ rfl)
      have u31 := (Array.getD_eq_getD_getElem? (xs := a.tmps) (i := 31) (d := undef)).symm.trans t31
      have t38 : a.tmps.getD 38 undef = x 8 := (hanc 8 (by decide +kernel)).2.1
      have d8 : d 8 = true := (hanc 8 (by decide +kernel)).1
      have u38 := (Array.getD_eq_getD_getElem? (xs := a.tmps) (i := 38) (d := undef)).symm.trans t38
      have t44 : a.tmps.getD 44 undef = x 14 := (hanc 14 (by decide +kernel)).2.1
      have d14 : d 14 = true := (hanc 14 (by decide +kernel)).1
      have u44 := (Array.getD_eq_getD_getElem? (xs := a.tmps) (i := 44) (d := undef)).symm.trans t44
      have t50 : a.tmps.getD 50 undef = x 20 := (hanc 20 (by decide +kernel)).2.1
      have d20 : d 20 = true := (hanc 20 (by decide +kernel)).1
      have u50 := (Array.getD_eq_getD_getElem? (xs := a.tmps) (i := 50) (d := undef)).symm.trans t50
      obtain ⟨h7, h8, h13, h14, h19, h20, h21, h22⟩ := hG
      obtain ⟨A5, c5, e5, _⟩ := h8 d8
      obtain ⟨A9, c9, e9, _⟩ := h14 d14
      obtain ⟨A13, c13, e13, _⟩ := h20 d20
      exact rstep_run (v := .agg #[.bool true, x 8, x 14, x 20]) (w' := w') rfl rfl rfl rfl (by simp [go_sem, t31, u31, t38, u38, t44, u44, t50, u50, e5, e9, e13]) ⟨by simpa [updB, updV] using h7, by simpa [updB, updV] using h8, by simpa [updB, updV] using h13, by simpa [updB, updV] using h14, by simpa [updB, updV] using h19, by simpa [updB, updV] using h20, fun _ => by simp [updV], by simpa [updB, updV] using h22⟩ hb
    | 22, _ =>
      obtain ⟨h7, h8, h13, h14, h19, h20, h21, h22⟩ := hG.below (below_box w' (.cells #[.bool false, .slice none 0 0, .slice none 0 0, .slice none 0 0] 25))
      exact rstep_run (v := .pointer (some ⟨w'.heap.size, 0, none⟩)) (w' := w'.alloc (.cells #[.bool false, .slice none 0 0, .slice none 0 0, .slice none 0 0] 25)) rfl rfl rfl rfl (by simp [go_sem]) ⟨by simpa [updB, updV] using h7, by simpa [updB, updV] using h8, by simpa [updB, updV] using h13, by simpa [updB, updV] using h14, by simpa [updB, updV] using h19, by simpa [updB, updV] using h20, by simpa [updB, updV] using h21, fun _ => ⟨w'.heap.size, by simp [updV], (by have := hb.size; simp at this; omega), blk4_new _ _ _ _ _ _⟩⟩ (hb.alloc hb.size _)
    | (m + 23), h => exact absurd h (by omega)
  · intro d x w' hb hall hG
    obtain ⟨_, h8, _, h14, _, h20, h21, h22⟩ := hG
    have e21 := h21 (hall 21 (by omega)).1
    obtain ⟨g, e22, hg1, hg2⟩ := h22 (hall 22 (by omega)).1
    have r8 := Lib.hid (h8 (hall 8 (by omega)).1)
    have r14 := Lib.hid (h14 (hall 14 (by omega)).1)
    have r20 := Lib.hid (h20 (hall 20 (by omega)).1)
    simp only [rfill, rdst, List.getElem?_toArray, List.getElem?_cons_zero, List.getElem?_cons_succ, Option.bind_some, Act.put, List.setIfInBounds_toArray, List.set_cons_zero, List.set_cons_succ, List.drop_succ_cons, List.drop_zero]
    rw [e21, e22]
    clear e21 e22 hall h8 h14 h20 h21 h22
    have b3 := Lib.hid (((B3.out.below HB2.out).below (below_box w2 (.cells #[.string key] 9))).below hb)
    have k1 := Lib.hid (k1 _ hb)
    have k2 := Lib.hid (k2 _ hb)
    have HB := Lib.hid (hb0.trans (hb.mono (hb0.size)))
    have hg0 : w.heap.size < g := by omega
    have hg1' : w.heap.size + 1 < g := by omega
    have hg2' : w.heap.size + 1 + 1 < g := by omega
    clear hb hx1 hx2 hx3
    obtain ⟨A5, c5, e5, m5, n5, q5⟩ := r8.out
    obtain ⟨A9, c9, e9, m9, n9, q9⟩ := r14.out
    obtain ⟨A13, c13, e13, m13, n13, q13⟩ := r20.out
    have HQ := Lib.hid (And.intro q5 (And.intro q9 q13))
    have HG := Lib.hid hg2
    rw [e5, e9, e13]
    obtain ⟨⟨j0, j1, j2, j3⟩, f0, f1, f2, f3⟩ := hg2.cells
    have lks : Ks.length ≤ 601 := by rw [HKS.out]; simp; omega
    have lvs : Vs.length ≤ 600 := by rw [HVS.out]; simp; omega
    have lcs : Cs.length ≤ 600 := by rw [HCS.out]; simp; omega
    have ek := Lib.hid (show Ks = mergeK true ka key kb by rw [HKS.out, HMID.out]; simp [mergeK])
    have ev := Lib.hid (show Vs = va ++ vb by rw [HVS.out]; simp)
    have ec := Lib.hid (show Cs = ca ++ cb by rw [HCS.out]; simp)
    have HL := Lib.hid (And.intro n5 (And.intro m9 (And.intro n9 (And.intro m13 n13))))
    clear e5 e9 e13 q5 q9 q13 hg2 m9 n9 m13 n13 n5
    go_wp2_with fail
    have HZ := Lib.hid (HG.out.zero_no)
    obtain ⟨W, hW⟩ : ∃ W, W = (((w'.setCell ⟨g, 0, none⟩ (.bool true)).setCell ⟨g, 1, none⟩ (.slice A5 Ks.length c5)).setCell ⟨g, 2, none⟩ (.slice A9 Vs.length c9)).setCell ⟨g, 3, none⟩ (.slice A13 Cs.length c13) := ⟨_, rfl⟩
    rw [← hW]
    have hoth : ∀ k, k ≠ g → W.heap[k]? = w'.heap[k]? := by rw [hW]; exact set4_other w' g _ _ _ _
    have P5 := HQ.out.1.off g HZ.out.1 hoth
    have P9 := HQ.out.2.1.off g HZ.out.1 hoth
    have P13 := HQ.out.2.2.off g HZ.out.2 hoth
    have PG : Blk4 W g 25 (.bool true) (.slice A5 Ks.length c5) (.slice A9 Vs.length c9) (.slice A13 Cs.length c13) := by rw [hW]; exact HG.out.set4 _ _ _ _
    have P3 := b3.out.off (by omega) hoth
    have PB : Below w.heap.size w W := by rw [hW]; exact (((HB.out.setCell (by first | omega | (simp; done) | (simp; omega)) _).setCell (by first | omega | (simp; done) | (simp; omega)) _).setCell (by first | omega | (simp; done) | (simp; omega)) _).setCell (by first | omega | (simp; done) | (simp; omega)) _
    have HP := Lib.hid (And.intro P5 (And.intro P9 (And.intro P13 (And.intro PG (And.intro P3 PB)))))
    clear P5 P9 P13 PG P3 PB hoth hW j0 j1 j2 j3 f0 f1 f2 f3 HZ HG HQ HB b3 k1 k2 HCS HVS HKS hRM hml hb0 HMID
    refine (can_any _ A5 A9 A13 Ks Vs Cs c5 c9 c13 _ HP.out.1 HP.out.2.1 HP.out.2.2.1 (by omega) (by omega) (by omega)).mono ?_
    rintro e w3 ⟨rfl, hb3⟩
    have HB3 := Lib.hid hb3; clear hb3
    cases hO : canB true Ks Vs Cs with
    | false =>
      have hr := HRES.out
      rw [← ek.out, ← ev.out, ← ec.out, if_neg (by rw [hO]; simp)] at hr
      obtain ⟨rfl, rfl, rfl, rfl⟩ := hr
      clear hO
      obtain ⟨⟨c0, c1, c2, c3⟩, f0, f1, f2, f3⟩ := (HP.out.2.2.2.2.1.below HB3.out).cells
      go_wp2_with fail
      refine bodyPost_ret (v := .tuple #[.agg #[.bool false, .slice none 0 0, .slice none 0 0, .slice none 0 0], .bool false]) (by simp [results, Try.results18, go_sem, c0, c1, c2, c3]) rfl ⟨_, rfl, blkV_zero _, ?_⟩
      have := below_then HP.out.2.2.2.2.2 (Nat.le_refl _) HB3.out
      exact (((this.setCell (by first | omega | (simp; done) | (simp; omega)) _).setCell (by first | omega | (simp; done) | (simp; omega)) _).setCell (by first | omega | (simp; done) | (simp; omega)) _).setCell (by first | omega | (simp; done) | (simp; omega)) _
    | true =>
      obtain ⟨z1, z2, z3⟩ := canB_sizes hO
      obtain ⟨⟨c0, c1, c2, c3⟩, _⟩ := (HP.out.2.2.2.1.below HB3.out).cells
      have hO' := Lib.hid hO; clear hO
      have HZ := Lib.hid (And.intro z1 (And.intro z2 z3)); clear z1 z2 z3
      have HM5 := Lib.hid m5; clear m5
      go_wp2_with fail
      refine (need_any true A5 A9 A13 Ks Vs Cs c5 c9 c13 Ks.length _ (HP.out.1.below HB3.out) (HP.out.2.1.below HB3.out) HM5.out (Nat.le_refl _) (fun h => by first | (have := HZ.out.2.2 h; omega) | (have := HZ.out.2.2 trivial; omega) | (cases h)) (by omega) HZ.out.1 HZ.out.2.1).mono ?_
      rintro e w4 ⟨rfl, hb4⟩
      have HB4 := Lib.hid (below_then HB3.out (Nat.le_refl _) hb4); clear hb4 HB3 c0 c1 c2 c3
      obtain ⟨N, hN⟩ : ∃ N, N = needB true Ks Vs Ks.length := ⟨_, rfl⟩
      rw [← hN]
      have HN := Lib.hid hN; clear hN
      by_cases hbig : 509 < N
      · have hr := HRES.out
        rw [← ek.out, ← ev.out, ← ec.out, if_neg (fun h => by have := h.2; rw [← HN.out] at this; omega)] at hr
        obtain ⟨rfl, rfl, rfl, rfl⟩ := hr
        obtain ⟨⟨c0, c1, c2, c3⟩, f0, f1, f2, f3⟩ := (HP.out.2.2.2.2.1.below HB4.out).cells
        go_wp2_with fail
        refine bodyPost_ret (v := .tuple #[.agg #[.bool false, .slice none 0 0, .slice none 0 0, .slice none 0 0], .bool false]) (by simp [results, Try.results18, go_sem, c0, c1, c2, c3]) rfl ⟨_, rfl, blkV_zero _, ?_⟩
        have := below_then HP.out.2.2.2.2.2 (Nat.le_refl _) HB4.out
        exact (((this.setCell (by first | omega | (simp; done) | (simp; omega)) _).setCell (by first | omega | (simp; done) | (simp; omega)) _).setCell (by first | omega | (simp; done) | (simp; omega)) _).setCell (by first | omega | (simp; done) | (simp; omega)) _
      · have hr := HRES.out
        rw [← ek.out, ← ev.out, ← ec.out, if_pos ⟨hO'.out, by rw [← HN.out]; omega⟩] at hr
        obtain ⟨rfl, rfl, rfl, rfl⟩ := hr
        obtain ⟨⟨c0, c1, c2, c3⟩, f0, f1, f2, f3⟩ := (HP.out.2.2.2.2.1.below HB4.out).cells
        obtain ⟨⟨d0, d1, d2, d3⟩, _⟩ := (HP.out.2.2.2.1.below HB4.out).cells
        go_wp2_with fail
        have hno := (HP.out.2.2.2.2.1.below HB4.out).zero_no
        have hot := set4_other w4 (w.heap.size + 1 + 1) (.bool true) (.slice A5 ks.length c5) (.slice A9 vs.length c9) (.slice A13 cs.length c13)
        refine bodyPost_ret (v := .tuple #[.agg #[.bool true, .slice A5 ks.length c5, .slice A9 vs.length c9, .slice A13 cs.length c13], .bool true]) (by simp [results, Try.results18, go_sem, c0, c1, c2, c3]) rfl
          ⟨_, rfl, ⟨_, _, _, rfl, ⟨A5, c5, rfl, HM5.out, HL.out.1, (HP.out.1.below HB4.out).off _ hno.1 hot⟩, ⟨A9, c9, rfl, HL.out.2.1, HL.out.2.2.1, (HP.out.2.1.below HB4.out).off _ hno.1 hot⟩, ⟨A13, c13, rfl, HL.out.2.2.2.1, HL.out.2.2.2.2, (HP.out.2.2.1.below HB4.out).off _ hno.2 hot⟩⟩, ?_⟩
        have := below_then HP.out.2.2.2.2.2 (Nat.le_refl _) HB4.out
        exact (((this.setCell (by first | omega | (simp; done) | (simp; omega)) _).setCell (by first | omega | (simp; done) | (simp; omega)) _).setCell (by first | omega | (simp; done) | (simp; omega)) _).setCell (by first | omega | (simp; done) | (simp; omega)) _
set_option maxRecDepth 100000 in
set_option maxHeartbeats 4000000 in
theorem merge_yesF (K V C K' V' C' : Option Addr) (ka va : List ByteArray) (ca : List Int) (kc vc cc : Nat) (key : ByteArray) (kb vb : List ByteArray) (cb : List Int) (kc' vc' cc' : Nat) (w : World)
    (hk : Rd Value.string w K ka) (hv : Rd Value.string w V va) (hc : Rd (Value.int .i64) w C ca) (hk' : Rd Value.string w K' kb) (hv' : Rd Value.string w V' vb) (hc' : Rd (Value.int .i64) w C' cb)
    (l1 : ka.length ≤ 300) (l2 : va.length ≤ 300) (l3 : ca.length ≤ 300) (l4 : kb.length ≤ 300) (l5 : vb.length ≤ 300) (l6 : cb.length ≤ 300)
    (hA : canB false ka va ca = true) (hB : canB false kb vb cb = true) (ok : Bool) (ks vs : List ByteArray) (cs : List Int)
    (hres : if canB false (mergeK false ka key kb) (va ++ vb) (ca ++ cb) = true ∧ needB false (mergeK false ka key kb) (va ++ vb) (mergeK false ka key kb).length ≤ 509 then ok = true ∧ ks = mergeK false ka key kb ∧ vs = va ++ vb ∧ cs = ca ++ cb else ok = false ∧ ks = [] ∧ vs = [] ∧ cs = []) :
    Calls Try.prog 18 #[.agg #[.bool false, .slice K ka.length kc, .slice V va.length vc, .slice C ca.length cc], .string key, .agg #[.bool false, .slice K' kb.length kc', .slice V' vb.length vc', .slice C' cb.length cc']] w (RetM w ok (ok && false) ks vs cs) := by
  have HW := Lib.hid (((Below.refl w.heap.size w).alloc (Nat.le_refl _) (.cells #[.bool false, .slice K ka.length kc, .slice V va.length vc, .slice C ca.length cc] 25)).alloc (by first | omega | (simp; done) | (simp; omega)) (.cells #[.bool false, .slice K' kb.length kc', .slice V' vb.length vc', .slice C' cb.length cc'] 25) |>.alloc (by first | omega | (simp; done) | (simp; omega)) (.cells #[.bool false, .slice none 0 0, .slice none 0 0, .slice none 0 0] 25))
  have H1 := Lib.hid (fun W (hb : Below w.heap.size w W) => can_any false K V C ka va ca kc vc cc W (hk.below hb) (hv.below hb) (hc.below hb) (by omega) (by omega) (by omega))
  have H2 := Lib.hid (fun W (hb : Below w.heap.size w W) => can_any false K' V' C' kb vb cb kc' vc' cc' W (hk'.below hb) (hv'.below hb) (hc'.below hb) (by omega) (by omega) (by omega))
  have B1 : Hid (Blk4 (((w.alloc (.cells #[.bool false, .slice K ka.length kc, .slice V va.length vc, .slice C ca.length cc] 25)).alloc (.cells #[.bool false, .slice K' kb.length kc', .slice V' vb.length vc', .slice C' cb.length cc'] 25)).alloc (.cells #[.bool false, .slice none 0 0, .slice none 0 0, .slice none 0 0] 25)) w.heap.size 25 (.bool false) (.slice K ka.length kc) (.slice V va.length vc) (.slice C ca.length cc)) :=
    ((blk4_new w _ _ _ _ _).below (below_box _ _)).below (below_box _ _)
  have B2 : Hid (Blk4 (((w.alloc (.cells #[.bool false, .slice K ka.length kc, .slice V va.length vc, .slice C ca.length cc] 25)).alloc (.cells #[.bool false, .slice K' kb.length kc', .slice V' vb.length vc', .slice C' cb.length cc'] 25)).alloc (.cells #[.bool false, .slice none 0 0, .slice none 0 0, .slice none 0 0] 25)) (w.heap.size + 1) 25 (.bool false) (.slice K' kb.length kc') (.slice V' vb.length vc') (.slice C' cb.length cc')) := by
    have := (blk4_new (w.alloc (.cells #[.bool false, .slice K ka.length kc, .slice V va.length vc, .slice C ca.length cc] 25)) 25 (.bool false) (.slice K' kb.length kc') (.slice V' vb.length vc') (.slice C' cb.length cc')).below (below_box _ (.cells #[.bool false, .slice none 0 0, .slice none 0 0, .slice none 0 0] 25))
    simp only [World.size_alloc] at this
    exact this
  have B3 : Hid (Blk4 (((w.alloc (.cells #[.bool false, .slice K ka.length kc, .slice V va.length vc, .slice C ca.length cc] 25)).alloc (.cells #[.bool false, .slice K' kb.length kc', .slice V' vb.length vc', .slice C' cb.length cc'] 25)).alloc (.cells #[.bool false, .slice none 0 0, .slice none 0 0, .slice none 0 0] 25)) (w.heap.size + 1 + 1) 25 (.bool false) (.slice none 0 0) (.slice none 0 0) (.slice none 0 0)) := by
    have := blk4_new ((w.alloc (.cells #[.bool false, .slice K ka.length kc, .slice V va.length vc, .slice C ca.length cc] 25)).alloc (.cells #[.bool false, .slice K' kb.length kc', .slice V' vb.length vc', .slice C' cb.length cc'] 25)) 25 (.bool false) (.slice none 0 0) (.slice none 0 0) (.slice none 0 0)
    simp only [World.size_alloc] at this
    exact this
  have HRD := Lib.hid (And.intro hk (And.intro hv (And.intro hc (And.intro hk' (And.intro hv' hc')))))
  clear hk hv hc hk' hv' hc'
  have HRES := Lib.hid hres; clear hres
  rw [hA] at H1
  rw [hB] at H2
  clear hA hB
  have hee : (false == false) = true := by simp
  obtain ⟨mid, hmid⟩ : ∃ mid, mid = if false then [] else [key] := ⟨_, rfl⟩
  have HMID := Lib.hid hmid; clear hmid
  go_enter Try.func18, Try.ntmps18
  go_wp2_with fail
  refine (H1.out _ HW.out).mono ?_
  rintro e w1 ⟨rfl, hb1⟩
  have HB1 := Lib.hid hb1; clear hb1
  obtain ⟨⟨c0, c1, c2, c3⟩, _⟩ := (B2.out.below HB1.out).cells
  go_wp2_with fail
  refine (H2.out _ (HW.out.trans (HB1.out.mono (by first | omega | (simp; done) | (simp; omega))))).mono ?_
  rintro e w2 ⟨rfl, hb2⟩
  have HB2 := Lib.hid (below_then HB1.out (Nat.le_refl _) hb2); clear hb2 HB1 c0 c1 c2 c3
  have hz0 : w.heap.size < w2.heap.size := by have := HB2.out.size; simp at this; omega
  have hz1 : w.heap.size + 1 < w2.heap.size := by have := HB2.out.size; simp at this; omega
  have hz2 : w.heap.size + 1 + 1 < w2.heap.size := by have := HB2.out.size; simp at this; omega
  obtain ⟨⟨c0, c1, c2, c3⟩, _⟩ := (B1.out.below HB2.out).cells
  obtain ⟨⟨d0, d1, d2, d3⟩, _⟩ := (B2.out.below HB2.out).cells
  go_wp2_with fail
  obtain ⟨M, mc, hM, hRM⟩ : ∃ M mc, Value.slice (some ⟨w2.heap.size, 0, none⟩) 1 1 = .slice M mid.length mc ∧ Rd Value.string (w2.alloc (.cells #[.string key] 9)) M mid := by
    rw [HMID.out]
    exact ⟨some ⟨w2.heap.size, 0, none⟩, 1, rfl, RdC.rd (n := 1) (rdC_new w2 1 9 1 [.string key] rfl)⟩
  rw [hM]
  clear hM
  obtain ⟨Ks, hKs⟩ : ∃ Ks, Ks = [(K, ka, kc), (M, mid, mc), (K', kb, kc')].flatMap (·.2.1) := ⟨_, rfl⟩
  obtain ⟨Vs, hVs⟩ : ∃ Vs, Vs = [(V, va, vc), (V', vb, vc')].flatMap (·.2.1) := ⟨_, rfl⟩
  obtain ⟨Cs, hCs⟩ : ∃ Cs, Cs = [(C, ca, cc), (C', cb, cc')].flatMap (·.2.1) := ⟨_, rfl⟩
  have HKS := Lib.hid hKs; clear hKs
  have HVS := Lib.hid hVs; clear hVs
  have HCS := Lib.hid hCs; clear hCs
  have hml : mid.length ≤ 1 := by rw [HMID.out]; split <;> simp
  have hb0 : Below w.heap.size w (w2.alloc (.cells #[.string key] 9)) := (HW.out.trans (HB2.out.mono (by first | omega | (simp; done) | (simp; omega)))).alloc (by first | omega | (simp; done) | (simp; omega)) _
  have k1 : ∀ W, Below (w2.alloc (.cells #[.string key] 9)).heap.size (w2.alloc (.cells #[.string key] 9)) W → Blk4 W w.heap.size 25 (.bool false) (.slice K ka.length kc) (.slice V va.length vc) (.slice C ca.length cc) := fun W hb => ((B1.out.below HB2.out).below (below_box w2 _)).below hb
  have k2 : ∀ W, Below (w2.alloc (.cells #[.string key] 9)).heap.size (w2.alloc (.cells #[.string key] 9)) W → Blk4 W (w.heap.size + 1) 25 (.bool false) (.slice K' kb.length kc') (.slice V' vb.length vc') (.slice C' cb.length cc') := fun W hb => ((B2.out.below HB2.out).below (below_box w2 _)).below hb
  have hx1 : ∀ W, Below (w2.alloc (.cells #[.string key] 9)).heap.size (w2.alloc (.cells #[.string key] 9)) W → ∀ p ∈ [(K, ka, kc), (M, mid, mc), (K', kb, kc')], Rd Value.string W p.1 p.2.1 := by
    intro W hb p hp
    simp only [List.mem_cons, List.not_mem_nil, or_false] at hp
    rcases hp with rfl | rfl | rfl
    · exact (HRD.out.1.below hb0).below hb
    · exact hRM.below hb
    · exact (HRD.out.2.2.2.1.below hb0).below hb
  have hx2 : ∀ W, Below (w2.alloc (.cells #[.string key] 9)).heap.size (w2.alloc (.cells #[.string key] 9)) W → ∀ p ∈ [(V, va, vc), (V', vb, vc')], Rd Value.string W p.1 p.2.1 := by
    intro W hb p hp
    simp only [List.mem_cons, List.not_mem_nil, or_false] at hp
    rcases hp with rfl | rfl
    · exact (HRD.out.2.1.below hb0).below hb
    · exact (HRD.out.2.2.2.2.1.below hb0).below hb
  have hx3 : ∀ W, Below (w2.alloc (.cells #[.string key] 9)).heap.size (w2.alloc (.cells #[.string key] 9)) W → ∀ p ∈ [(C, ca, cc), (C', cb, cc')], Rd (Value.int .i64) W p.1 p.2.1 := by
    intro W hb p hp
    simp only [List.mem_cons, List.not_mem_nil, or_false] at hp
    rcases hp with rfl | rfl
    · exact (HRD.out.2.2.1.below hb0).below hb
    · exact (HRD.out.2.2.2.2.2.below hb0).below hb
  clear c0 c1 c2 c3 d0 d1 d2 d3
  refine region_front (by kernel_rfl) (fun | 0 => some (.pointer (some ⟨w.heap.size, 0, none⟩)) | 1 => some (.bool false) | 2 => some (.pointer (some ⟨w.heap.size, 1, none⟩)) | 3 => some (.slice K ka.length kc) | 4 => some (.slice M mid.length mc) | 5 => some (.pointer (some ⟨w.heap.size + 1, 1, none⟩)) | 6 => some (.slice K' kb.length kc') | 9 => some (.pointer (some ⟨w.heap.size, 2, none⟩)) | 10 => some (.slice V va.length vc) | 11 => some (.pointer (some ⟨w.heap.size + 1, 2, none⟩)) | 12 => some (.slice V' vb.length vc') | 15 => some (.pointer (some ⟨w.heap.size, 3, none⟩)) | 16 => some (.slice C ca.length cc) | 17 => some (.pointer (some ⟨w.heap.size + 1, 3, none⟩)) | 18 => some (.slice C' cb.length cc') | _ => none)
    (mergeG (w2.heap.size + 1) false [(K, ka, kc), (M, mid, mc), (K', kb, kc')] [(V, va, vc), (V', vb, vc')] [(C, ca, cc), (C', cb, cc')] Ks Vs Cs) 23 65 (by decide) rfl (by kernel_rfl) (by kernel_rfl) (by kernel_rfl) (by kernel_rfl) ?_ ?_ ?_
  · intro w' _
    simp [mergeG]
  · intro i hi d x a w' hb hsame hanc hdi hdesc hG
    obtain ⟨⟨c0, c1, c2, c3⟩, _⟩ := (k1 _ hb).cells
    obtain ⟨⟨d0, d1, d2, d3⟩, _⟩ := (k2 _ hb).cells
    have b3 : a.tmps.getD 3 undef = .pointer (some ⟨w.heap.size, 0, none⟩) := by rw [Array.getD_eq_getD_getElem?, hsame 3 (by decide +kernel)]; rfl
    have e3 := (Array.getD_eq_getD_getElem? (xs := a.tmps) (i := 3) (d := undef)).symm.trans b3
    have b5 : a.tmps.getD 5 undef = .pointer (some ⟨w.heap.size + 1, 0, none⟩) := by rw [Array.getD_eq_getD_getElem?, hsame 5 (by decide +kernel)]; rfl
    have e5 := (Array.getD_eq_getD_getElem? (xs := a.tmps) (i := 5) (d := undef)).symm.trans b5
    have b8 : a.tmps.getD 8 undef = .slice M mid.length mc := by rw [Array.getD_eq_getD_getElem?, hsame 8 (by decide +kernel)]; rfl
    have e8 := (Array.getD_eq_getD_getElem? (xs := a.tmps) (i := 8) (d := undef)).symm.trans b8
    match i, hi with
    | 0, _ =>
      exact rstep_det rfl rfl rfl rfl (by simp [go_sem, b3, e3]) (by simpa [mergeG, updB, updV] using hG) hb
    | 1, _ =>
      have t30 : a.tmps.getD 30 undef = .pointer (some ⟨w.heap.size, 0, none⟩) := (show a.tmps.getD 30 undef = x 0 from (hanc 0 (by decide +kernel)).2.1).trans ((hanc 0 (by decide +kernel)).2.2 _ rfl)
      have u30 := (Array.getD_eq_getD_getElem? (xs := a.tmps) (i := 30) (d := undef)).symm.trans t30
      exact rstep_det rfl rfl rfl rfl (by simp [go_sem, t30, u30, c0]) (by simpa [mergeG, updB, updV] using hG) hb
    | 2, _ =>
      exact rstep_det rfl rfl rfl rfl (by simp [go_sem, b3, e3]) (by simpa [mergeG, updB, updV] using hG) hb
    | 3, _ =>
      have t32 : a.tmps.getD 32 undef = .pointer (some ⟨w.heap.size, 1, none⟩) := (show a.tmps.getD 32 undef = x 2 from (hanc 2 (by decide +kernel)).2.1).trans ((hanc 2 (by decide +kernel)).2.2 _ rfl)
      have u32 := (Array.getD_eq_getD_getElem? (xs := a.tmps) (i := 32) (d := undef)).symm.trans t32
      exact rstep_det rfl rfl rfl rfl (by simp [go_sem, t32, u32, c1]) (by simpa [mergeG, updB, updV] using hG) hb
    | 4, _ =>
      exact rstep_det rfl rfl rfl rfl (by simp [go_sem, b8, e8]) (by simpa [mergeG, updB, updV] using hG) hb
    | 5, _ =>
      exact rstep_det rfl rfl rfl rfl (by simp [go_sem, b5, e5]) (by simpa [mergeG, updB, updV] using hG) hb
    | 6, _ =>
      have t35 : a.tmps.getD 35 undef = .pointer (some ⟨w.heap.size + 1, 1, none⟩) := (show a.tmps.getD 35 undef = x 5 from (hanc 5 (by decide +kernel)).2.1).trans ((hanc 5 (by decide +kernel)).2.2 _ rfl)
      have u35 := (Array.getD_eq_getD_getElem? (xs := a.tmps) (i := 35) (d := undef)).symm.trans t35
      exact rstep_det rfl rfl rfl rfl (by simp [go_sem, t35, u35, d1]) (by simpa [mergeG, updB, updV] using hG) hb
    | 7, _ =>
      have t33 : a.tmps.getD 33 undef = .slice K ka.length kc := (show a.tmps.getD 33 undef = x 3 from (hanc 3 (by decide +kernel)).2.1).trans ((hanc 3 (by decide +kernel)).2.2 _ rfl)
      have u33 := (Array.getD_eq_getD_getElem? (xs := a.tmps) (i := 33) (d := undef)).symm.trans t33
      have t34 : a.tmps.getD 34 undef = .slice M mid.length mc := (show a.tmps.getD 34 undef = x 4 from (hanc 4 (by decide +kernel)).2.1).trans ((hanc 4 (by decide +kernel)).2.2 _ rfl)
      have u34 := (Array.getD_eq_getD_getElem? (xs := a.tmps) (i := 34) (d := undef)).symm.trans t34
      have t36 : a.tmps.getD 36 undef = .slice K' kb.length kc' := (show a.tmps.getD 36 undef = x 6 from (hanc 6 (by decide +kernel)).2.1).trans ((hanc 6 (by decide +kernel)).2.2 _ rfl)
      have u36 := (Array.getD_eq_getD_getElem? (xs := a.tmps) (i := 36) (d := undef)).symm.trans t36
      have hnew : RdV slv (w'.alloc (.cells #[.slice K ka.length kc, .slice M mid.length mc, .slice K' kb.length kc'] 22)) (.slice (some ⟨w'.heap.size, 0, none⟩) 3 3) [(K, ka, kc), (M, mid, mc), (K', kb, kc')] := RdV.own (B := w'.heap.size) rfl (own_full w' w'.heap.size 22 1 3 ([(K, ka, kc), (M, mid, mc), (K', kb, kc')].map slv) (Nat.le_refl _) rfl (by simp [maxLen]))
      obtain ⟨h7, h8, h13, h14, h19, h20, h21, h22⟩ := hG.below (below_box w' (.cells #[.slice K ka.length kc, .slice M mid.length mc, .slice K' kb.length kc'] 22))
      exact rstep_run (v := .slice (some ⟨w'.heap.size, 0, none⟩) 3 3) (w' := w'.alloc (.cells #[.slice K ka.length kc, .slice M mid.length mc, .slice K' kb.length kc'] 22)) rfl rfl rfl rfl (by simp [go_sem, t33, u33, t34, u34, t36, u36]) ⟨fun _ => by simpa [updV] using hnew, by simpa [updB, updV] using h8, by simpa [updB, updV] using h13, by simpa [updB, updV] using h14, by simpa [updB, updV] using h19, by simpa [updB, updV] using h20, by simp [updB, updV, hdesc 21 (by decide) (by decide +kernel)], by simpa [updB, updV] using h22⟩ (hb.alloc hb.size _)
    | 8, _ =>
      have t37 : a.tmps.getD 37 undef = x 7 := (hanc 7 (by decide +kernel)).2.1
      have d7 : d 7 = true := (hanc 7 (by decide +kernel)).1
      have u37 := (Array.getD_eq_getD_getElem? (xs := a.tmps) (i := 37) (d := undef)).symm.trans t37
      obtain ⟨A7, c7, e7, _, _, r7⟩ := hG.1 d7
      exact rstep_call (f := 73) (args := #[.slice A7 ([(K, ka, kc), (M, mid, mc), (K', kb, kc')] : List _).length c7]) rfl rfl rfl rfl (by simp [go_sem, t37, u37, e7]) (concatS_any [(K, ka, kc), (M, mid, mc), (K', kb, kc')] A7 c7 w' r7 (hx1 w' hb) (by simp) (by simp [lsum]; omega)) (fun e w1 he => by
        obtain ⟨v1, rfl, hown, hbw⟩ := he
        obtain ⟨h7, h8, h13, h14, h19, h20, h21, h22⟩ := hG.below hbw
        exact ⟨v1, rfl, ⟨by simpa [updB, updV] using h7, fun _ => by rw [updV_same, HKS.out]; exact RdV.own rfl hown, by simpa [updB, updV] using h13, by simpa [updB, updV] using h14, by simpa [updB, updV] using h19, by simpa [updB, updV] using h20, by simp [updB, updV, hdesc 21 (by decide) (by decide +kernel)], by simpa [updB, updV] using h22⟩, below_then hb (Nat.le_refl _) hbw⟩)
    | 9, _ =>
      exact rstep_det rfl rfl rfl rfl (by simp [go_sem, b3, e3]) (by simpa [mergeG, updB, updV] using hG) hb
    | 10, _ =>
      have t39 : a.tmps.getD 39 undef = .pointer (some ⟨w.heap.size, 2, none⟩) := (show a.tmps.getD 39 undef = x 9 from (hanc 9 (by decide +kernel)).2.1).trans ((hanc 9 (by decide +kernel)).2.2 _ rfl)
      have u39 := (Array.getD_eq_getD_getElem? (xs := a.tmps) (i := 39) (d := undef)).symm.trans t39
      exact rstep_det rfl rfl rfl rfl (by simp [go_sem, t39, u39, c2]) (by simpa [mergeG, updB, updV] using hG) hb
    | 11, _ =>
      exact rstep_det rfl rfl rfl rfl (by simp [go_sem, b5, e5]) (by simpa [mergeG, updB, updV] using hG) hb
    | 12, _ =>
      have t41 : a.tmps.getD 41 undef = .pointer (some ⟨w.heap.size + 1, 2, none⟩) := (show a.tmps.getD 41 undef = x 11 from (hanc 11 (by decide +kernel)).2.1).trans ((hanc 11 (by decide +kernel)).2.2 _ rfl)
      have u41 := (Array.getD_eq_getD_getElem? (xs := a.tmps) (i := 41) (d := undef)).symm.trans t41
      exact rstep_det rfl rfl rfl rfl (by simp [go_sem, t41, u41, d2]) (by simpa [mergeG, updB, updV] using hG) hb
    | 13, _ =>
      have t40 : a.tmps.getD 40 undef = .slice V va.length vc := (show a.tmps.getD 40 undef = x 10 from (hanc 10 (by decide +kernel)).2.1).trans ((hanc 10 (by decide +kernel)).2.2 _ rfl)
      have u40 := (Array.getD_eq_getD_getElem? (xs := a.tmps) (i := 40) (d := undef)).symm.trans t40
      have t42 : a.tmps.getD 42 undef = .slice V' vb.length vc' := (show a.tmps.getD 42 undef = x 12 from (hanc 12 (by decide +kernel)).2.1).trans ((hanc 12 (by decide +kernel)).2.2 _ rfl)
      have u42 := (Array.getD_eq_getD_getElem? (xs := a.tmps) (i := 42) (d := undef)).symm.trans t42
      have hnew : RdV slv (w'.alloc (.cells #[.slice V va.length vc, .slice V' vb.length vc'] 22)) (.slice (some ⟨w'.heap.size, 0, none⟩) 2 2) [(V, va, vc), (V', vb, vc')] := RdV.own (B := w'.heap.size) rfl (own_full w' w'.heap.size 22 1 2 ([(V, va, vc), (V', vb, vc')].map slv) (Nat.le_refl _) rfl (by simp [maxLen]))
      obtain ⟨h7, h8, h13, h14, h19, h20, h21, h22⟩ := hG.below (below_box w' (.cells #[.slice V va.length vc, .slice V' vb.length vc'] 22))
      exact rstep_run (v := .slice (some ⟨w'.heap.size, 0, none⟩) 2 2) (w' := w'.alloc (.cells #[.slice V va.length vc, .slice V' vb.length vc'] 22)) rfl rfl rfl rfl (by simp [go_sem, t40, u40, t42, u42]) ⟨by simpa [updB, updV] using h7, by simpa [updB, updV] using h8, fun _ => by simpa [updV] using hnew, by simpa [updB, updV] using h14, by simpa [updB, updV] using h19, by simpa [updB, updV] using h20, by simp [updB, updV, hdesc 21 (by decide) (by decide +kernel)], by simpa [updB, updV] using h22⟩ (hb.alloc hb.size _)
    | 14, _ =>
      have t43 : a.tmps.getD 43 undef = x 13 := (hanc 13 (by decide +kernel)).2.1
      have d13 : d 13 = true := (hanc 13 (by decide +kernel)).1
      have u43 := (Array.getD_eq_getD_getElem? (xs := a.tmps) (i := 43) (d := undef)).symm.trans t43
      obtain ⟨A7, c7, e7, _, _, r7⟩ := hG.2.2.1 d13
      exact rstep_call (f := 73) (args := #[.slice A7 ([(V, va, vc), (V', vb, vc')] : List _).length c7]) rfl rfl rfl rfl (by simp [go_sem, t43, u43, e7]) (concatS_any [(V, va, vc), (V', vb, vc')] A7 c7 w' r7 (hx2 w' hb) (by simp) (by simp [lsum]; omega)) (fun e w1 he => by
        obtain ⟨v1, rfl, hown, hbw⟩ := he
        obtain ⟨h7, h8, h13, h14, h19, h20, h21, h22⟩ := hG.below hbw
        exact ⟨v1, rfl, ⟨by simpa [updB, updV] using h7, by simpa [updB, updV] using h8, by simpa [updB, updV] using h13, fun _ => by rw [updV_same, HVS.out]; exact RdV.own rfl hown, by simpa [updB, updV] using h19, by simpa [updB, updV] using h20, by simp [updB, updV, hdesc 21 (by decide) (by decide +kernel)], by simpa [updB, updV] using h22⟩, below_then hb (Nat.le_refl _) hbw⟩)
    | 15, _ =>
      exact rstep_det rfl rfl rfl rfl (by simp [go_sem, b3, e3]) (by simpa [mergeG, updB, updV] using hG) hb
    | 16, _ =>
      have t45 : a.tmps.getD 45 undef = .pointer (some ⟨w.heap.size, 3, none⟩) := (show a.tmps.getD 45 undef = x 15 from (hanc 15 (by decide +kernel)).2.1).trans ((hanc 15 (by decide +kernel)).2.2 _ rfl)
      have u45 := (Array.getD_eq_getD_getElem? (xs := a.tmps) (i := 45) (d := undef)).symm.trans t45
      exact rstep_det rfl rfl rfl rfl (by simp [go_sem, t45, u45, c3]) (by simpa [mergeG, updB, updV] using hG) hb
    | 17, _ =>
      exact rstep_det rfl rfl rfl rfl (by simp [go_sem, b5, e5]) (by simpa [mergeG, updB, updV] using hG) hb
    | 18, _ =>
      have t47 : a.tmps.getD 47 undef = .pointer (some ⟨w.heap.size + 1, 3, none⟩) := (show a.tmps.getD 47 undef = x 17 from (hanc 17 (by decide +kernel)).2.1).trans ((hanc 17 (by decide +kernel)).2.2 _ rfl)
      have u47 := (Array.getD_eq_getD_getElem? (xs := a.tmps) (i := 47) (d := undef)).symm.trans t47
      exact rstep_det rfl rfl rfl rfl (by simp [go_sem, t47, u47, d3]) (by simpa [mergeG, updB, updV] using hG) hb
    | 19, _ =>
      have t46 : a.tmps.getD 46 undef = .slice C ca.length cc := (show a.tmps.getD 46 undef = x 16 from (hanc 16 (by decide +kernel)).2.1).trans ((hanc 16 (by decide +kernel)).2.2 _ rfl)
      have u46 := (Array.getD_eq_getD_getElem? (xs := a.tmps) (i := 46) (d := undef)).symm.trans t46
      have t48 : a.tmps.getD 48 undef = .slice C' cb.length cc' := (show a.tmps.getD 48 undef = x 18 from (hanc 18 (by decide +kernel)).2.1).trans ((hanc 18 (by decide +kernel)).2.2 _ rfl)
      have u48 := (Array.getD_eq_getD_getElem? (xs := a.tmps) (i := 48) (d := undef)).symm.trans t48
      have hnew : RdV slv (w'.alloc (.cells #[.slice C ca.length cc, .slice C' cb.length cc'] 23)) (.slice (some ⟨w'.heap.size, 0, none⟩) 2 2) [(C, ca, cc), (C', cb, cc')] := RdV.own (B := w'.heap.size) rfl (own_full w' w'.heap.size 23 1 2 ([(C, ca, cc), (C', cb, cc')].map slv) (Nat.le_refl _) rfl (by simp [maxLen]))
      obtain ⟨h7, h8, h13, h14, h19, h20, h21, h22⟩ := hG.below (below_box w' (.cells #[.slice C ca.length cc, .slice C' cb.length cc'] 23))
      exact rstep_run (v := .slice (some ⟨w'.heap.size, 0, none⟩) 2 2) (w' := w'.alloc (.cells #[.slice C ca.length cc, .slice C' cb.length cc'] 23)) rfl rfl rfl rfl (by simp [go_sem, t46, u46, t48, u48]) ⟨by simpa [updB, updV] using h7, by simpa [updB, updV] using h8, by simpa [updB, updV] using h13, by simpa [updB, updV] using h14, fun _ => by simpa [updV] using hnew, by simpa [updB, updV] using h20, by simp [updB, updV, hdesc 21 (by decide) (by decide +kernel)], by simpa [updB, updV] using h22⟩ (hb.alloc hb.size _)
    | 20, _ =>
      have t49 : a.tmps.getD 49 undef = x 19 := (hanc 19 (by decide +kernel)).2.1
      have d19 : d 19 = true := (hanc 19 (by decide +kernel)).1
      have u49 := (Array.getD_eq_getD_getElem? (xs := a.tmps) (i := 49) (d := undef)).symm.trans t49
      obtain ⟨A7, c7, e7, _, _, r7⟩ := hG.2.2.2.2.1 d19
      exact rstep_call (f := 74) (args := #[.slice A7 ([(C, ca, cc), (C', cb, cc')] : List _).length c7]) rfl rfl rfl rfl (by simp [go_sem, t49, u49, e7]) (concatI_any [(C, ca, cc), (C', cb, cc')] A7 c7 w' r7 (hx3 w' hb) (by simp) (by simp [lsum]; omega)) (fun e w1 he => by
        obtain ⟨v1, rfl, hown, hbw⟩ := he
        obtain ⟨h7, h8, h13, h14, h19, h20, h21, h22⟩ := hG.below hbw
        exact ⟨v1, rfl, ⟨by simpa [updB, updV] using h7, by simpa [updB, updV] using h8, by simpa [updB, updV] using h13, by simpa [updB, updV] using h14, by simpa [updB, updV] using h19, fun _ => by rw [updV_same, HCS.out]; exact RdV.own rfl hown, by simp [updB, updV, hdesc 21 (by decide) (by decide +kernel)], by simpa [updB, updV] using h22⟩, below_then hb (Nat.le_refl _) hbw⟩)
    | 21, _ =>
      have t31 : a.tmps.getD 31 undef = .bool false := (show a.tmps.getD 31 undef = x 1 from (hanc 1 (by decide +kernel)).2.1).trans ((hanc 1 (by decide +kernel)).2.2 _ rfl)
      have u31 := (Array.getD_eq_getD_getElem? (xs := a.tmps) (i := 31) (d := undef)).symm.trans t31
      have t38 : a.tmps.getD 38 undef = x 8 := (hanc 8 (by decide +kernel)).2.1
      have d8 : d 8 = true := (hanc 8 (by decide +kernel)).1
      have u38 := (Array.getD_eq_getD_getElem? (xs := a.tmps) (i := 38) (d := undef)).symm.trans t38
      have t44 : a.tmps.getD 44 undef = x 14 := (hanc 14 (by decide +kernel)).2.1
      have d14 : d 14 = true := (hanc 14 (by decide +kernel)).1
      have u44 := (Array.getD_eq_getD_getElem? (xs := a.tmps) (i := 44) (d := undef)).symm.trans t44
      have t50 : a.tmps.getD 50 undef = x 20 := (hanc 20 (by decide +kernel)).2.1
      have d20 : d 20 = true := (hanc 20 (by decide +kernel)).1
      have u50 := (Array.getD_eq_getD_getElem? (xs := a.tmps) (i := 50) (d := undef)).symm.trans t50
      obtain ⟨h7, h8, h13, h14, h19, h20, h21, h22⟩ := hG
      obtain ⟨A5, c5, e5, _⟩ := h8 d8
      obtain ⟨A9, c9, e9, _⟩ := h14 d14
      obtain ⟨A13, c13, e13, _⟩ := h20 d20
      exact rstep_run (v := .agg #[.bool false, x 8, x 14, x 20]) (w' := w') rfl rfl rfl rfl (by simp [go_sem, t31, u31, t38, u38, t44, u44, t50, u50, e5, e9, e13]) ⟨by simpa [updB, updV] using h7, by simpa [updB, updV] using h8, by simpa [updB, updV] using h13, by simpa [updB, updV] using h14, by simpa [updB, updV] using h19, by simpa [updB, updV] using h20, fun _ => by simp [updV], by simpa [updB, updV] using h22⟩ hb
    | 22, _ =>
      obtain ⟨h7, h8, h13, h14, h19, h20, h21, h22⟩ := hG.below (below_box w' (.cells #[.bool false, .slice none 0 0, .slice none 0 0, .slice none 0 0] 25))
      exact rstep_run (v := .pointer (some ⟨w'.heap.size, 0, none⟩)) (w' := w'.alloc (.cells #[.bool false, .slice none 0 0, .slice none 0 0, .slice none 0 0] 25)) rfl rfl rfl rfl (by simp [go_sem]) ⟨by simpa [updB, updV] using h7, by simpa [updB, updV] using h8, by simpa [updB, updV] using h13, by simpa [updB, updV] using h14, by simpa [updB, updV] using h19, by simpa [updB, updV] using h20, by simpa [updB, updV] using h21, fun _ => ⟨w'.heap.size, by simp [updV], (by have := hb.size; simp at this; omega), blk4_new _ _ _ _ _ _⟩⟩ (hb.alloc hb.size _)
    | (m + 23), h => exact absurd h (by omega)
  · intro d x w' hb hall hG
    obtain ⟨_, h8, _, h14, _, h20, h21, h22⟩ := hG
    have e21 := h21 (hall 21 (by omega)).1
    obtain ⟨g, e22, hg1, hg2⟩ := h22 (hall 22 (by omega)).1
    have r8 := Lib.hid (h8 (hall 8 (by omega)).1)
    have r14 := Lib.hid (h14 (hall 14 (by omega)).1)
    have r20 := Lib.hid (h20 (hall 20 (by omega)).1)
    simp only [rfill, rdst, List.getElem?_toArray, List.getElem?_cons_zero, List.getElem?_cons_succ, Option.bind_some, Act.put, List.setIfInBounds_toArray, List.set_cons_zero, List.set_cons_succ, List.drop_succ_cons, List.drop_zero]
    rw [e21, e22]
    clear e21 e22 hall h8 h14 h20 h21 h22
    have b3 := Lib.hid (((B3.out.below HB2.out).below (below_box w2 (.cells #[.string key] 9))).below hb)
    have k1 := Lib.hid (k1 _ hb)
    have k2 := Lib.hid (k2 _ hb)
    have HB := Lib.hid (hb0.trans (hb.mono (hb0.size)))
    have hg0 : w.heap.size < g := by omega
    have hg1' : w.heap.size + 1 < g := by omega
    have hg2' : w.heap.size + 1 + 1 < g := by omega
    clear hb hx1 hx2 hx3
    obtain ⟨A5, c5, e5, m5, n5, q5⟩ := r8.out
    obtain ⟨A9, c9, e9, m9, n9, q9⟩ := r14.out
    obtain ⟨A13, c13, e13, m13, n13, q13⟩ := r20.out
    have HQ := Lib.hid (And.intro q5 (And.intro q9 q13))
    have HG := Lib.hid hg2
    rw [e5, e9, e13]
    obtain ⟨⟨j0, j1, j2, j3⟩, f0, f1, f2, f3⟩ := hg2.cells
    have lks : Ks.length ≤ 601 := by rw [HKS.out]; simp; omega
    have lvs : Vs.length ≤ 600 := by rw [HVS.out]; simp; omega
    have lcs : Cs.length ≤ 600 := by rw [HCS.out]; simp; omega
    have ek := Lib.hid (show Ks = mergeK false ka key kb by rw [HKS.out, HMID.out]; simp [mergeK])
    have ev := Lib.hid (show Vs = va ++ vb by rw [HVS.out]; simp)
    have ec := Lib.hid (show Cs = ca ++ cb by rw [HCS.out]; simp)
    have HL := Lib.hid (And.intro n5 (And.intro m9 (And.intro n9 (And.intro m13 n13))))
    clear e5 e9 e13 q5 q9 q13 hg2 m9 n9 m13 n13 n5
    go_wp2_with fail
    have HZ := Lib.hid (HG.out.zero_no)
    obtain ⟨W, hW⟩ : ∃ W, W = (((w'.setCell ⟨g, 0, none⟩ (.bool false)).setCell ⟨g, 1, none⟩ (.slice A5 Ks.length c5)).setCell ⟨g, 2, none⟩ (.slice A9 Vs.length c9)).setCell ⟨g, 3, none⟩ (.slice A13 Cs.length c13) := ⟨_, rfl⟩
    rw [← hW]
    have hoth : ∀ k, k ≠ g → W.heap[k]? = w'.heap[k]? := by rw [hW]; exact set4_other w' g _ _ _ _
    have P5 := HQ.out.1.off g HZ.out.1 hoth
    have P9 := HQ.out.2.1.off g HZ.out.1 hoth
    have P13 := HQ.out.2.2.off g HZ.out.2 hoth
    have PG : Blk4 W g 25 (.bool false) (.slice A5 Ks.length c5) (.slice A9 Vs.length c9) (.slice A13 Cs.length c13) := by rw [hW]; exact HG.out.set4 _ _ _ _
    have P3 := b3.out.off (by omega) hoth
    have PB : Below w.heap.size w W := by rw [hW]; exact (((HB.out.setCell (by first | omega | (simp; done) | (simp; omega)) _).setCell (by first | omega | (simp; done) | (simp; omega)) _).setCell (by first | omega | (simp; done) | (simp; omega)) _).setCell (by first | omega | (simp; done) | (simp; omega)) _
    have HP := Lib.hid (And.intro P5 (And.intro P9 (And.intro P13 (And.intro PG (And.intro P3 PB)))))
    clear P5 P9 P13 PG P3 PB hoth hW j0 j1 j2 j3 f0 f1 f2 f3 HZ HG HQ HB b3 k1 k2 HCS HVS HKS hRM hml hb0 HMID
    refine (can_any _ A5 A9 A13 Ks Vs Cs c5 c9 c13 _ HP.out.1 HP.out.2.1 HP.out.2.2.1 (by omega) (by omega) (by omega)).mono ?_
    rintro e w3 ⟨rfl, hb3⟩
    have HB3 := Lib.hid hb3; clear hb3
    cases hO : canB false Ks Vs Cs with
    | false =>
      have hr := HRES.out
      rw [← ek.out, ← ev.out, ← ec.out, if_neg (by rw [hO]; simp)] at hr
      obtain ⟨rfl, rfl, rfl, rfl⟩ := hr
      clear hO
      obtain ⟨⟨c0, c1, c2, c3⟩, f0, f1, f2, f3⟩ := (HP.out.2.2.2.2.1.below HB3.out).cells
      go_wp2_with fail
      refine bodyPost_ret (v := .tuple #[.agg #[.bool false, .slice none 0 0, .slice none 0 0, .slice none 0 0], .bool false]) (by simp [results, Try.results18, go_sem, c0, c1, c2, c3]) rfl ⟨_, rfl, blkV_zero _, ?_⟩
      have := below_then HP.out.2.2.2.2.2 (Nat.le_refl _) HB3.out
      exact (((this.setCell (by first | omega | (simp; done) | (simp; omega)) _).setCell (by first | omega | (simp; done) | (simp; omega)) _).setCell (by first | omega | (simp; done) | (simp; omega)) _).setCell (by first | omega | (simp; done) | (simp; omega)) _
    | true =>
      obtain ⟨z1, z2, z3⟩ := canB_sizes hO
      obtain ⟨⟨c0, c1, c2, c3⟩, _⟩ := (HP.out.2.2.2.1.below HB3.out).cells
      have hO' := Lib.hid hO; clear hO
      have HZ := Lib.hid (And.intro z1 (And.intro z2 z3)); clear z1 z2 z3
      have HM5 := Lib.hid m5; clear m5
      go_wp2_with fail
      refine (need_any false A5 A9 A13 Ks Vs Cs c5 c9 c13 Ks.length _ (HP.out.1.below HB3.out) (HP.out.2.1.below HB3.out) HM5.out (Nat.le_refl _) (fun h => by first | (have := HZ.out.2.2 h; omega) | (have := HZ.out.2.2 trivial; omega) | (cases h)) (by omega) HZ.out.1 HZ.out.2.1).mono ?_
      rintro e w4 ⟨rfl, hb4⟩
      have HB4 := Lib.hid (below_then HB3.out (Nat.le_refl _) hb4); clear hb4 HB3 c0 c1 c2 c3
      obtain ⟨N, hN⟩ : ∃ N, N = needB false Ks Vs Ks.length := ⟨_, rfl⟩
      rw [← hN]
      have HN := Lib.hid hN; clear hN
      by_cases hbig : 509 < N
      · have hr := HRES.out
        rw [← ek.out, ← ev.out, ← ec.out, if_neg (fun h => by have := h.2; rw [← HN.out] at this; omega)] at hr
        obtain ⟨rfl, rfl, rfl, rfl⟩ := hr
        obtain ⟨⟨c0, c1, c2, c3⟩, f0, f1, f2, f3⟩ := (HP.out.2.2.2.2.1.below HB4.out).cells
        go_wp2_with fail
        refine bodyPost_ret (v := .tuple #[.agg #[.bool false, .slice none 0 0, .slice none 0 0, .slice none 0 0], .bool false]) (by simp [results, Try.results18, go_sem, c0, c1, c2, c3]) rfl ⟨_, rfl, blkV_zero _, ?_⟩
        have := below_then HP.out.2.2.2.2.2 (Nat.le_refl _) HB4.out
        exact (((this.setCell (by first | omega | (simp; done) | (simp; omega)) _).setCell (by first | omega | (simp; done) | (simp; omega)) _).setCell (by first | omega | (simp; done) | (simp; omega)) _).setCell (by first | omega | (simp; done) | (simp; omega)) _
      · have hr := HRES.out
        rw [← ek.out, ← ev.out, ← ec.out, if_pos ⟨hO'.out, by rw [← HN.out]; omega⟩] at hr
        obtain ⟨rfl, rfl, rfl, rfl⟩ := hr
        obtain ⟨⟨c0, c1, c2, c3⟩, f0, f1, f2, f3⟩ := (HP.out.2.2.2.2.1.below HB4.out).cells
        obtain ⟨⟨d0, d1, d2, d3⟩, _⟩ := (HP.out.2.2.2.1.below HB4.out).cells
        go_wp2_with fail
        have hno := (HP.out.2.2.2.2.1.below HB4.out).zero_no
        have hot := set4_other w4 (w.heap.size + 1 + 1) (.bool false) (.slice A5 ks.length c5) (.slice A9 vs.length c9) (.slice A13 cs.length c13)
        refine bodyPost_ret (v := .tuple #[.agg #[.bool false, .slice A5 ks.length c5, .slice A9 vs.length c9, .slice A13 cs.length c13], .bool true]) (by simp [results, Try.results18, go_sem, c0, c1, c2, c3]) rfl
          ⟨_, rfl, ⟨_, _, _, rfl, ⟨A5, c5, rfl, HM5.out, HL.out.1, (HP.out.1.below HB4.out).off _ hno.1 hot⟩, ⟨A9, c9, rfl, HL.out.2.1, HL.out.2.2.1, (HP.out.2.1.below HB4.out).off _ hno.1 hot⟩, ⟨A13, c13, rfl, HL.out.2.2.2.1, HL.out.2.2.2.2, (HP.out.2.2.1.below HB4.out).off _ hno.2 hot⟩⟩, ?_⟩
        have := below_then HP.out.2.2.2.2.2 (Nat.le_refl _) HB4.out
        exact (((this.setCell (by first | omega | (simp; done) | (simp; omega)) _).setCell (by first | omega | (simp; done) | (simp; omega)) _).setCell (by first | omega | (simp; done) | (simp; omega)) _).setCell (by first | omega | (simp; done) | (simp; omega)) _
end Go.Proofs.Ytfngadidlmbfdaa
