/-
  The walk of NodeMerges.
-/
import Derived.Test.YtfngadidlmbfdaaMerge1
import Derived.Test.YtfngadidlmbfdaaNode5
import Derived.Test.YtfngadidlmbfdaaFew
import Derived.Test.YtfngadidlmbfdaaRMerge1
namespace Go.Proofs.Ytfngadidlmbfdaa
open Go.RowKit
set_option linter.unusedSimpArgs false
theorem BlkV.below2 {w w' : World} {lf : Bool} {ks vs : List ByteArray} {cs : List Int} {v : Value} (h : BlkV w lf ks vs cs v) (hb : Below w.heap.size w w') : BlkV w' lf ks vs cs v := by
  obtain ⟨K, V, C, rfl, h1, h2, h3⟩ := h
  exact ⟨K, V, C, rfl, h1.below hb, h2.below hb, h3.below hb⟩
/-- What a Merge does, by its number. -/
def Merges2 (f : Nat) (la : Bool) (ka va : List ByteArray) (ca : List Int) (key : ByteArray) (lb : Bool) (kb vb : List ByteArray) (cb : List Int) (ok lf : Bool) (ks vs : List ByteArray) (cs : List Int) : Prop :=
  ∀ (K V C K' V' C' : Option Addr) (kc vc cc kc' vc' cc' : Nat) (w : World), Rd Value.string w K ka → Rd Value.string w V va → Rd (Value.int .i64) w C ca → Rd Value.string w K' kb → Rd Value.string w V' vb → Rd (Value.int .i64) w C' cb →
    Calls Try.prog f #[.agg #[.bool la, .slice K ka.length kc, .slice V va.length vc, .slice C ca.length cc], .string key, .agg #[.bool lb, .slice K' kb.length kc', .slice V' vb.length vc', .slice C' cb.length cc']] w (RetM w ok lf ks vs cs)
def nmG (B : Nat) (la : Bool) (ka va : List ByteArray) (ca : List Int) (lb : Bool) (kb vb : List ByteArray) (cb : List Int) (ok lf : Bool) (ks vs : List ByteArray) (cs : List Int) (d : Nat → Bool) (x : Nat → Value) (w : World) : Prop :=
  (d 1 = true → BlkV w la ka va ca (x 1)) ∧ (d 4 = true → BlkV w lb kb vb cb (x 4)) ∧ (d 5 = true → ∃ v, x 5 = .tuple #[v, .bool ok] ∧ BlkV w lf ks vs cs v) ∧ (d 6 = true → ∃ v, x 6 = .tuple #[v, .bool ok] ∧ BlkV w lf ks vs cs v) ∧
  (d 7 = true → BlkV w lf ks vs cs (x 7)) ∧
  (d 9 = true → ∃ g, x 9 = .pointer (some ⟨g, 0, none⟩) ∧ B ≤ g ∧ (d 10 = false → Blk4 w g 25 (.bool false) (.slice none 0 0) (.slice none 0 0) (.slice none 0 0)) ∧
    (d 10 = true → ∃ K V C, x 7 = .agg #[.bool lf, K, V, C] ∧ Blk4 w g 25 (.bool lf) K V C))
theorem nmG.below {B : Nat} {la : Bool} {ka va : List ByteArray} {ca : List Int} {lb : Bool} {kb vb : List ByteArray} {cb : List Int} {ok lf : Bool} {ks vs : List ByteArray} {cs : List Int} {d : Nat → Bool} {x : Nat → Value} {w w' : World} (h : nmG B la ka va ca lb kb vb cb ok lf ks vs cs d x w) (hb : Below w.heap.size w w') : nmG B la ka va ca lb kb vb cb ok lf ks vs cs d x w' := by
  obtain ⟨h1, h4, h5, h6, h7, h9⟩ := h
  refine ⟨fun h => (h1 h).below2 hb, fun h => (h4 h).below2 hb, fun h => ?_, fun h => ?_, fun h => (h7 h).below2 hb, fun h => ?_⟩
  · obtain ⟨v, e, hv⟩ := h5 h; exact ⟨v, e, hv.below2 hb⟩
  · obtain ⟨v, e, hv⟩ := h6 h; exact ⟨v, e, hv.below2 hb⟩
  · obtain ⟨g, e, hg, hv, hv'⟩ := h9 h
    exact ⟨g, e, hg, fun h => (hv h).below hb, fun h => by obtain ⟨K, V, C, e, hk⟩ := hv' h; exact ⟨K, V, C, e, hk.below hb⟩⟩
theorem BlkV.off {w w' : World} {lf : Bool} {ks vs : List ByteArray} {cs : List Int} {v : Value} {g t : Nat} (h : BlkV w lf ks vs cs v) (hz : Blk4 w g t (.bool false) (.slice none 0 0) (.slice none 0 0) (.slice none 0 0)) (hk : ∀ k, k ≠ g → w'.heap[k]? = w.heap[k]?) : BlkV w' lf ks vs cs v := by
  obtain ⟨K, V, C, rfl, h1, h2, h3⟩ := h
  exact ⟨K, V, C, rfl, h1.off g hz.zero_no.1 hk, h2.off g hz.zero_no.1 hk, h3.off g hz.zero_no.2 hk⟩
section
variable {P : Program} {ops : Array Oper} {Q : Exit → Act → World → Prop} {w0 : World} {D : Nat → Option Value} {G : (Nat → Bool) → (Nat → Value) → World → Prop} {i : Nat} {d : Nat → Bool} {x : Nat → Value} {a : Act} {w : World}
/-- An operation that gives nothing. -/
theorem rstep_skip {o : Oper} {w' : World} (ho : ops[i]? = some o) (hg : o.guard = none) (hd : o.dst = none) (hD : D i = none) (hrun : (execOp a.eval o).run P w = .ok .skip w')
    (hG : G (updB d i) (updV x i undef) w') (hb : Below w0.heap.size w0 w') : RStep P ops Q w0 D G i d x a w := by
  have hr : rdst ops i = none := by simp [rdst, ho, hd]
  unfold RStep wpOp
  rw [ho]
  simp only [Region.wanted, hg, if_true]
  refine .inl ?_
  unfold Oper.wp
  rw [hrun]
  show _
  exact ⟨undef, by rw [hr, hd], fun _ => rfl, (fun c' h => by rw [hD] at h; cases h), hG, hb⟩
end

set_option maxRecDepth 100000 in
set_option maxHeartbeats 4000000 in
theorem nodeMerges_few (K V C K' V' C' : Option Addr) (la : Bool) (ka va : List ByteArray) (ca : List Int) (kc vc cc : Nat) (key : ByteArray) (lb : Bool) (kb vb : List ByteArray) (cb : List Int) (kc' vc' cc' : Nat) (w : World)
    (hk : Rd Value.string w K ka) (hv : Rd Value.string w V va) (hc : Rd (Value.int .i64) w C ca) (hk' : Rd Value.string w K' kb) (hv' : Rd Value.string w V' vb) (hc' : Rd (Value.int .i64) w C' cb)
    (fa : fewB ka va ca = true) (fb : fewB kb vb cb = true) (ok lf : Bool) (ks vs : List ByteArray) (cs : List Int) (lr : ks.length ≤ 1000 ∧ vs.length ≤ 1000 ∧ cs.length ≤ 1000)
    (hm : Merges2 18 la ka va ca key lb kb vb cb ok lf ks vs cs) (hrm : Merges2 20 la ka va ca key lb kb vb cb ok lf ks vs cs) :
    Calls Try.prog 3 #[.agg #[.bool la, .slice K ka.length kc, .slice V va.length vc, .slice C ca.length cc], .string key, .agg #[.bool lb, .slice K' kb.length kc', .slice V' vb.length vc', .slice C' cb.length cc']] w (RetV w (.bool true)) := by
  obtain ⟨l1, l2, l3, _, _⟩ := fewB_parts fa
  obtain ⟨l4, l5, l6, _, _⟩ := fewB_parts fb
  have HW := Lib.hid (((Below.refl w.heap.size w).alloc (Nat.le_refl _) (.cells #[.bool la, .slice K ka.length kc, .slice V va.length vc, .slice C ca.length cc] 25)).alloc (by first | omega | (simp; done) | (simp; omega)) (.cells #[.bool lb, .slice K' kb.length kc', .slice V' vb.length vc', .slice C' cb.length cc'] 25))
  have B1 : Hid (Blk4 ((w.alloc (.cells #[.bool la, .slice K ka.length kc, .slice V va.length vc, .slice C ca.length cc] 25)).alloc (.cells #[.bool lb, .slice K' kb.length kc', .slice V' vb.length vc', .slice C' cb.length cc'] 25)) w.heap.size 25 (.bool la) (.slice K ka.length kc) (.slice V va.length vc) (.slice C ca.length cc)) :=
    (blk4_new w _ _ _ _ _).below (below_box _ _)
  have B2 : Hid (Blk4 ((w.alloc (.cells #[.bool la, .slice K ka.length kc, .slice V va.length vc, .slice C ca.length cc] 25)).alloc (.cells #[.bool lb, .slice K' kb.length kc', .slice V' vb.length vc', .slice C' cb.length cc'] 25)) (w.heap.size + 1) 25 (.bool lb) (.slice K' kb.length kc') (.slice V' vb.length vc') (.slice C' cb.length cc')) := by
    have := blk4_new (w.alloc (.cells #[.bool la, .slice K ka.length kc, .slice V va.length vc, .slice C ca.length cc] 25)) 25 (.bool lb) (.slice K' kb.length kc') (.slice V' vb.length vc') (.slice C' cb.length cc')
    simp only [World.size_alloc] at this
    exact this
  have HRD := Lib.hid (And.intro hk (And.intro hv (And.intro hc (And.intro hk' (And.intro hv' hc')))))
  have HF1 := Lib.hid (fun W (hb : Below w.heap.size w W) => few_any la K V C ka va ca kc vc cc W (hk.below hb) (hv.below hb))
  have HF2 := Lib.hid (fun W (hb : Below w.heap.size w W) => few_any lb K' V' C' kb vb cb kc' vc' cc' W (hk'.below hb) (hv'.below hb))
  clear hk hv hc hk' hv' hc'
  have HM := Lib.hid hm; clear hm
  have HRM := Lib.hid hrm; clear hrm
  rw [fa] at HF1
  rw [fb] at HF2
  clear fa fb
  go_enter Try.func3, Try.ntmps3
  go_wp2_with fail
  refine (HF1.out _ HW.out).mono ?_
  rintro e w1 ⟨rfl, hb1⟩
  have HB1 := Lib.hid hb1; clear hb1
  obtain ⟨⟨c0, c1, c2, c3⟩, _⟩ := (B2.out.below HB1.out).cells
  go_wp2_with fail
  refine (HF2.out _ (HW.out.trans (HB1.out.mono (by first | omega | (simp; done) | (simp; omega))))).mono ?_
  rintro e w2 ⟨rfl, hb2⟩
  have HB2 := Lib.hid (below_then HB1.out (Nat.le_refl _) hb2); clear hb2 HB1 c0 c1 c2 c3
  have hz0 : w.heap.size < w2.heap.size := by have := HB2.out.size; simp at this; omega
  have hz1 : w.heap.size + 1 < w2.heap.size := by have := HB2.out.size; simp at this; omega
  obtain ⟨⟨c0, c1, c2, c3⟩, _⟩ := (B1.out.below HB2.out).cells
  obtain ⟨⟨d0, d1, d2, d3⟩, _⟩ := (B2.out.below HB2.out).cells
  go_wp2_with fail
  have hb0 : Below w.heap.size w w2 := HW.out.trans (HB2.out.mono (by first | omega | (simp; done) | (simp; omega)))
  have k1 : ∀ W, Below w2.heap.size w2 W → Blk4 W w.heap.size 25 (.bool la) (.slice K ka.length kc) (.slice V va.length vc) (.slice C ca.length cc) := fun W hb => (B1.out.below HB2.out).below hb
  have k2 : ∀ W, Below w2.heap.size w2 W → Blk4 W (w.heap.size + 1) 25 (.bool lb) (.slice K' kb.length kc') (.slice V' vb.length vc') (.slice C' cb.length cc') := fun W hb => (B2.out.below HB2.out).below hb
  clear c0 c1 c2 c3 d0 d1 d2 d3 HF1 HF2
  refine region_front (by kernel_rfl) (fun | 0 => some (.agg #[.bool la, .slice K ka.length kc, .slice V va.length vc, .slice C ca.length cc]) | 2 => some (.string key) | 3 => some (.agg #[.bool lb, .slice K' kb.length kc', .slice V' vb.length vc', .slice C' cb.length cc']) | 8 => some (.bool ok) | _ => none)
    (nmG w2.heap.size la ka va ca lb kb vb cb ok lf ks vs cs) 11 47 (by decide) rfl (by kernel_rfl) (by kernel_rfl) (by kernel_rfl) (by kernel_rfl) ?_ ?_ ?_
  · intro w' _
    simp [nmG]
  · intro i hi d x a w' hb hsame hanc hdi hdesc hG
    obtain ⟨⟨c0, c1, c2, c3⟩, _⟩ := (k1 _ hb).cells
    obtain ⟨⟨d0, d1, d2, d3⟩, _⟩ := (k2 _ hb).cells
    have b1 : a.tmps.getD 1 undef = .string key := by rw [Array.getD_eq_getD_getElem?, hsame 1 (by decide +kernel)]; rfl
    have e1 := (Array.getD_eq_getD_getElem? (xs := a.tmps) (i := 1) (d := undef)).symm.trans b1
    have b3 : a.tmps.getD 3 undef = .pointer (some ⟨w.heap.size, 0, none⟩) := by rw [Array.getD_eq_getD_getElem?, hsame 3 (by decide +kernel)]; rfl
    have e3 := (Array.getD_eq_getD_getElem? (xs := a.tmps) (i := 3) (d := undef)).symm.trans b3
    have b5 : a.tmps.getD 5 undef = .pointer (some ⟨w.heap.size + 1, 0, none⟩) := by rw [Array.getD_eq_getD_getElem?, hsame 5 (by decide +kernel)]; rfl
    have e5 := (Array.getD_eq_getD_getElem? (xs := a.tmps) (i := 5) (d := undef)).symm.trans b5
    match i, hi with
    | 0, _ =>
      exact rstep_det rfl rfl rfl rfl (by simp [go_sem, b3, e3, c0, c1, c2, c3]) (by simpa [nmG, updB, updV] using hG) hb
    | 1, _ =>
      have t21 : a.tmps.getD 21 undef = .agg #[.bool la, .slice K ka.length kc, .slice V va.length vc, .slice C ca.length cc] := (show a.tmps.getD 21 undef = x 0 from (hanc 0 (by decide +kernel)).2.1).trans ((hanc 0 (by decide +kernel)).2.2 _ rfl)
      have u21 := (Array.getD_eq_getD_getElem? (xs := a.tmps) (i := 21) (d := undef)).symm.trans t21
      exact rstep_call (f := 19) (args := #[.agg #[.bool la, .slice K ka.length kc, .slice V va.length vc, .slice C ca.length cc]]) rfl rfl rfl rfl (by simp [go_sem, t21, u21]) (rown_any la K V C ka va ca kc vc cc w' ((HRD.out.1.below hb0).below hb) ((HRD.out.2.1.below hb0).below hb) ((HRD.out.2.2.1.below hb0).below hb) (by omega) (by omega) (by omega)) (fun e w1 he => by
        obtain ⟨v1, rfl, hown, hbw⟩ := he
        obtain ⟨h1, h4, h5, h6, h7, h9⟩ := hG.below hbw
        exact ⟨v1, rfl, ⟨fun _ => by rw [updV_same]; exact hown, by simpa [updB, updV] using h4, by simpa [updB, updV] using h5, by simpa [updB, updV] using h6, by simpa [updB, updV] using h7, by simpa [updB, updV] using h9⟩, below_then hb (Nat.le_refl _) hbw⟩)
    | 2, _ =>
      exact rstep_det rfl rfl rfl rfl (by simp [go_sem, b1, e1]) (by simpa [nmG, updB, updV] using hG) hb
    | 3, _ =>
      exact rstep_det rfl rfl rfl rfl (by simp [go_sem, b5, e5, d0, d1, d2, d3]) (by simpa [nmG, updB, updV] using hG) hb
    | 4, _ =>
      have t24 : a.tmps.getD 24 undef = .agg #[.bool lb, .slice K' kb.length kc', .slice V' vb.length vc', .slice C' cb.length cc'] := (show a.tmps.getD 24 undef = x 3 from (hanc 3 (by decide +kernel)).2.1).trans ((hanc 3 (by decide +kernel)).2.2 _ rfl)
      have u24 := (Array.getD_eq_getD_getElem? (xs := a.tmps) (i := 24) (d := undef)).symm.trans t24
      exact rstep_call (f := 19) (args := #[.agg #[.bool lb, .slice K' kb.length kc', .slice V' vb.length vc', .slice C' cb.length cc']]) rfl rfl rfl rfl (by simp [go_sem, t24, u24]) (rown_any lb K' V' C' kb vb cb kc' vc' cc' w' ((HRD.out.2.2.2.1.below hb0).below hb) ((HRD.out.2.2.2.2.1.below hb0).below hb) ((HRD.out.2.2.2.2.2.below hb0).below hb) (by omega) (by omega) (by omega)) (fun e w1 he => by
        obtain ⟨v1, rfl, hown, hbw⟩ := he
        obtain ⟨h1, h4, h5, h6, h7, h9⟩ := hG.below hbw
        exact ⟨v1, rfl, ⟨by simpa [updB, updV] using h1, fun _ => by rw [updV_same]; exact hown, by simpa [updB, updV] using h5, by simpa [updB, updV] using h6, by simpa [updB, updV] using h7, by simpa [updB, updV] using h9⟩, below_then hb (Nat.le_refl _) hbw⟩)
    | 5, _ =>
      have t22 : a.tmps.getD 22 undef = x 1 := (hanc 1 (by decide +kernel)).2.1
      have d1 : d 1 = true := (hanc 1 (by decide +kernel)).1
      have u22 := (Array.getD_eq_getD_getElem? (xs := a.tmps) (i := 22) (d := undef)).symm.trans t22
      have t23 : a.tmps.getD 23 undef = .string key := (show a.tmps.getD 23 undef = x 2 from (hanc 2 (by decide +kernel)).2.1).trans ((hanc 2 (by decide +kernel)).2.2 _ rfl)
      have u23 := (Array.getD_eq_getD_getElem? (xs := a.tmps) (i := 23) (d := undef)).symm.trans t23
      have t25 : a.tmps.getD 25 undef = x 4 := (hanc 4 (by decide +kernel)).2.1
      have d4 : d 4 = true := (hanc 4 (by decide +kernel)).1
      have u25 := (Array.getD_eq_getD_getElem? (xs := a.tmps) (i := 25) (d := undef)).symm.trans t25
      obtain ⟨K1, V1, C1, e1, ⟨A1, a1, rfl, _, _, p1⟩, ⟨A2, a2, rfl, _, _, p2⟩, ⟨A3, a3, rfl, _, _, p3⟩⟩ := hG.1 d1
      obtain ⟨K2, V2, C2, e2, ⟨A4, a4, rfl, _, _, p4⟩, ⟨A5, a5, rfl, _, _, p5⟩, ⟨A6, a6, rfl, _, _, p6⟩⟩ := hG.2.1 d4
      exact rstep_call (f := 18) (args := #[.agg #[.bool la, .slice A1 ka.length a1, .slice A2 va.length a2, .slice A3 ca.length a3], .string key, .agg #[.bool lb, .slice A4 kb.length a4, .slice A5 vb.length a5, .slice A6 cb.length a6]]) rfl rfl rfl rfl (by simp [go_sem, t22, u22, t23, u23, t25, u25, e1, e2]) (HM.out A1 A2 A3 A4 A5 A6 a1 a2 a3 a4 a5 a6 w' p1 p2 p3 p4 p5 p6) (fun e w1 he => by
        obtain ⟨v1, rfl, hown, hbw⟩ := he
        obtain ⟨h1, h4, h5, h6, h7, h9⟩ := hG.below hbw
        exact ⟨_, rfl, ⟨by simpa [updB, updV] using h1, by simpa [updB, updV] using h4, fun _ => ⟨v1, by rw [updV_same], hown⟩, by simpa [updB, updV] using h6, by simpa [updB, updV] using h7, by simpa [updB, updV] using h9⟩, below_then hb (Nat.le_refl _) hbw⟩)
    | 6, _ =>
      have t26 : a.tmps.getD 26 undef = x 5 := (hanc 5 (by decide +kernel)).2.1
      have d5 : d 5 = true := (hanc 5 (by decide +kernel)).1
      have u26 := (Array.getD_eq_getD_getElem? (xs := a.tmps) (i := 26) (d := undef)).symm.trans t26
      obtain ⟨h1, h4, h5, h6, h7, h9⟩ := hG
      obtain ⟨v1, e1, p1⟩ := h5 d5
      exact rstep_run (v := x 5) (w' := w') rfl rfl rfl rfl (by simp [go_sem, t26, u26]) ⟨by simpa [updB, updV] using h1, by simpa [updB, updV] using h4, by simpa [updB, updV] using h5, fun _ => ⟨v1, by rw [updV_same, e1], p1⟩, by simpa [updB, updV] using h7, by simpa [updB, updV] using h9⟩ hb
    | 7, _ =>
      have t20 : a.tmps.getD 20 undef = x 6 := (hanc 6 (by decide +kernel)).2.1
      have d6 : d 6 = true := (hanc 6 (by decide +kernel)).1
      have u20 := (Array.getD_eq_getD_getElem? (xs := a.tmps) (i := 20) (d := undef)).symm.trans t20
      obtain ⟨h1, h4, h5, h6, h7, h9⟩ := hG
      obtain ⟨v1, e1, p1⟩ := h6 d6
      exact rstep_run (v := v1) (w' := w') rfl rfl rfl rfl (by simp [go_sem, t20, u20, e1]) ⟨by simpa [updB, updV] using h1, by simpa [updB, updV] using h4, by simpa [updB, updV] using h5, by simpa [updB, updV] using h6, fun _ => by rw [updV_same]; exact p1, by have hx := hdesc 10 (by decide) (by decide +kernel); simpa [updB, updV, hx] using h9⟩ hb
    | 8, _ =>
      have t20 : a.tmps.getD 20 undef = x 6 := (hanc 6 (by decide +kernel)).2.1
      have d6 : d 6 = true := (hanc 6 (by decide +kernel)).1
      have u20 := (Array.getD_eq_getD_getElem? (xs := a.tmps) (i := 20) (d := undef)).symm.trans t20
      obtain ⟨h1, h4, h5, h6, h7, h9⟩ := hG
      obtain ⟨v1, e1, p1⟩ := h6 d6
      exact rstep_det rfl rfl rfl rfl (by simp [go_sem, t20, u20, e1]) ⟨by simpa [updB, updV] using h1, by simpa [updB, updV] using h4, by simpa [updB, updV] using h5, by simpa [updB, updV] using h6, by simpa [updB, updV] using h7, by simpa [updB, updV] using h9⟩ hb
    | 9, _ =>
      obtain ⟨h1, h4, h5, h6, h7, h9⟩ := hG.below (below_box w' (.cells #[.bool false, .slice none 0 0, .slice none 0 0, .slice none 0 0] 25))
      exact rstep_run (v := .pointer (some ⟨w'.heap.size, 0, none⟩)) (w' := w'.alloc (.cells #[.bool false, .slice none 0 0, .slice none 0 0, .slice none 0 0] 25)) rfl rfl rfl rfl (by simp [go_sem]) ⟨by simpa [updB, updV] using h1, by simpa [updB, updV] using h4, by simpa [updB, updV] using h5, by simpa [updB, updV] using h6, by simpa [updB, updV] using h7, fun _ => ⟨w'.heap.size, by simp [updV], hb.size, fun _ => blk4_new _ _ _ _ _ _, fun h => by have hx := hdesc 10 (by decide) (by decide +kernel); simp [updB, hx] at h⟩⟩ (hb.alloc hb.size _)
    | 10, _ =>
      have t7 : a.tmps.getD 7 undef = x 9 := (hanc 9 (by decide +kernel)).2.1
      have d9 : d 9 = true := (hanc 9 (by decide +kernel)).1
      have u7 := (Array.getD_eq_getD_getElem? (xs := a.tmps) (i := 7) (d := undef)).symm.trans t7
      have t27 : a.tmps.getD 27 undef = x 7 := (hanc 7 (by decide +kernel)).2.1
      have d7 : d 7 = true := (hanc 7 (by decide +kernel)).1
      have u27 := (Array.getD_eq_getD_getElem? (xs := a.tmps) (i := 27) (d := undef)).symm.trans t27
      obtain ⟨h1, h4, h5, h6, h7, h9⟩ := hG
      obtain ⟨g, e9, hgB, hz, _⟩ := h9 d9
      have hz := hz hdi
      obtain ⟨⟨j0, j1, j2, j3⟩, f0, f1, f2, f3⟩ := hz.cells
      obtain ⟨K1, V1, C1, e7, ⟨A1, a1, rfl, p1⟩, ⟨A2, a2, rfl, p2⟩, ⟨A3, a3, rfl, p3⟩⟩ := h7 d7
      have hot := set4_other w' g (.bool lf) (.slice A1 ks.length a1) (.slice A2 vs.length a2) (.slice A3 cs.length a3)
      exact rstep_skip (w' := (((w'.setCell ⟨g, 0, none⟩ (.bool lf)).setCell ⟨g, 1, none⟩ (.slice A1 ks.length a1)).setCell ⟨g, 2, none⟩ (.slice A2 vs.length a2)).setCell ⟨g, 3, none⟩ (.slice A3 cs.length a3)) rfl rfl rfl rfl (by simp [go_sem, t7, u7, t27, u27, e7, e9, j0, j1, j2, j3, f0, f1, f2, f3]) ⟨fun h => by simpa [updV] using (h1 (by simpa [updB] using h)).off hz hot, fun h => by simpa [updV] using (h4 (by simpa [updB] using h)).off hz hot, fun h => by obtain ⟨v, e, hv⟩ := h5 (by simpa [updB] using h); exact ⟨v, by simpa [updV] using e, hv.off hz hot⟩, fun h => by obtain ⟨v, e, hv⟩ := h6 (by simpa [updB] using h); exact ⟨v, by simpa [updV] using e, hv.off hz hot⟩, fun h => by simpa [updV] using (h7 (by simpa [updB] using h)).off hz hot, fun _ => ⟨g, by simpa [updV] using e9, hgB, fun h => by simp [updB] at h, fun _ => ⟨_, _, _, by simpa [updV] using e7, hz.set4 _ _ _ _⟩⟩⟩ ((((hb.setCell hgB _).setCell hgB _).setCell hgB _).setCell hgB _)
    | (m + 11), h => exact absurd h (by omega)
  · intro d x w' hb hall hG
    obtain ⟨_, _, _, h6, h7, h9⟩ := hG
    have r7 := h7 (hall 7 (by omega)).1
    obtain ⟨g, e9, hg1, _, hg2⟩ := h9 (hall 9 (by omega)).1
    have e8 := (hall 8 (by omega)).2 _ rfl
    simp only [rfill, rdst, List.getElem?_toArray, List.getElem?_cons_zero, List.getElem?_cons_succ, Option.bind_some, Act.put, List.setIfInBounds_toArray, List.set_cons_zero, List.set_cons_succ, List.drop_succ_cons, List.drop_zero]
    obtain ⟨K1, V1, C1, e7, hg3⟩ := hg2 (hall 10 (by omega)).1
    obtain ⟨K2, V2, C2, e7', q1, q2, q3⟩ := r7
    rw [e7] at e7'
    injection e7' with e7'
    injection e7' with e7'
    injection e7' with _ e7'
    injection e7' with eK e7'
    injection e7' with eV e7'
    injection e7' with eC _
    subst eK eV eC
    obtain ⟨A1, a1, rfl, _, _, p1⟩ := q1
    obtain ⟨A2, a2, rfl, _, _, p2⟩ := q2
    obtain ⟨A3, a3, rfl, _, _, p3⟩ := q3
    rw [e8, e9, e7]
    clear e8 e9 e7 h6 h7 h9 hall
    have b1 := Lib.hid (k1 _ hb)
    have b2 := Lib.hid (k2 _ hb)
    have HB := Lib.hid (hb0.trans (hb.mono (hb0.size)))
    have hg0 : w.heap.size < g := by omega
    have hg1' : w.heap.size + 1 < g := by omega
    have hbs := hb.size
    clear hb
    obtain ⟨⟨c0, c1, c2, c3⟩, _⟩ := b1.out.cells
    obtain ⟨⟨d0, d1, d2, d3⟩, _⟩ := b2.out.cells
    have HP := Lib.hid (And.intro p1 (And.intro p2 (And.intro p3 hg3)))
    have R1 := Lib.hid (HRM.out K V C K' V' C' kc vc cc kc' vc' cc' w' (HRD.out.1.below HB.out) (HRD.out.2.1.below HB.out) (HRD.out.2.2.1.below HB.out) (HRD.out.2.2.2.1.below HB.out) (HRD.out.2.2.2.2.1.below HB.out) (HRD.out.2.2.2.2.2.below HB.out))
    clear p1 p2 p3 hg3 hg2 HRM HM
    go_wp2_with fail
    refine R1.out.mono ?_
    rintro e w3 ⟨v, rfl, ⟨Y1, Y2, Y3, rfl, ⟨A4, a4, rfl, _, _, p4⟩, ⟨A5, a5, rfl, _, _, p5⟩, ⟨A6, a6, rfl, _, _, p6⟩⟩, hb3⟩
    have HB3 := Lib.hid hb3
    have g3 := HP.out.2.2.2.below hb3
    obtain ⟨⟨j0, j1, j2, j3⟩, f0, f1, f2, f3⟩ := g3.cells
    have hgl := g3.lt
    have HQ := Lib.hid (And.intro p4 (And.intro p5 (And.intro p6 g3)))
    clear p4 p5 p6 g3 R1 c0 c1 c2 c3 d0 d1 d2 d3 b1 b2
    have hok : (ok == ok) = true := by simp
    go_wp2_with fail
    refine (same22_yes lf A1 A2 A3 A4 A5 A6 ks vs cs a1 a2 a3 a4 a5 a6 _ ((HP.out.1.below HB3.out).below (below_box _ _)) ((HP.out.2.1.below HB3.out).below (below_box _ _)) ((HP.out.2.2.1.below HB3.out).below (below_box _ _))
      (HQ.out.1.below (below_box _ _)) (HQ.out.2.1.below (below_box _ _)) (HQ.out.2.2.1.below (below_box _ _)) (by omega) (by omega) (by omega)).mono ?_
    rintro e w4 ⟨rfl, hb4⟩
    have HB4 := Lib.hid hb4; clear hb4 j0 j1 j2 j3 f0 f1 f2 f3
    go_wp2_with fail
    refine (lives22_any _).mono ?_
    rintro e w5 ⟨rfl, hb5⟩
    have HB5 := Lib.hid hb5; clear hb5
    go_wp2_with fail
    go_ret
    have h3 : Below w.heap.size w w3 := below_then HB.out (Nat.le_refl _) HB3.out
    have h4 : Below w.heap.size w w4 := below_then (h3.alloc h3.size _) (Nat.le_refl _) HB4.out
    exact ⟨rfl, below_then h4 (Nat.le_refl _) HB5.out⟩

set_option maxRecDepth 100000 in
set_option maxHeartbeats 4000000 in
theorem nodeMerges_not (K V C K' V' C' : Option Addr) (la : Bool) (ka va : List ByteArray) (ca : List Int) (kc vc cc : Nat) (key : ByteArray) (lb : Bool) (kb vb : List ByteArray) (cb : List Int) (kc' vc' cc' : Nat) (w : World)
    (hk : Rd Value.string w K ka) (hv : Rd Value.string w V va) (hk' : Rd Value.string w K' kb) (hv' : Rd Value.string w V' vb)
    (hf : fewB ka va ca = false ∨ fewB kb vb cb = false) :
    Calls Try.prog 3 #[.agg #[.bool la, .slice K ka.length kc, .slice V va.length vc, .slice C ca.length cc], .string key, .agg #[.bool lb, .slice K' kb.length kc', .slice V' vb.length vc', .slice C' cb.length cc']] w (RetV w (.bool true)) := by
  have HW := Lib.hid (((Below.refl w.heap.size w).alloc (Nat.le_refl _) (.cells #[.bool la, .slice K ka.length kc, .slice V va.length vc, .slice C ca.length cc] 25)).alloc (by first | omega | (simp; done) | (simp; omega)) (.cells #[.bool lb, .slice K' kb.length kc', .slice V' vb.length vc', .slice C' cb.length cc'] 25))
  have B2 : Hid (Blk4 ((w.alloc (.cells #[.bool la, .slice K ka.length kc, .slice V va.length vc, .slice C ca.length cc] 25)).alloc (.cells #[.bool lb, .slice K' kb.length kc', .slice V' vb.length vc', .slice C' cb.length cc'] 25)) (w.heap.size + 1) 25 (.bool lb) (.slice K' kb.length kc') (.slice V' vb.length vc') (.slice C' cb.length cc')) := by
    have := blk4_new (w.alloc (.cells #[.bool la, .slice K ka.length kc, .slice V va.length vc, .slice C ca.length cc] 25)) 25 (.bool lb) (.slice K' kb.length kc') (.slice V' vb.length vc') (.slice C' cb.length cc')
    simp only [World.size_alloc] at this
    exact this
  have HF1 := Lib.hid (fun W (hb : Below w.heap.size w W) => few_any la K V C ka va ca kc vc cc W (hk.below hb) (hv.below hb))
  have HF2 := Lib.hid (fun W (hb : Below w.heap.size w W) => few_any lb K' V' C' kb vb cb kc' vc' cc' W (hk'.below hb) (hv'.below hb))
  clear hk hv hk' hv'
  cases hfa : fewB ka va ca with
  | false =>
    rw [hfa] at HF1
    clear hfa hf
    go_enter Try.func3, Try.ntmps3
    go_wp2_with fail
    refine (HF1.out _ HW.out).mono ?_
    rintro e w1 ⟨rfl, hb1⟩
    have HB1 := Lib.hid hb1; clear hb1
    go_wp2_with fail
    refine (lives22_any _).mono ?_
    rintro e w5 ⟨rfl, hb5⟩
    have HB5 := Lib.hid hb5; clear hb5
    go_wp2_with fail
    go_ret
    exact ⟨rfl, below_then (below_then HW.out (Nat.le_refl _) HB1.out) (Nat.le_refl _) HB5.out⟩
  | true =>
    have hfb : fewB kb vb cb = false := by rcases hf with h | h <;> simp_all
    rw [hfa] at HF1
    rw [hfb] at HF2
    clear hfa hfb hf
    go_enter Try.func3, Try.ntmps3
    go_wp2_with fail
    refine (HF1.out _ HW.out).mono ?_
    rintro e w1 ⟨rfl, hb1⟩
    have HB1 := Lib.hid hb1; clear hb1
    obtain ⟨⟨c0, c1, c2, c3⟩, _⟩ := (B2.out.below HB1.out).cells
    go_wp2_with fail
    refine (HF2.out _ (HW.out.trans (HB1.out.mono (by first | omega | (simp; done) | (simp; omega))))).mono ?_
    rintro e w2 ⟨rfl, hb2⟩
    have HB2 := Lib.hid (below_then HB1.out (Nat.le_refl _) hb2); clear hb2 HB1 c0 c1 c2 c3
    go_wp2_with fail
    refine (lives22_any _).mono ?_
    rintro e w5 ⟨rfl, hb5⟩
    have HB5 := Lib.hid hb5; clear hb5
    go_wp2_with fail
    go_ret
    exact ⟨rfl, below_then (HW.out.trans (HB2.out.mono (by first | omega | (simp; done) | (simp; omega)))) (Nat.le_refl _) HB5.out⟩
end Go.Proofs.Ytfngadidlmbfdaa
