/-
  Contract of the reference's Merge: two blocks of one kind.
-/
import Derived.Test.YtfngadidlmbfdaaRMerge1
namespace Go.Proofs.Ytfngadidlmbfdaa
open Go.RowKit
set_option linter.unusedSimpArgs false

/-- The three rows that grow: each as far as it has come. -/
def rmA (d : Nat → Bool) (x : Nat → Value) (ka : List ByteArray) : Value × List ByteArray := if d 5 = true then (x 5, ka) else (x 2, [])
def rmB (d : Nat → Bool) (x : Nat → Value) (va vb : List ByteArray) : Value × List ByteArray := if d 12 = true then (x 12, va ++ vb) else if d 9 = true then (x 9, va) else (x 6, [])
def rmC (d : Nat → Bool) (x : Nat → Value) (ca cb : List Int) : Value × List Int := if d 19 = true then (x 19, ca ++ cb) else if d 16 = true then (x 16, ca) else (x 13, [])
def rmG (B : Nat) (la : Bool) (ka va vb : List ByteArray) (ca cb : List Int) (d : Nat → Bool) (x : Nat → Value) (w : World) : Prop :=
  (d 2 = true → w.ownsRow B 9 1 (rmA d x ka).1 (rmA d x ka).2.length ((rmA d x ka).2.map Value.string)) ∧
  (d 6 = true → w.ownsRow B 9 1 (rmB d x va vb).1 (rmB d x va vb).2.length ((rmB d x va vb).2.map Value.string)) ∧
  (d 2 = true → d 6 = true → (rmA d x ka).1.ownBlock ≠ (rmB d x va vb).1.ownBlock) ∧
  (d 13 = true → w.ownsRow B 3 1 (rmC d x ca cb).1 (rmC d x ca cb).2.length ((rmC d x ca cb).2.map (Value.int .i64))) ∧
  (d 20 = true → x 20 = .agg #[.bool la, x 5, x 12, x 19]) ∧
  (d 21 = true → ∃ g, x 21 = .pointer (some ⟨g, 0, none⟩) ∧ B ≤ g ∧ Blk4 w g 25 (.bool false) (.slice none 0 0) (.slice none 0 0) (.slice none 0 0))
theorem own_ne_type {w : World} {b b' e e' s s' n n' : Nat} {v v' : Value} {xs xs' : List Value} (h : w.ownsRow b e s v n xs) (h' : w.ownsRow b' e' s' v' n' xs') (hne : e ≠ e') : v.ownBlock = none ∨ v.ownBlock ≠ v'.ownBlock := by
  rcases h.2 with ⟨rfl, _⟩ | ⟨g, cap, cur, rfl, _, hh, _⟩
  · exact .inl rfl
  · refine .inr fun hk => ?_
    rcases h'.2 with ⟨rfl, _⟩ | ⟨g', cap', cur', rfl, _, hh', _⟩
    · simp [Value.ownBlock] at hk
    · have : g = g' := by simpa [Value.ownBlock] using hk
      subst this
      rw [hh] at hh'
      injection hh' with hh'
      injection hh' with _ ht
      exact hne ht
theorem own_keep_type {w w' : World} {b b' e e' s s' n n' : Nat} {v v' : Value} {xs xs' : List Value} (h : w.ownsRow b e s v n xs) (h' : w.ownsRow b' e' s' v' n' xs') (hg : w.grownBy w' v'.ownBlock) (hne : e ≠ e') : w'.ownsRow b e s v n xs :=
  h.kept hg (own_ne_type h h' hne)
theorem Blk4.grownO {w w' : World} {g t : Nat} {c0 c1 c2 c3 : Value} {b' e' s' n' : Nat} {v' : Value} {xs' : List Value} (h : Blk4 w g t c0 c1 c2 c3) (h' : w.ownsRow b' e' s' v' n' xs') (hg : w.grownBy w' v'.ownBlock) (hne : t ≠ e') : Blk4 w' g t c0 c1 c2 c3 :=
  (hg.block g h.lt (fun e => by
    rcases h'.2 with ⟨rfl, _⟩ | ⟨g', cap', cur', rfl, _, hh', _⟩
    · simp [Value.ownBlock] at e
    · have : g = g' := by simpa [Value.ownBlock] using e
      subst this
      unfold Blk4 at h
      rw [h] at hh'
      injection hh' with hh'
      injection hh' with _ ht
      exact hne ht)).trans h
theorem ob_ne {w : World} {v v1 : Value} {r : Option Nat} (hb : v1.ownBlock = v.ownBlock ∨ v1.ownBlock = some w.heap.size) (hne : v.ownBlock ≠ r) (hlt : ∀ k, r = some k → k < w.heap.size) : v1.ownBlock ≠ r := by
  rcases hb with h | h
  · rw [h]; exact hne
  · rw [h]; intro e; exact absurd (hlt _ e.symm) (by omega)
theorem Blk4.set1 {w : World} {g t : Nat} {c0 c1 c2 c3 : Value} (h : Blk4 w g t c0 c1 c2 c3) (v1 : Value) : Blk4 (w.setCell ⟨g, 1, none⟩ v1) g t c0 v1 c2 c3 := by
  unfold Blk4 at h ⊢
  simp [World.setCell, Array.getElem?_modify, h]
theorem grown_off {w w' : World} {g : Nat} (hs : w'.heap.size = w.heap.size) (h1 : w'.os = w.os) (h2 : w'.tape = w.tape) (h3 : w'.output = w.output) (hk : ∀ k, k ≠ g → w'.heap[k]? = w.heap[k]?) : w.grownBy w' (some g) :=
  ⟨h1, h2, h3, by omega, fun k _ hne => hk k (fun e => hne (by rw [e]))⟩
theorem grown_set1 (w : World) (a : Addr) (v : Value) : w.grownBy (w.setCell a v) (some a.block) := grown_off (by simp [World.setCell]) rfl rfl rfl (fun _ hk => Below.heap_setCell w a v _ hk)
theorem own_off_blk {w w' : World} {b e s n : Nat} {v : Value} {xs : List Value} {g t : Nat} {c0 c1 c2 c3 : Value} (h : w.ownsRow b e s v n xs) (hb : Blk4 w g t c0 c1 c2 c3) (hne : t ≠ e) (hg : w.grownBy w' (some g)) : w'.ownsRow b e s v n xs :=
  h.kept hg (by
    rcases h.2 with ⟨rfl, _⟩ | ⟨g', cap', cur', rfl, _, hh', _⟩
    · exact .inl rfl
    · refine .inr fun e' => ?_
      have : g' = g := by simpa [Value.ownBlock] using e'
      subst this
      unfold Blk4 at hb
      rw [hb] at hh'
      injection hh' with hh'
      injection hh' with _ ht
      exact hne ht)
/-- The joined block on its way: its keys so far. -/
structure RSt (w0 : World) (B g : Nat) (la : Bool) (p1 p2 p3 q1 q2 q3 v v9 v13 : Value) (ks vs : List ByteArray) (cs : List Int) (w : World) : Prop where
  a : w.ownsRow B 9 1 v ks.length (ks.map Value.string)
  b : w.ownsRow B 9 1 v9 vs.length (vs.map Value.string)
  c : w.ownsRow B 3 1 v13 cs.length (cs.map (Value.int .i64))
  ne : v.ownBlock ≠ v9.ownBlock
  blk : Blk4 w g 25 (.bool la) v v9 v13
  res : Blk4 w (w0.heap.size + 1 + 1) 25 (.bool false) (.slice none 0 0) (.slice none 0 0) (.slice none 0 0)
  bx1 : Blk4 w w0.heap.size 25 (.bool la) p1 p2 p3
  bx2 : Blk4 w (w0.heap.size + 1) 25 (.bool la) q1 q2 q3
  below : Below w0.heap.size w0 w
  base : B ≤ w.heap.size
theorem RSt.app {w0 : World} {B g : Nat} {la : Bool} {p1 p2 p3 q1 q2 q3 v v9 v13 : Value} {ks vs : List ByteArray} {cs : List Int} {w : World} (h : RSt w0 B g la p1 p2 p3 q1 q2 q3 v v9 v13 ks vs cs w) (hB : w0.heap.size + 1 + 1 < B) (hgB : B ≤ g) {v1 : Value} {w1 : World} {n : Nat} {ys : List ByteArray}
    (ho : w1.ownsRow B 9 1 v1 n (ks.map Value.string ++ ys.map Value.string)) (hn : n = (ks ++ ys).length) (hg : w.grownBy w1 v.ownBlock) (hb : v1.ownBlock = v.ownBlock ∨ v1.ownBlock = some w.heap.size) : RSt w0 B g la p1 p2 p3 q1 q2 q3 v1 v9 v13 (ks ++ ys) vs cs (w1.setCell ⟨g, 1, none⟩ v1) := by
  subst hn
  have hbase : ∀ k, v.ownBlock = some k → B ≤ k := fun k hk => (own_base h.a k hk).1
  have k1 := h.blk.grownO h.a hg (by decide)
  have hs := grown_set1 w1 ⟨g, 1, none⟩ v1
  rw [← List.map_append] at ho
  refine ⟨own_off_blk ho k1 (by decide) hs, own_off_blk (h.b.kept hg (.inr (Ne.symm h.ne))) k1 (by decide) hs, own_off_blk (own_keep_type h.c h.a hg (by decide)) k1 (by decide) hs, ?_, k1.set1 v1, ?_, ?_, ?_, ?_, ?_⟩
  · exact ob_ne hb h.ne (fun k hk => (own_base h.b k hk).2)
  · exact (h.res.grownO h.a hg (by decide)).off (by omega) (fun k (hk : k ≠ g) => Below.heap_setCell w1 ⟨g, 1, none⟩ v1 _ hk)
  · exact (h.bx1.grownO h.a hg (by decide)).off (by omega) (fun k (hk : k ≠ g) => Below.heap_setCell w1 ⟨g, 1, none⟩ v1 _ hk)
  · exact (h.bx2.grownO h.a hg (by decide)).off (by omega) (fun k (hk : k ≠ g) => Below.heap_setCell w1 ⟨g, 1, none⟩ v1 _ hk)
  · refine (h.below.trans ?_).setCell (show w0.heap.size ≤ g by omega) _
    exact ⟨hg.os, hg.tape, hg.output, hg.size, fun k hk => hg.block k (Nat.lt_of_lt_of_le hk h.below.size) (fun e => by have := hbase k e.symm; omega)⟩
  · have := h.base
    have := hg.size
    simp [World.setCell]
    omega
theorem RSt.alloc {w0 : World} {B g : Nat} {la : Bool} {p1 p2 p3 q1 q2 q3 v v9 v13 : Value} {ks vs : List ByteArray} {cs : List Int} {w : World} (h : RSt w0 B g la p1 p2 p3 q1 q2 q3 v v9 v13 ks vs cs w) (o : Obj) : RSt w0 B g la p1 p2 p3 q1 q2 q3 v v9 v13 ks vs cs (w.alloc o) :=
  ⟨h.a.alloc o, h.b.alloc o, h.c.alloc o, h.ne, h.blk.below (below_box _ _), h.res.below (below_box _ _), h.bx1.below (below_box _ _), h.bx2.below (below_box _ _), h.below.alloc h.below.size o, by have := h.base; simp; omega⟩

theorem rdC_new' (w : World) (k : Nat) (hk : k = w.heap.size) (sz e n : Nat) (cs : List Value) (hl : cs.length = n * sz) : RdC sz (w.alloc (.cells cs.toArray e)) (some ⟨k, 0, none⟩) n cs := hk ▸ rdC_new w sz e n cs hl
theorem Rd.below' {α : Type} {enc : α → Value} {B : Nat} {w w' : World} {A : Option Addr} {xs : List α} (h : Rd enc w A xs) (hb : Below B w w') (hB : w.heap.size ≤ B := by omega) : Rd enc w' A xs := h.below (hb.mono hB)

set_option maxRecDepth 100000 in
set_option maxHeartbeats 4000000 in
theorem rmerge_yesT (K V C K' V' C' : Option Addr) (ka va : List ByteArray) (ca : List Int) (kc vc cc : Nat) (key : ByteArray) (kb vb : List ByteArray) (cb : List Int) (kc' vc' cc' : Nat) (w : World)
    (hk : Rd Value.string w K ka) (hv : Rd Value.string w V va) (hc : Rd (Value.int .i64) w C ca) (hk' : Rd Value.string w K' kb) (hv' : Rd Value.string w V' vb) (hc' : Rd (Value.int .i64) w C' cb)
    (l1 : ka.length ≤ 300) (l2 : va.length ≤ 300) (l3 : ca.length ≤ 300) (l4 : kb.length ≤ 300) (l5 : vb.length ≤ 300) (l6 : cb.length ≤ 300)
    (hA : canB true ka va ca = true) (hB : canB true kb vb cb = true) (ok : Bool) (ks vs : List ByteArray) (cs : List Int)
    (hres : if canB true (mergeK true ka key kb) (va ++ vb) (ca ++ cb) = true ∧ needB true (mergeK true ka key kb) (va ++ vb) (mergeK true ka key kb).length ≤ 509 then ok = true ∧ ks = mergeK true ka key kb ∧ vs = va ++ vb ∧ cs = ca ++ cb else ok = false ∧ ks = [] ∧ vs = [] ∧ cs = []) :
    Calls Try.prog 20 #[.agg #[.bool true, .slice K ka.length kc, .slice V va.length vc, .slice C ca.length cc], .string key, .agg #[.bool true, .slice K' kb.length kc', .slice V' vb.length vc', .slice C' cb.length cc']] w (RetM w ok (ok && true) ks vs cs) := by
  have HW := Lib.hid (((Below.refl w.heap.size w).alloc (Nat.le_refl _) (.cells #[.bool true, .slice K ka.length kc, .slice V va.length vc, .slice C ca.length cc] 25)).alloc (by first | omega | (simp; done) | (simp; omega)) (.cells #[.bool true, .slice K' kb.length kc', .slice V' vb.length vc', .slice C' cb.length cc'] 25) |>.alloc (by first | omega | (simp; done) | (simp; omega)) (.cells #[.bool false, .slice none 0 0, .slice none 0 0, .slice none 0 0] 25))
  have H1 := Lib.hid (fun W (hb : Below w.heap.size w W) => rcan_any true K V C ka va ca kc vc cc W (hk.below hb) (hv.below hb) (hc.below hb) (by omega) (by omega) (by omega))
  have H2 := Lib.hid (fun W (hb : Below w.heap.size w W) => rcan_any true K' V' C' kb vb cb kc' vc' cc' W (hk'.below hb) (hv'.below hb) (hc'.below hb) (by omega) (by omega) (by omega))
  have B1 : Hid (Blk4 (((w.alloc (.cells #[.bool true, .slice K ka.length kc, .slice V va.length vc, .slice C ca.length cc] 25)).alloc (.cells #[.bool true, .slice K' kb.length kc', .slice V' vb.length vc', .slice C' cb.length cc'] 25)).alloc (.cells #[.bool false, .slice none 0 0, .slice none 0 0, .slice none 0 0] 25)) w.heap.size 25 (.bool true) (.slice K ka.length kc) (.slice V va.length vc) (.slice C ca.length cc)) :=
    ((blk4_new w _ _ _ _ _).below (below_box _ _)).below (below_box _ _)
  have B2 : Hid (Blk4 (((w.alloc (.cells #[.bool true, .slice K ka.length kc, .slice V va.length vc, .slice C ca.length cc] 25)).alloc (.cells #[.bool true, .slice K' kb.length kc', .slice V' vb.length vc', .slice C' cb.length cc'] 25)).alloc (.cells #[.bool false, .slice none 0 0, .slice none 0 0, .slice none 0 0] 25)) (w.heap.size + 1) 25 (.bool true) (.slice K' kb.length kc') (.slice V' vb.length vc') (.slice C' cb.length cc')) := by
    have := (blk4_new (w.alloc (.cells #[.bool true, .slice K ka.length kc, .slice V va.length vc, .slice C ca.length cc] 25)) 25 (.bool true) (.slice K' kb.length kc') (.slice V' vb.length vc') (.slice C' cb.length cc')).below (below_box _ (.cells #[.bool false, .slice none 0 0, .slice none 0 0, .slice none 0 0] 25))
    simp only [World.size_alloc] at this
    exact this
  have B3 : Hid (Blk4 (((w.alloc (.cells #[.bool true, .slice K ka.length kc, .slice V va.length vc, .slice C ca.length cc] 25)).alloc (.cells #[.bool true, .slice K' kb.length kc', .slice V' vb.length vc', .slice C' cb.length cc'] 25)).alloc (.cells #[.bool false, .slice none 0 0, .slice none 0 0, .slice none 0 0] 25)) (w.heap.size + 1 + 1) 25 (.bool false) (.slice none 0 0) (.slice none 0 0) (.slice none 0 0)) := by
    have := blk4_new ((w.alloc (.cells #[.bool true, .slice K ka.length kc, .slice V va.length vc, .slice C ca.length cc] 25)).alloc (.cells #[.bool true, .slice K' kb.length kc', .slice V' vb.length vc', .slice C' cb.length cc'] 25)) 25 (.bool false) (.slice none 0 0) (.slice none 0 0) (.slice none 0 0)
    simp only [World.size_alloc] at this
    exact this
  have HRD := Lib.hid (And.intro hk (And.intro hv (And.intro hc (And.intro hk' (And.intro hv' hc')))))
  clear hk hv hc hk' hv' hc'
  have HRES := Lib.hid hres; clear hres
  rw [hA] at H1
  rw [hB] at H2
  clear hA hB
  have hee : (true == true) = true := by simp
  go_enter Try.func20, Try.ntmps20
  go_wp2_with fail
  refine (H1.out _ HW.out).mono ?_
  rintro e w1 ⟨rfl, hb1⟩
  have HB1 := Lib.hid hb1; clear hb1
  obtain ⟨⟨c0, c1, c2, c3⟩, _⟩ := (B2.out.below HB1.out).cells
  go_wp2_with fail
  refine (H2.out _ (HW.out.trans (HB1.out.mono (by first | omega | (simp; done) | (simp; omega))))).mono ?_
  rintro e w2 ⟨rfl, hb2⟩
  have HB2 := Lib.hid (below_then HB1.out (Nat.le_refl _) hb2); clear hb2 HB1 c0 c1 c2 c3
  have hz0 : w.heap.size < w2.heap.size := by have := HB2.out.size; simp at this; omega
  have hz1 : w.heap.size + 1 < w2.heap.size := by have := HB2.out.size; simp at this; omega
  have hz2 : w.heap.size + 1 + 1 < w2.heap.size := by have := HB2.out.size; simp at this; omega
  obtain ⟨⟨c0, c1, c2, c3⟩, _⟩ := (B1.out.below HB2.out).cells
  obtain ⟨⟨d0, d1, d2, d3⟩, _⟩ := (B2.out.below HB2.out).cells
  go_wp2_with fail
  have hb0 : Below w.heap.size w w2 := HW.out.trans (HB2.out.mono (by first | omega | (simp; done) | (simp; omega)))
  have k1 : ∀ W, Below w2.heap.size w2 W → Blk4 W w.heap.size 25 (.bool true) (.slice K ka.length kc) (.slice V va.length vc) (.slice C ca.length cc) := fun W hb => (B1.out.below HB2.out).below hb
  have k2 : ∀ W, Below w2.heap.size w2 W → Blk4 W (w.heap.size + 1) 25 (.bool true) (.slice K' kb.length kc') (.slice V' vb.length vc') (.slice C' cb.length cc') := fun W hb => (B2.out.below HB2.out).below hb
  clear c0 c1 c2 c3 d0 d1 d2 d3
  refine region_front (by kernel_rfl) (fun | 0 => some (.pointer (some ⟨w.heap.size, 0, none⟩)) | 1 => some (.bool true) | 3 => some (.pointer (some ⟨w.heap.size, 1, none⟩)) | 4 => some (.slice K ka.length kc) | 7 => some (.pointer (some ⟨w.heap.size, 2, none⟩)) | 8 => some (.slice V va.length vc) | 10 => some (.pointer (some ⟨w.heap.size + 1, 2, none⟩)) | 11 => some (.slice V' vb.length vc') | 14 => some (.pointer (some ⟨w.heap.size, 3, none⟩)) | 15 => some (.slice C ca.length cc) | 17 => some (.pointer (some ⟨w.heap.size + 1, 3, none⟩)) | 18 => some (.slice C' cb.length cc') | _ => none)
    (rmG w2.heap.size true ka va vb ca cb) 22 74 (by decide) rfl (by kernel_rfl) (by kernel_rfl) (by kernel_rfl) (by kernel_rfl) ?_ ?_ ?_
  · intro w' _
    simp [rmG]
  · intro i hi d x a w' hb hsame hanc hdi hdesc hG
    obtain ⟨⟨c0, c1, c2, c3⟩, _⟩ := (k1 _ hb).cells
    obtain ⟨⟨d0, d1, d2, d3⟩, _⟩ := (k2 _ hb).cells
    have b3 : a.tmps.getD 3 undef = .pointer (some ⟨w.heap.size, 0, none⟩) := by rw [Array.getD_eq_getD_getElem?, hsame 3 (by decide +kernel)]; rfl
    have e3 := (Array.getD_eq_getD_getElem? (xs := a.tmps) (i := 3) (d := undef)).symm.trans b3
    have b5 : a.tmps.getD 5 undef = .pointer (some ⟨w.heap.size + 1, 0, none⟩) := by rw [Array.getD_eq_getD_getElem?, hsame 5 (by decide +kernel)]; rfl
    have e5 := (Array.getD_eq_getD_getElem? (xs := a.tmps) (i := 5) (d := undef)).symm.trans b5
    match i, hi with
    | 0, _ =>
      exact rstep_det rfl rfl rfl rfl (by simp [go_sem, b3, e3]) (by simpa [rmG, rmA, rmB, rmC, updB, updV] using hG) hb
    | 1, _ =>
      have t25 : a.tmps.getD 25 undef = .pointer (some ⟨w.heap.size, 0, none⟩) := (show a.tmps.getD 25 undef = x 0 from (hanc 0 (by decide +kernel)).2.1).trans ((hanc 0 (by decide +kernel)).2.2 _ rfl)
      have u25 := (Array.getD_eq_getD_getElem? (xs := a.tmps) (i := 25) (d := undef)).symm.trans t25
      exact rstep_det rfl rfl rfl rfl (by simp [go_sem, t25, u25, c0]) (by simpa [rmG, rmA, rmB, rmC, updB, updV] using hG) hb
    | 2, _ =>
      have e5 : d 5 = false := hdesc 5 (by decide) (by decide +kernel)
      obtain ⟨hA, hB, hAB, hC, h20, h21⟩ := hG
      have hBs : w2.heap.size ≤ w'.heap.size := hb.size
      have eN := own_empty w' w2.heap.size 9 1 hBs
      refine rstep_run (v := .slice (some ⟨w'.heap.size, 0, none⟩) 0 0) (w' := w'.alloc (.cells #[] 9)) rfl rfl rfl rfl (by simp [go_sem]) ⟨?_, ?_, ?_, ?_, ?_, ?_⟩ (hb.alloc hb.size _)
      · intro _; simpa [rmA, rmB, rmC, updB, updV, e5] using eN
      · intro h; have := (hB (by simpa [updB] using h)).alloc (.cells #[] 9); simpa [rmA, rmB, rmC, updB, updV] using this
      · intro h2 h6; have h6' : d 6 = true := by simpa [updB] using h6
        have hlt := fun k hk => (own_base (hB h6') k hk).2
        have : some w'.heap.size ≠ (rmB d x va vb).1.ownBlock := fun e => absurd (hlt _ e.symm) (by omega)
        simpa [rmA, rmB, updB, updV, e5, Value.ownBlock] using this
      · intro h; have := (hC (by simpa [updB] using h)).alloc (.cells #[] 9); simpa [rmA, rmB, rmC, updB, updV] using this
      · intro h; simp [updB, hdesc 20 (by decide) (by decide +kernel)] at h
      · intro h; obtain ⟨g, h1, h2, h3⟩ := h21 (by simpa [updB] using h); exact ⟨g, by simpa [updV] using h1, h2, h3.below (below_box _ _)⟩
    | 3, _ =>
      exact rstep_det rfl rfl rfl rfl (by simp [go_sem, b3, e3]) (by simpa [rmG, rmA, rmB, rmC, updB, updV] using hG) hb
    | 4, _ =>
      have t28 : a.tmps.getD 28 undef = .pointer (some ⟨w.heap.size, 1, none⟩) := (show a.tmps.getD 28 undef = x 3 from (hanc 3 (by decide +kernel)).2.1).trans ((hanc 3 (by decide +kernel)).2.2 _ rfl)
      have u28 := (Array.getD_eq_getD_getElem? (xs := a.tmps) (i := 28) (d := undef)).symm.trans t28
      exact rstep_det rfl rfl rfl rfl (by simp [go_sem, t28, u28, c1]) (by simpa [rmG, rmA, rmB, rmC, updB, updV] using hG) hb
    | 5, _ =>
      have t27 : a.tmps.getD 27 undef = x 2 := (hanc 2 (by decide +kernel)).2.1
      have d2 : d 2 = true := (hanc 2 (by decide +kernel)).1
      have u27 := (Array.getD_eq_getD_getElem? (xs := a.tmps) (i := 27) (d := undef)).symm.trans t27
      have t29 : a.tmps.getD 29 undef = .slice K ka.length kc := (show a.tmps.getD 29 undef = x 4 from (hanc 4 (by decide +kernel)).2.1).trans ((hanc 4 (by decide +kernel)).2.2 _ rfl)
      have u29 := (Array.getD_eq_getD_getElem? (xs := a.tmps) (i := 29) (d := undef)).symm.trans t29
      have e5 : d 5 = false := hdi
      have dd2 : d 2 = true := (hanc 2 (by decide +kernel)).1
      obtain ⟨hA, hB, hAB, hC, h20, h21⟩ := hG
      have o0 := hA dd2
      simp only [rmA, e5, dd2, if_true, if_false, Bool.false_eq_true] at o0
      obtain ⟨v1, w1, hrun, ho, hg, hbk⟩ := run_app w' (ty := 22) ty_strs o0 (c := kc) (((HRD.out.1.below hb0).below' hb).cells) (by intro u hu; obtain ⟨y, _, rfl⟩ := List.mem_map.1 hu; rfl) (by first | omega | (simp; omega)) (by unfold maxLen; first | omega | (simp; omega)) hb.size
      have hbw : Below w2.heap.size w2 w1 := hb.grown hg hb.size (fun k hk => (own_base o0 k hk).1)
      refine rstep_run (v := v1) (w' := w1) rfl rfl rfl rfl (exec_app rfl t27 t29 hrun) ⟨?_, ?_, ?_, ?_, ?_, ?_⟩ hbw
      · intro _; simpa [rmA, rmB, rmC, updB, updV, e5, dd2] using ho
      · intro h; have := (hB (by simpa [updB] using h)).kept hg (.inr (by have := hAB dd2 (by simpa [updB] using h); simp only [rmA, e5, dd2, if_true, if_false, Bool.false_eq_true] at this; exact fun e => this e.symm)); simpa [rmA, rmB, rmC, updB, updV] using this
      · intro h2 h6; have h6' : d 6 = true := by simpa [updB] using h6
        have hne := hAB dd2 h6'
        simp only [rmA, e5, if_false, Bool.false_eq_true] at hne
        have : v1.ownBlock ≠ (rmB d x va vb).1.ownBlock := ob_ne hbk hne (fun k hk => (own_base (hB h6') k hk).2)
        simpa [rmA, rmB, updB, updV, e5] using this
      · intro h; have := own_keep_type (hC (by simpa [updB] using h)) o0 hg (by decide); simpa [rmA, rmB, rmC, updB, updV] using this
      · intro h; simp [updB, hdesc 20 (by decide) (by decide +kernel)] at h
      · intro h; obtain ⟨g, h1, h2, h3⟩ := h21 (by simpa [updB] using h); exact ⟨g, by simpa [updV] using h1, h2, h3.grownO o0 hg (by decide)⟩
    | 6, _ =>
      have e9 : d 9 = false := hdesc 9 (by decide) (by decide +kernel)
      have e12 : d 12 = false := hdesc 12 (by decide) (by decide +kernel)
      obtain ⟨hA, hB, hAB, hC, h20, h21⟩ := hG
      have hBs : w2.heap.size ≤ w'.heap.size := hb.size
      have eN := own_empty w' w2.heap.size 9 1 hBs
      refine rstep_run (v := .slice (some ⟨w'.heap.size, 0, none⟩) 0 0) (w' := w'.alloc (.cells #[] 9)) rfl rfl rfl rfl (by simp [go_sem]) ⟨?_, ?_, ?_, ?_, ?_, ?_⟩ (hb.alloc hb.size _)
      · intro h; have := (hA (by simpa [updB] using h)).alloc (.cells #[] 9); simpa [rmA, rmB, rmC, updB, updV] using this
      · intro _; simpa [rmA, rmB, rmC, updB, updV, e9, e12] using eN
      · intro h2 h6; have h2' : d 2 = true := by simpa [updB] using h2
        have hlt := fun k hk => (own_base (hA h2') k hk).2
        have : (rmA d x ka).1.ownBlock ≠ some w'.heap.size := fun e => absurd (hlt _ e) (by omega)
        simpa [rmA, rmB, updB, updV, e9, e12, Value.ownBlock] using this
      · intro h; have := (hC (by simpa [updB] using h)).alloc (.cells #[] 9); simpa [rmA, rmB, rmC, updB, updV] using this
      · intro h; simp [updB, hdesc 20 (by decide) (by decide +kernel)] at h
      · intro h; obtain ⟨g, h1, h2, h3⟩ := h21 (by simpa [updB] using h); exact ⟨g, by simpa [updV] using h1, h2, h3.below (below_box _ _)⟩
    | 7, _ =>
      exact rstep_det rfl rfl rfl rfl (by simp [go_sem, b3, e3]) (by simpa [rmG, rmA, rmB, rmC, updB, updV] using hG) hb
    | 8, _ =>
      have t32 : a.tmps.getD 32 undef = .pointer (some ⟨w.heap.size, 2, none⟩) := (show a.tmps.getD 32 undef = x 7 from (hanc 7 (by decide +kernel)).2.1).trans ((hanc 7 (by decide +kernel)).2.2 _ rfl)
      have u32 := (Array.getD_eq_getD_getElem? (xs := a.tmps) (i := 32) (d := undef)).symm.trans t32
      exact rstep_det rfl rfl rfl rfl (by simp [go_sem, t32, u32, c2]) (by simpa [rmG, rmA, rmB, rmC, updB, updV] using hG) hb
    | 9, _ =>
      have t31 : a.tmps.getD 31 undef = x 6 := (hanc 6 (by decide +kernel)).2.1
      have d6 : d 6 = true := (hanc 6 (by decide +kernel)).1
      have u31 := (Array.getD_eq_getD_getElem? (xs := a.tmps) (i := 31) (d := undef)).symm.trans t31
      have t33 : a.tmps.getD 33 undef = .slice V va.length vc := (show a.tmps.getD 33 undef = x 8 from (hanc 8 (by decide +kernel)).2.1).trans ((hanc 8 (by decide +kernel)).2.2 _ rfl)
      have u33 := (Array.getD_eq_getD_getElem? (xs := a.tmps) (i := 33) (d := undef)).symm.trans t33
      have e9 : d 9 = false := hdi
      have e12 : d 12 = false := hdesc 12 (by decide) (by decide +kernel)
      have dd6 : d 6 = true := (hanc 6 (by decide +kernel)).1
      obtain ⟨hA, hB, hAB, hC, h20, h21⟩ := hG
      have o0 := hB dd6
      simp only [rmB, e9, e12, dd6, if_true, if_false, Bool.false_eq_true] at o0
      obtain ⟨v1, w1, hrun, ho, hg, hbk⟩ := run_app w' (ty := 22) ty_strs o0 (c := vc) (((HRD.out.2.1.below hb0).below' hb).cells) (by intro u hu; obtain ⟨y, _, rfl⟩ := List.mem_map.1 hu; rfl) (by first | omega | (simp; omega)) (by unfold maxLen; first | omega | (simp; omega)) hb.size
      have hbw : Below w2.heap.size w2 w1 := hb.grown hg hb.size (fun k hk => (own_base o0 k hk).1)
      refine rstep_run (v := v1) (w' := w1) rfl rfl rfl rfl (exec_app rfl t31 t33 hrun) ⟨?_, ?_, ?_, ?_, ?_, ?_⟩ hbw
      · intro h; have := (hA (by simpa [updB] using h)).kept hg (.inr (by have := hAB (by simpa [updB] using h) dd6; simp only [rmB, e9, e12, dd6, if_true, if_false, Bool.false_eq_true] at this; exact this)); simpa [rmA, rmB, rmC, updB, updV] using this
      · intro _; simpa [rmA, rmB, rmC, updB, updV, e9, e12, dd6] using ho
      · intro h2 h6; have h2' : d 2 = true := by simpa [updB] using h2
        have hne := hAB h2' dd6
        simp only [rmB, e9, e12, dd6, if_true, if_false, Bool.false_eq_true] at hne
        have : v1.ownBlock ≠ (rmA d x ka).1.ownBlock := ob_ne hbk (fun e => hne e.symm) (fun k hk => (own_base (hA h2') k hk).2)
        simpa [rmA, rmB, updB, updV, e9, e12, dd6] using fun e => this (Eq.symm e)
      · intro h; have := own_keep_type (hC (by simpa [updB] using h)) o0 hg (by decide); simpa [rmA, rmB, rmC, updB, updV] using this
      · intro h; simp [updB, hdesc 20 (by decide) (by decide +kernel)] at h
      · intro h; obtain ⟨g, h1, h2, h3⟩ := h21 (by simpa [updB] using h); exact ⟨g, by simpa [updV] using h1, h2, h3.grownO o0 hg (by decide)⟩
    | 10, _ =>
      exact rstep_det rfl rfl rfl rfl (by simp [go_sem, b5, e5]) (by simpa [rmG, rmA, rmB, rmC, updB, updV] using hG) hb
    | 11, _ =>
      have t35 : a.tmps.getD 35 undef = .pointer (some ⟨w.heap.size + 1, 2, none⟩) := (show a.tmps.getD 35 undef = x 10 from (hanc 10 (by decide +kernel)).2.1).trans ((hanc 10 (by decide +kernel)).2.2 _ rfl)
      have u35 := (Array.getD_eq_getD_getElem? (xs := a.tmps) (i := 35) (d := undef)).symm.trans t35
      exact rstep_det rfl rfl rfl rfl (by simp [go_sem, t35, u35, d2]) (by simpa [rmG, rmA, rmB, rmC, updB, updV] using hG) hb
    | 12, _ =>
      have t34 : a.tmps.getD 34 undef = x 9 := (hanc 9 (by decide +kernel)).2.1
      have d9 : d 9 = true := (hanc 9 (by decide +kernel)).1
      have u34 := (Array.getD_eq_getD_getElem? (xs := a.tmps) (i := 34) (d := undef)).symm.trans t34
      have t36 : a.tmps.getD 36 undef = .slice V' vb.length vc' := (show a.tmps.getD 36 undef = x 11 from (hanc 11 (by decide +kernel)).2.1).trans ((hanc 11 (by decide +kernel)).2.2 _ rfl)
      have u36 := (Array.getD_eq_getD_getElem? (xs := a.tmps) (i := 36) (d := undef)).symm.trans t36
      have e12 : d 12 = false := hdi
      have dd6 : d 6 = true := (hanc 6 (by decide +kernel)).1
      have dd9 : d 9 = true := (hanc 9 (by decide +kernel)).1
      obtain ⟨hA, hB, hAB, hC, h20, h21⟩ := hG
      have o0 := hB dd6
      simp only [rmB, e12, dd6, dd9, if_true, if_false, Bool.false_eq_true] at o0
      obtain ⟨v1, w1, hrun, ho, hg, hbk⟩ := run_app w' (ty := 22) ty_strs o0 (c := vc') (((HRD.out.2.2.2.2.1.below hb0).below' hb).cells) (by intro u hu; obtain ⟨y, _, rfl⟩ := List.mem_map.1 hu; rfl) (by first | omega | (simp; omega)) (by unfold maxLen; first | omega | (simp; omega)) hb.size
      have hbw : Below w2.heap.size w2 w1 := hb.grown hg hb.size (fun k hk => (own_base o0 k hk).1)
      refine rstep_run (v := v1) (w' := w1) rfl rfl rfl rfl (exec_app rfl t34 t36 hrun) ⟨?_, ?_, ?_, ?_, ?_, ?_⟩ hbw
      · intro h; have := (hA (by simpa [updB] using h)).kept hg (.inr (by have := hAB (by simpa [updB] using h) dd6; simp only [rmB, e12, dd6, dd9, if_true, if_false, Bool.false_eq_true] at this; exact this)); simpa [rmA, rmB, rmC, updB, updV] using this
      · intro _; simpa [rmA, rmB, rmC, updB, updV, e12, dd6, dd9] using ho
      · intro h2 h6; have h2' : d 2 = true := by simpa [updB] using h2
        have hne := hAB h2' dd6
        simp only [rmB, e12, dd6, dd9, if_true, if_false, Bool.false_eq_true] at hne
        have : v1.ownBlock ≠ (rmA d x ka).1.ownBlock := ob_ne hbk (fun e => hne e.symm) (fun k hk => (own_base (hA h2') k hk).2)
        simpa [rmA, rmB, updB, updV, e12, dd6, dd9] using fun e => this (Eq.symm e)
      · intro h; have := own_keep_type (hC (by simpa [updB] using h)) o0 hg (by decide); simpa [rmA, rmB, rmC, updB, updV] using this
      · intro h; simp [updB, hdesc 20 (by decide) (by decide +kernel)] at h
      · intro h; obtain ⟨g, h1, h2, h3⟩ := h21 (by simpa [updB] using h); exact ⟨g, by simpa [updV] using h1, h2, h3.grownO o0 hg (by decide)⟩
    | 13, _ =>
      have e16 : d 16 = false := hdesc 16 (by decide) (by decide +kernel)
      have e19 : d 19 = false := hdesc 19 (by decide) (by decide +kernel)
      obtain ⟨hA, hB, hAB, hC, h20, h21⟩ := hG
      have hBs : w2.heap.size ≤ w'.heap.size := hb.size
      have eN := own_empty w' w2.heap.size 3 1 hBs
      refine rstep_run (v := .slice (some ⟨w'.heap.size, 0, none⟩) 0 0) (w' := w'.alloc (.cells #[] 3)) rfl rfl rfl rfl (by simp [go_sem]) ⟨?_, ?_, ?_, ?_, ?_, ?_⟩ (hb.alloc hb.size _)
      · intro h; have := (hA (by simpa [updB] using h)).alloc (.cells #[] 3); simpa [rmA, rmB, rmC, updB, updV] using this
      · intro h; have := (hB (by simpa [updB] using h)).alloc (.cells #[] 3); simpa [rmA, rmB, rmC, updB, updV] using this
      · intro h2 h6; simpa [rmA, rmB, updB, updV] using hAB (by simpa [updB] using h2) (by simpa [updB] using h6)
      · intro _; simpa [rmA, rmB, rmC, updB, updV, e16, e19] using eN
      · intro h; simp [updB, hdesc 20 (by decide) (by decide +kernel)] at h
      · intro h; obtain ⟨g, h1, h2, h3⟩ := h21 (by simpa [updB] using h); exact ⟨g, by simpa [updV] using h1, h2, h3.below (below_box _ _)⟩
    | 14, _ =>
      exact rstep_det rfl rfl rfl rfl (by simp [go_sem, b3, e3]) (by simpa [rmG, rmA, rmB, rmC, updB, updV] using hG) hb
    | 15, _ =>
      have t39 : a.tmps.getD 39 undef = .pointer (some ⟨w.heap.size, 3, none⟩) := (show a.tmps.getD 39 undef = x 14 from (hanc 14 (by decide +kernel)).2.1).trans ((hanc 14 (by decide +kernel)).2.2 _ rfl)
      have u39 := (Array.getD_eq_getD_getElem? (xs := a.tmps) (i := 39) (d := undef)).symm.trans t39
      exact rstep_det rfl rfl rfl rfl (by simp [go_sem, t39, u39, c3]) (by simpa [rmG, rmA, rmB, rmC, updB, updV] using hG) hb
    | 16, _ =>
      have t38 : a.tmps.getD 38 undef = x 13 := (hanc 13 (by decide +kernel)).2.1
      have d13 : d 13 = true := (hanc 13 (by decide +kernel)).1
      have u38 := (Array.getD_eq_getD_getElem? (xs := a.tmps) (i := 38) (d := undef)).symm.trans t38
      have t40 : a.tmps.getD 40 undef = .slice C ca.length cc := (show a.tmps.getD 40 undef = x 15 from (hanc 15 (by decide +kernel)).2.1).trans ((hanc 15 (by decide +kernel)).2.2 _ rfl)
      have u40 := (Array.getD_eq_getD_getElem? (xs := a.tmps) (i := 40) (d := undef)).symm.trans t40
      have e16 : d 16 = false := hdi
      have e19 : d 19 = false := hdesc 19 (by decide) (by decide +kernel)
      have dd13 : d 13 = true := (hanc 13 (by decide +kernel)).1
      obtain ⟨hA, hB, hAB, hC, h20, h21⟩ := hG
      have o0 := hC dd13
      simp only [rmC, e16, e19, dd13, if_true, if_false, Bool.false_eq_true] at o0
      obtain ⟨v1, w1, hrun, ho, hg, hbk⟩ := run_app w' (ty := 23) ty_ints o0 (c := cc) (((HRD.out.2.2.1.below hb0).below' hb).cells) (by intro u hu; obtain ⟨y, _, rfl⟩ := List.mem_map.1 hu; rfl) (by first | omega | (simp; omega)) (by unfold maxLen; first | omega | (simp; omega)) hb.size
      have hbw : Below w2.heap.size w2 w1 := hb.grown hg hb.size (fun k hk => (own_base o0 k hk).1)
      refine rstep_run (v := v1) (w' := w1) rfl rfl rfl rfl (exec_app rfl t38 t40 hrun) ⟨?_, ?_, ?_, ?_, ?_, ?_⟩ hbw
      · intro h; have := own_keep_type (hA (by simpa [updB] using h)) o0 hg (by decide); simpa [rmA, rmB, rmC, updB, updV] using this
      · intro h; have := own_keep_type (hB (by simpa [updB] using h)) o0 hg (by decide); simpa [rmA, rmB, rmC, updB, updV] using this
      · intro h2 h6; simpa [rmA, rmB, updB, updV] using hAB (by simpa [updB] using h2) (by simpa [updB] using h6)
      · intro _; simpa [rmA, rmB, rmC, updB, updV, e16, e19, dd13] using ho
      · intro h; simp [updB, hdesc 20 (by decide) (by decide +kernel)] at h
      · intro h; obtain ⟨g, h1, h2, h3⟩ := h21 (by simpa [updB] using h); exact ⟨g, by simpa [updV] using h1, h2, h3.grownO o0 hg (by decide)⟩
    | 17, _ =>
      exact rstep_det rfl rfl rfl rfl (by simp [go_sem, b5, e5]) (by simpa [rmG, rmA, rmB, rmC, updB, updV] using hG) hb
    | 18, _ =>
      have t42 : a.tmps.getD 42 undef = .pointer (some ⟨w.heap.size + 1, 3, none⟩) := (show a.tmps.getD 42 undef = x 17 from (hanc 17 (by decide +kernel)).2.1).trans ((hanc 17 (by decide +kernel)).2.2 _ rfl)
      have u42 := (Array.getD_eq_getD_getElem? (xs := a.tmps) (i := 42) (d := undef)).symm.trans t42
      exact rstep_det rfl rfl rfl rfl (by simp [go_sem, t42, u42, d3]) (by simpa [rmG, rmA, rmB, rmC, updB, updV] using hG) hb
    | 19, _ =>
      have t41 : a.tmps.getD 41 undef = x 16 := (hanc 16 (by decide +kernel)).2.1
      have d16 : d 16 = true := (hanc 16 (by decide +kernel)).1
      have u41 := (Array.getD_eq_getD_getElem? (xs := a.tmps) (i := 41) (d := undef)).symm.trans t41
      have t43 : a.tmps.getD 43 undef = .slice C' cb.length cc' := (show a.tmps.getD 43 undef = x 18 from (hanc 18 (by decide +kernel)).2.1).trans ((hanc 18 (by decide +kernel)).2.2 _ rfl)
      have u43 := (Array.getD_eq_getD_getElem? (xs := a.tmps) (i := 43) (d := undef)).symm.trans t43
      have e19 : d 19 = false := hdi
      have dd13 : d 13 = true := (hanc 13 (by decide +kernel)).1
      have dd16 : d 16 = true := (hanc 16 (by decide +kernel)).1
      obtain ⟨hA, hB, hAB, hC, h20, h21⟩ := hG
      have o0 := hC dd13
      simp only [rmC, e19, dd13, dd16, if_true, if_false, Bool.false_eq_true] at o0
      obtain ⟨v1, w1, hrun, ho, hg, hbk⟩ := run_app w' (ty := 23) ty_ints o0 (c := cc') (((HRD.out.2.2.2.2.2.below hb0).below' hb).cells) (by intro u hu; obtain ⟨y, _, rfl⟩ := List.mem_map.1 hu; rfl) (by first | omega | (simp; omega)) (by unfold maxLen; first | omega | (simp; omega)) hb.size
      have hbw : Below w2.heap.size w2 w1 := hb.grown hg hb.size (fun k hk => (own_base o0 k hk).1)
      refine rstep_run (v := v1) (w' := w1) rfl rfl rfl rfl (exec_app rfl t41 t43 hrun) ⟨?_, ?_, ?_, ?_, ?_, ?_⟩ hbw
      · intro h; have := own_keep_type (hA (by simpa [updB] using h)) o0 hg (by decide); simpa [rmA, rmB, rmC, updB, updV] using this
      · intro h; have := own_keep_type (hB (by simpa [updB] using h)) o0 hg (by decide); simpa [rmA, rmB, rmC, updB, updV] using this
      · intro h2 h6; simpa [rmA, rmB, updB, updV] using hAB (by simpa [updB] using h2) (by simpa [updB] using h6)
      · intro _; simpa [rmA, rmB, rmC, updB, updV, e19, dd13, dd16] using ho
      · intro h; simp [updB, hdesc 20 (by decide) (by decide +kernel)] at h
      · intro h; obtain ⟨g, h1, h2, h3⟩ := h21 (by simpa [updB] using h); exact ⟨g, by simpa [updV] using h1, h2, h3.grownO o0 hg (by decide)⟩
    | 20, _ =>
      have t26 : a.tmps.getD 26 undef = .bool true := (show a.tmps.getD 26 undef = x 1 from (hanc 1 (by decide +kernel)).2.1).trans ((hanc 1 (by decide +kernel)).2.2 _ rfl)
      have u26 := (Array.getD_eq_getD_getElem? (xs := a.tmps) (i := 26) (d := undef)).symm.trans t26
      have t30 : a.tmps.getD 30 undef = x 5 := (hanc 5 (by decide +kernel)).2.1
      have d5 : d 5 = true := (hanc 5 (by decide +kernel)).1
      have u30 := (Array.getD_eq_getD_getElem? (xs := a.tmps) (i := 30) (d := undef)).symm.trans t30
      have t37 : a.tmps.getD 37 undef = x 12 := (hanc 12 (by decide +kernel)).2.1
      have d12 : d 12 = true := (hanc 12 (by decide +kernel)).1
      have u37 := (Array.getD_eq_getD_getElem? (xs := a.tmps) (i := 37) (d := undef)).symm.trans t37
      have t44 : a.tmps.getD 44 undef = x 19 := (hanc 19 (by decide +kernel)).2.1
      have d19 : d 19 = true := (hanc 19 (by decide +kernel)).1
      have u44 := (Array.getD_eq_getD_getElem? (xs := a.tmps) (i := 44) (d := undef)).symm.trans t44
      obtain ⟨hA, hB, hAB, hC, h20, h21⟩ := hG
      have dd2 : d 2 = true := (hanc 2 (by decide +kernel)).1
      have dd6 : d 6 = true := (hanc 6 (by decide +kernel)).1
      have dd13 : d 13 = true := (hanc 13 (by decide +kernel)).1
      have o5 := hA dd2
      have o12 := hB dd6
      have o19 := hC dd13
      simp only [rmA, rmB, rmC, d5, d12, d19, if_true] at o5 o12 o19
      obtain ⟨A5, c5, e5, _⟩ := own_form o5
      obtain ⟨A9, c9, e9, _⟩ := own_form o12
      obtain ⟨A13, c13, e13, _⟩ := own_form o19
      exact rstep_run (v := .agg #[.bool true, x 5, x 12, x 19]) (w' := w') rfl rfl rfl rfl (by simp [go_sem, t26, u26, t30, u30, t37, u37, t44, u44, e5, e9, e13]) ⟨by simpa [rmA, updB, updV] using hA, by simpa [rmB, updB, updV] using hB, by simpa [rmA, rmB, updB, updV] using hAB, by simpa [rmC, updB, updV] using hC, fun _ => by simp [updV], by simpa [updB, updV] using h21⟩ hb
    | 21, _ =>
      obtain ⟨hA, hB, hAB, hC, h20, h21⟩ := hG
      exact rstep_run (v := .pointer (some ⟨w'.heap.size, 0, none⟩)) (w' := w'.alloc (.cells #[.bool false, .slice none 0 0, .slice none 0 0, .slice none 0 0] 25)) rfl rfl rfl rfl (by simp [go_sem])
        ⟨fun h => by simpa [rmA, updB, updV] using (hA (by simpa [updB] using h)).alloc _, fun h => by simpa [rmB, updB, updV] using (hB (by simpa [updB] using h)).alloc _, by simpa [rmA, rmB, updB, updV] using hAB, fun h => by simpa [rmC, updB, updV] using (hC (by simpa [updB] using h)).alloc _, by simpa [updB, updV] using h20, fun _ => ⟨w'.heap.size, by simp [updV], hb.size, blk4_new _ _ _ _ _ _⟩⟩ (hb.alloc hb.size _)
    | (m + 22), h => exact absurd h (by omega)
  · intro d x w' hb hall hG
    obtain ⟨hA, hB, hAB, hC, h20, h21⟩ := hG
    have o5 := hA (hall 2 (by omega)).1
    have o12 := hB (hall 6 (by omega)).1
    have hne := hAB (hall 2 (by omega)).1 (hall 6 (by omega)).1
    have o19 := hC (hall 13 (by omega)).1
    simp only [rmA, rmB, rmC, (hall 5 (by omega)).1, (hall 12 (by omega)).1, (hall 19 (by omega)).1, if_true] at o5 o12 o19 hne
    have e20 := h20 (hall 20 (by omega)).1
    obtain ⟨g, e21, hg1, hg2⟩ := h21 (hall 21 (by omega)).1
    simp only [rfill, rdst, List.getElem?_toArray, List.getElem?_cons_zero, List.getElem?_cons_succ, Option.bind_some, Act.put, List.setIfInBounds_toArray, List.set_cons_zero, List.set_cons_succ, List.drop_succ_cons, List.drop_zero]
    rw [e20, e21]
    clear e20 e21 hall hA hB hAB hC h20 h21
    have b3 := Lib.hid ((B3.out.below HB2.out).below hb)
    have k2 := Lib.hid (k2 _ hb)
    have k1 := Lib.hid (k1 _ hb)
    have HB := Lib.hid (hb0.trans (hb.mono (hb0.size)))
    have hg0 : w.heap.size < g := by omega
    have hg1' : w.heap.size + 1 < g := by omega
    have hg2' : w.heap.size + 1 + 1 < g := by omega
    have hbs := hb.size
    clear hb
    obtain ⟨Vs, hVs⟩ : ∃ Vs, Vs = va ++ vb := ⟨_, rfl⟩
    obtain ⟨Cs, hCs⟩ : ∃ Cs, Cs = ca ++ cb := ⟨_, rfl⟩
    have lvs : Vs.length ≤ 600 := by rw [hVs]; simp; omega
    have lcs : Cs.length ≤ 600 := by rw [hCs]; simp; omega
    rw [← hVs] at o12
    rw [← hCs] at o19
    have ev := Lib.hid hVs; clear hVs
    have ec := Lib.hid hCs; clear hCs
    obtain ⟨A5, c5, e5, _⟩ := own_form o5
    obtain ⟨A9, c9, e9, m9, n9⟩ := own_form o12
    obtain ⟨A13, c13, e13, m13, n13⟩ := own_form o19
    rw [e5] at o5 hne
    rw [e9] at o12 hne
    rw [e13] at o19
    rw [e5, e9, e13]
    obtain ⟨⟨j0, j1, j2, j3⟩, f0, f1, f2, f3⟩ := hg2.cells
    have HO := Lib.hid (And.intro o5 (And.intro o12 (And.intro o19 (And.intro hne hg2))))
    have HL := Lib.hid (And.intro m9 (And.intro n9 (And.intro m13 n13)))
    clear e5 e9 e13 o5 o12 o19 hne hg2 m9 n9 m13 n13
    -- the block is stored
    have HS : Hid (RSt w w2.heap.size g true (.slice K ka.length kc) (.slice V va.length vc) (.slice C ca.length cc) (.slice K' kb.length kc') (.slice V' vb.length vc') (.slice C' cb.length cc') (.slice A5 ka.length c5) (.slice A9 Vs.length c9) (.slice A13 Cs.length c13) ka Vs Cs ((((w'.setCell ⟨g, 0, none⟩ (.bool true)).setCell ⟨g, 1, none⟩ (.slice A5 ka.length c5)).setCell ⟨g, 2, none⟩ (.slice A9 Vs.length c9)).setCell ⟨g, 3, none⟩ (.slice A13 Cs.length c13))) := by
      have hgr : w'.grownBy ((((w'.setCell ⟨g, 0, none⟩ (.bool true)).setCell ⟨g, 1, none⟩ (.slice A5 ka.length c5)).setCell ⟨g, 2, none⟩ (.slice A9 Vs.length c9)).setCell ⟨g, 3, none⟩ (.slice A13 Cs.length c13)) (some g) := grown_off (by simp [World.setCell]) rfl rfl rfl (set4_other w' g _ _ _ _)
      exact ⟨own_off_blk HO.out.1 HO.out.2.2.2.2 (by decide) hgr, own_off_blk HO.out.2.1 HO.out.2.2.2.2 (by decide) hgr, own_off_blk HO.out.2.2.1 HO.out.2.2.2.2 (by decide) hgr, HO.out.2.2.2.1, HO.out.2.2.2.2.set4 _ _ _ _, b3.out.off (by omega) (set4_other w' g _ _ _ _), k1.out.off (by omega) (set4_other w' g _ _ _ _), k2.out.off (by omega) (set4_other w' g _ _ _ _),
        (((HB.out.setCell (by first | omega | (simp; done) | (simp; omega)) _).setCell (by first | omega | (simp; done) | (simp; omega)) _).setCell (by first | omega | (simp; done) | (simp; omega)) _).setCell (by first | omega | (simp; done) | (simp; omega)) _, by simp [World.setCell]; omega⟩
    have HOC := Lib.hid (fun u (hu : u ∈ kb.map Value.string) => (show u.oneCell' = true by obtain ⟨x, _, rfl⟩ := List.mem_map.1 hu; rfl))
    have HOK := Lib.hid (fun u (hu : u ∈ [key].map Value.string) => (show u.oneCell' = true by obtain ⟨x, _, rfl⟩ := List.mem_map.1 hu; rfl))
    obtain ⟨⟨u0, u1, u2, u3⟩, _⟩ := k1.out.cells
    obtain ⟨⟨s0, s1, s2, s3⟩, _⟩ := k2.out.cells
    clear HO b3 k1 k2 HB
    go_wp2_with (at_builtin; refine wpList_app _ rfl (.tmp 56) (.tmp 58) ty_strs rfl _ _ _ rfl HS.out.a K' kb.length kc' (kb.map Value.string) rfl ((HRD.out.2.2.2.1.below HS.out.below).cells) HOC.out (by first | omega | (simp; omega)) (by unfold maxLen; first | omega | (simp; omega)) HS.out.base ?_; intro v2 w6 h1 h2 h3; obtain ⟨A7, c7, rfl, m7, n7⟩ := own_form h1; obtain ⟨⟨r0, r1, r2, r3⟩, g0, g1, g2, g3⟩ := (HS.out.blk.grownO HS.out.a h2 (by decide)).cells; have HT := Lib.hid (HS.out.app (by omega) (by omega) h1 (by simp; try omega) h2 h3); clear h1 h2 h3)
    try rw [show (ka ++ [key]).length = ka.length + 1 from by simp] at HT
    try rw [show (ka ++ [key]).length = ka.length + 1 from by simp] at m7
    have z1 : w.heap.size < (w6.setCell ⟨g, 1, none⟩ (.slice A7 (ka.length + kb.length) c7)).heap.size := by have := HT.out.below.size; have := HT.out.base; omega
    have z2 : w.heap.size + 1 < (w6.setCell ⟨g, 1, none⟩ (.slice A7 (ka.length + kb.length) c7)).heap.size := by have := HT.out.base; omega
    have z3 : w.heap.size + 1 + 1 < (w6.setCell ⟨g, 1, none⟩ (.slice A7 (ka.length + kb.length) c7)).heap.size := by have := HT.out.base; omega
    obtain ⟨W, hW⟩ : ∃ W, W = w6.setCell ⟨g, 1, none⟩ (.slice A7 (ka.length + kb.length) c7) := ⟨_, rfl⟩
    rw [← hW] at HT z1 z2 z3 ⊢
    clear hW r0 r1 r2 r3 g0 g1 g2 g3 u0 u1 u2 u3 s0 s1 s2 s3 j0 j1 j2 j3 f0 f1 f2 f3
    obtain ⟨Ks, hKs⟩ : ∃ Ks, Ks = ka ++ kb := ⟨_, rfl⟩
    have lks : Ks.length ≤ 700 := by rw [hKs]; simp; omega
    have hl : (ka.length + kb.length) = Ks.length := by rw [hKs]; simp; try omega
    have ek : Hid (Ks = mergeK true ka key kb) := by rw [hKs]; exact Lib.hid (by simp [mergeK])
    rw [← hKs] at HT
    rw [hl] at HT m7 ⊢
    clear hKs hl
    have P5 : Rd Value.string W A7 Ks := own_rd HT.out.a
    have P9 : Rd Value.string W A9 Vs := own_rd HT.out.b
    have P13 : Rd (Value.int .i64) W A13 Cs := own_rd HT.out.c
    have HP := Lib.hid (And.intro P5 (And.intro P9 (And.intro P13 (And.intro HT.out.blk (And.intro HT.out.res HT.out.below)))))
    have HM5 := Lib.hid (And.intro m7 n7)
    clear P5 P9 P13 m7 n7 HT HS HOC HOK HRD
    refine (rcan_any _ A7 A9 A13 Ks Vs Cs c7 c9 c13 _ HP.out.1 HP.out.2.1 HP.out.2.2.1 (by omega) (by omega) (by omega)).mono ?_
    rintro e w3 ⟨rfl, hb3⟩
    have HB3 := Lib.hid hb3; clear hb3
    cases hO : canB true Ks Vs Cs with
    | false =>
      have hr := HRES.out
      rw [← ek.out, ← ev.out, ← ec.out, if_neg (by rw [hO]; simp)] at hr
      obtain ⟨rfl, rfl, rfl, rfl⟩ := hr
      clear hO
      obtain ⟨⟨c0, c1, c2, c3⟩, f0, f1, f2, f3⟩ := (HP.out.2.2.2.2.1.below HB3.out).cells
      go_wp2_with fail
      refine bodyPost_ret (v := .tuple #[.agg #[.bool false, .slice none 0 0, .slice none 0 0, .slice none 0 0], .bool false]) (by simp [results, Try.results20, go_sem, c0, c1, c2, c3]) rfl ⟨_, rfl, blkV_zero _, ?_⟩
      have := below_then HP.out.2.2.2.2.2 (Nat.le_refl _) HB3.out
      exact (((this.setCell (by first | omega | (simp; done) | (simp; omega)) _).setCell (by first | omega | (simp; done) | (simp; omega)) _).setCell (by first | omega | (simp; done) | (simp; omega)) _).setCell (by first | omega | (simp; done) | (simp; omega)) _
    | true =>
      obtain ⟨z1, z2, z3⟩ := canB_sizes hO
      obtain ⟨⟨c0, c1, c2, c3⟩, _⟩ := (HP.out.2.2.2.1.below HB3.out).cells
      have hO' := Lib.hid hO; clear hO
      have HZ := Lib.hid (And.intro z1 (And.intro z2 z3)); clear z1 z2 z3
      go_wp2_with fail
      refine (rneed_any true A7 A9 A13 Ks Vs Cs c7 c9 c13 Ks.length _ (HP.out.1.below HB3.out) (HP.out.2.1.below HB3.out) (Nat.le_refl _) (by omega) (by omega) HZ.out.1 HZ.out.2.1).mono ?_
      rintro e w4 ⟨rfl, hb4⟩
      have HB4 := Lib.hid (below_then HB3.out (Nat.le_refl _) hb4); clear hb4 HB3 c0 c1 c2 c3
      obtain ⟨N, hN⟩ : ∃ N, N = needB true Ks Vs Ks.length := ⟨_, rfl⟩
      rw [← hN]
      have HN := Lib.hid hN; clear hN
      by_cases hbig : 509 < N
      · have hr := HRES.out
        rw [← ek.out, ← ev.out, ← ec.out, if_neg (fun h => by have := h.2; rw [← HN.out] at this; omega)] at hr
        obtain ⟨rfl, rfl, rfl, rfl⟩ := hr
        obtain ⟨⟨c0, c1, c2, c3⟩, f0, f1, f2, f3⟩ := (HP.out.2.2.2.2.1.below HB4.out).cells
        go_wp2_with fail
        refine bodyPost_ret (v := .tuple #[.agg #[.bool false, .slice none 0 0, .slice none 0 0, .slice none 0 0], .bool false]) (by simp [results, Try.results20, go_sem, c0, c1, c2, c3]) rfl ⟨_, rfl, blkV_zero _, ?_⟩
        have := below_then HP.out.2.2.2.2.2 (Nat.le_refl _) HB4.out
        exact (((this.setCell (by first | omega | (simp; done) | (simp; omega)) _).setCell (by first | omega | (simp; done) | (simp; omega)) _).setCell (by first | omega | (simp; done) | (simp; omega)) _).setCell (by first | omega | (simp; done) | (simp; omega)) _
      · have hr := HRES.out
        rw [← ek.out, ← ev.out, ← ec.out, if_pos ⟨hO'.out, by rw [← HN.out]; omega⟩] at hr
        obtain ⟨rfl, rfl, rfl, rfl⟩ := hr
        obtain ⟨⟨c0, c1, c2, c3⟩, f0, f1, f2, f3⟩ := (HP.out.2.2.2.2.1.below HB4.out).cells
        obtain ⟨⟨d0, d1, d2, d3⟩, _⟩ := (HP.out.2.2.2.1.below HB4.out).cells
        go_wp2_with fail
        have hno := (HP.out.2.2.2.2.1.below HB4.out).zero_no
        have hot := set4_other w4 (w.heap.size + 1 + 1) (.bool true) (.slice A7 ks.length c7) (.slice A9 vs.length c9) (.slice A13 cs.length c13)
        refine bodyPost_ret (v := .tuple #[.agg #[.bool true, .slice A7 ks.length c7, .slice A9 vs.length c9, .slice A13 cs.length c13], .bool true]) (by simp [results, Try.results20, go_sem, c0, c1, c2, c3]) rfl
          ⟨_, rfl, ⟨_, _, _, rfl, ⟨A7, c7, rfl, HM5.out.1, HM5.out.2, (HP.out.1.below HB4.out).off _ hno.1 hot⟩, ⟨A9, c9, rfl, HL.out.1, HL.out.2.1, (HP.out.2.1.below HB4.out).off _ hno.1 hot⟩, ⟨A13, c13, rfl, HL.out.2.2.1, HL.out.2.2.2, (HP.out.2.2.1.below HB4.out).off _ hno.2 hot⟩⟩, ?_⟩
        have := below_then HP.out.2.2.2.2.2 (Nat.le_refl _) HB4.out
        exact (((this.setCell (by first | omega | (simp; done) | (simp; omega)) _).setCell (by first | omega | (simp; done) | (simp; omega)) _).setCell (by first | omega | (simp; done) | (simp; omega)) _).setCell (by first | omega | (simp; done) | (simp; omega)) _
set_option maxRecDepth 100000 in
set_option maxHeartbeats 4000000 in
theorem rmerge_yesF (K V C K' V' C' : Option Addr) (ka va : List ByteArray) (ca : List Int) (kc vc cc : Nat) (key : ByteArray) (kb vb : List ByteArray) (cb : List Int) (kc' vc' cc' : Nat) (w : World)
    (hk : Rd Value.string w K ka) (hv : Rd Value.string w V va) (hc : Rd (Value.int .i64) w C ca) (hk' : Rd Value.string w K' kb) (hv' : Rd Value.string w V' vb) (hc' : Rd (Value.int .i64) w C' cb)
    (l1 : ka.length ≤ 300) (l2 : va.length ≤ 300) (l3 : ca.length ≤ 300) (l4 : kb.length ≤ 300) (l5 : vb.length ≤ 300) (l6 : cb.length ≤ 300)
    (hA : canB false ka va ca = true) (hB : canB false kb vb cb = true) (ok : Bool) (ks vs : List ByteArray) (cs : List Int)
    (hres : if canB false (mergeK false ka key kb) (va ++ vb) (ca ++ cb) = true ∧ needB false (mergeK false ka key kb) (va ++ vb) (mergeK false ka key kb).length ≤ 509 then ok = true ∧ ks = mergeK false ka key kb ∧ vs = va ++ vb ∧ cs = ca ++ cb else ok = false ∧ ks = [] ∧ vs = [] ∧ cs = []) :
    Calls Try.prog 20 #[.agg #[.bool false, .slice K ka.length kc, .slice V va.length vc, .slice C ca.length cc], .string key, .agg #[.bool false, .slice K' kb.length kc', .slice V' vb.length vc', .slice C' cb.length cc']] w (RetM w ok (ok && false) ks vs cs) := by
  have HW := Lib.hid (((Below.refl w.heap.size w).alloc (Nat.le_refl _) (.cells #[.bool false, .slice K ka.length kc, .slice V va.length vc, .slice C ca.length cc] 25)).alloc (by first | omega | (simp; done) | (simp; omega)) (.cells #[.bool false, .slice K' kb.length kc', .slice V' vb.length vc', .slice C' cb.length cc'] 25) |>.alloc (by first | omega | (simp; done) | (simp; omega)) (.cells #[.bool false, .slice none 0 0, .slice none 0 0, .slice none 0 0] 25))
  have H1 := Lib.hid (fun W (hb : Below w.heap.size w W) => rcan_any false K V C ka va ca kc vc cc W (hk.below hb) (hv.below hb) (hc.below hb) (by omega) (by omega) (by omega))
  have H2 := Lib.hid (fun W (hb : Below w.heap.size w W) => rcan_any false K' V' C' kb vb cb kc' vc' cc' W (hk'.below hb) (hv'.below hb) (hc'.below hb) (by omega) (by omega) (by omega))
  have B1 : Hid (Blk4 (((w.alloc (.cells #[.bool false, .slice K ka.length kc, .slice V va.length vc, .slice C ca.length cc] 25)).alloc (.cells #[.bool false, .slice K' kb.length kc', .slice V' vb.length vc', .slice C' cb.length cc'] 25)).alloc (.cells #[.bool false, .slice none 0 0, .slice none 0 0, .slice none 0 0] 25)) w.heap.size 25 (.bool false) (.slice K ka.length kc) (.slice V va.length vc) (.slice C ca.length cc)) :=
    ((blk4_new w _ _ _ _ _).below (below_box _ _)).below (below_box _ _)
  have B2 : Hid (Blk4 (((w.alloc (.cells #[.bool false, .slice K ka.length kc, .slice V va.length vc, .slice C ca.length cc] 25)).alloc (.cells #[.bool false, .slice K' kb.length kc', .slice V' vb.length vc', .slice C' cb.length cc'] 25)).alloc (.cells #[.bool false, .slice none 0 0, .slice none 0 0, .slice none 0 0] 25)) (w.heap.size + 1) 25 (.bool false) (.slice K' kb.length kc') (.slice V' vb.length vc') (.slice C' cb.length cc')) := by
    have := (blk4_new (w.alloc (.cells #[.bool false, .slice K ka.length kc, .slice V va.length vc, .slice C ca.length cc] 25)) 25 (.bool false) (.slice K' kb.length kc') (.slice V' vb.length vc') (.slice C' cb.length cc')).below (below_box _ (.cells #[.bool false, .slice none 0 0, .slice none 0 0, .slice none 0 0] 25))
    simp only [World.size_alloc] at this
    exact this
  have B3 : Hid (Blk4 (((w.alloc (.cells #[.bool false, .slice K ka.length kc, .slice V va.length vc, .slice C ca.length cc] 25)).alloc (.cells #[.bool false, .slice K' kb.length kc', .slice V' vb.length vc', .slice C' cb.length cc'] 25)).alloc (.cells #[.bool false, .slice none 0 0, .slice none 0 0, .slice none 0 0] 25)) (w.heap.size + 1 + 1) 25 (.bool false) (.slice none 0 0) (.slice none 0 0) (.slice none 0 0)) := by
    have := blk4_new ((w.alloc (.cells #[.bool false, .slice K ka.length kc, .slice V va.length vc, .slice C ca.length cc] 25)).alloc (.cells #[.bool false, .slice K' kb.length kc', .slice V' vb.length vc', .slice C' cb.length cc'] 25)) 25 (.bool false) (.slice none 0 0) (.slice none 0 0) (.slice none 0 0)
    simp only [World.size_alloc] at this
    exact this
  have HRD := Lib.hid (And.intro hk (And.intro hv (And.intro hc (And.intro hk' (And.intro hv' hc')))))
  clear hk hv hc hk' hv' hc'
  have HRES := Lib.hid hres; clear hres
  rw [hA] at H1
  rw [hB] at H2
  clear hA hB
  have hee : (false == false) = true := by simp
  go_enter Try.func20, Try.ntmps20
  go_wp2_with fail
  refine (H1.out _ HW.out).mono ?_
  rintro e w1 ⟨rfl, hb1⟩
  have HB1 := Lib.hid hb1; clear hb1
  obtain ⟨⟨c0, c1, c2, c3⟩, _⟩ := (B2.out.below HB1.out).cells
  go_wp2_with fail
  refine (H2.out _ (HW.out.trans (HB1.out.mono (by first | omega | (simp; done) | (simp; omega))))).mono ?_
  rintro e w2 ⟨rfl, hb2⟩
  have HB2 := Lib.hid (below_then HB1.out (Nat.le_refl _) hb2); clear hb2 HB1 c0 c1 c2 c3
  have hz0 : w.heap.size < w2.heap.size := by have := HB2.out.size; simp at this; omega
  have hz1 : w.heap.size + 1 < w2.heap.size := by have := HB2.out.size; simp at this; omega
  have hz2 : w.heap.size + 1 + 1 < w2.heap.size := by have := HB2.out.size; simp at this; omega
  obtain ⟨⟨c0, c1, c2, c3⟩, _⟩ := (B1.out.below HB2.out).cells
  obtain ⟨⟨d0, d1, d2, d3⟩, _⟩ := (B2.out.below HB2.out).cells
  go_wp2_with fail
  have hb0 : Below w.heap.size w w2 := HW.out.trans (HB2.out.mono (by first | omega | (simp; done) | (simp; omega)))
  have k1 : ∀ W, Below w2.heap.size w2 W → Blk4 W w.heap.size 25 (.bool false) (.slice K ka.length kc) (.slice V va.length vc) (.slice C ca.length cc) := fun W hb => (B1.out.below HB2.out).below hb
  have k2 : ∀ W, Below w2.heap.size w2 W → Blk4 W (w.heap.size + 1) 25 (.bool false) (.slice K' kb.length kc') (.slice V' vb.length vc') (.slice C' cb.length cc') := fun W hb => (B2.out.below HB2.out).below hb
  clear c0 c1 c2 c3 d0 d1 d2 d3
  refine region_front (by kernel_rfl) (fun | 0 => some (.pointer (some ⟨w.heap.size, 0, none⟩)) | 1 => some (.bool false) | 3 => some (.pointer (some ⟨w.heap.size, 1, none⟩)) | 4 => some (.slice K ka.length kc) | 7 => some (.pointer (some ⟨w.heap.size, 2, none⟩)) | 8 => some (.slice V va.length vc) | 10 => some (.pointer (some ⟨w.heap.size + 1, 2, none⟩)) | 11 => some (.slice V' vb.length vc') | 14 => some (.pointer (some ⟨w.heap.size, 3, none⟩)) | 15 => some (.slice C ca.length cc) | 17 => some (.pointer (some ⟨w.heap.size + 1, 3, none⟩)) | 18 => some (.slice C' cb.length cc') | _ => none)
    (rmG w2.heap.size false ka va vb ca cb) 22 74 (by decide) rfl (by kernel_rfl) (by kernel_rfl) (by kernel_rfl) (by kernel_rfl) ?_ ?_ ?_
  · intro w' _
    simp [rmG]
  · intro i hi d x a w' hb hsame hanc hdi hdesc hG
    obtain ⟨⟨c0, c1, c2, c3⟩, _⟩ := (k1 _ hb).cells
    obtain ⟨⟨d0, d1, d2, d3⟩, _⟩ := (k2 _ hb).cells
    have b3 : a.tmps.getD 3 undef = .pointer (some ⟨w.heap.size, 0, none⟩) := by rw [Array.getD_eq_getD_getElem?, hsame 3 (by decide +kernel)]; rfl
    have e3 := (Array.getD_eq_getD_getElem? (xs := a.tmps) (i := 3) (d := undef)).symm.trans b3
    have b5 : a.tmps.getD 5 undef = .pointer (some ⟨w.heap.size + 1, 0, none⟩) := by rw [Array.getD_eq_getD_getElem?, hsame 5 (by decide +kernel)]; rfl
    have e5 := (Array.getD_eq_getD_getElem? (xs := a.tmps) (i := 5) (d := undef)).symm.trans b5
    match i, hi with
    | 0, _ =>
      exact rstep_det rfl rfl rfl rfl (by simp [go_sem, b3, e3]) (by simpa [rmG, rmA, rmB, rmC, updB, updV] using hG) hb
    | 1, _ =>
      have t25 : a.tmps.getD 25 undef = .pointer (some ⟨w.heap.size, 0, none⟩) := (show a.tmps.getD 25 undef = x 0 from (hanc 0 (by decide +kernel)).2.1).trans ((hanc 0 (by decide +kernel)).2.2 _ rfl)
      have u25 := (Array.getD_eq_getD_getElem? (xs := a.tmps) (i := 25) (d := undef)).symm.trans t25
      exact rstep_det rfl rfl rfl rfl (by simp [go_sem, t25, u25, c0]) (by simpa [rmG, rmA, rmB, rmC, updB, updV] using hG) hb
    | 2, _ =>
      have e5 : d 5 = false := hdesc 5 (by decide) (by decide +kernel)
      obtain ⟨hA, hB, hAB, hC, h20, h21⟩ := hG
      have hBs : w2.heap.size ≤ w'.heap.size := hb.size
      have eN := own_empty w' w2.heap.size 9 1 hBs
      refine rstep_run (v := .slice (some ⟨w'.heap.size, 0, none⟩) 0 0) (w' := w'.alloc (.cells #[] 9)) rfl rfl rfl rfl (by simp [go_sem]) ⟨?_, ?_, ?_, ?_, ?_, ?_⟩ (hb.alloc hb.size _)
      · intro _; simpa [rmA, rmB, rmC, updB, updV, e5] using eN
      · intro h; have := (hB (by simpa [updB] using h)).alloc (.cells #[] 9); simpa [rmA, rmB, rmC, updB, updV] using this
      · intro h2 h6; have h6' : d 6 = true := by simpa [updB] using h6
        have hlt := fun k hk => (own_base (hB h6') k hk).2
        have : some w'.heap.size ≠ (rmB d x va vb).1.ownBlock := fun e => absurd (hlt _ e.symm) (by omega)
        simpa [rmA, rmB, updB, updV, e5, Value.ownBlock] using this
      · intro h; have := (hC (by simpa [updB] using h)).alloc (.cells #[] 9); simpa [rmA, rmB, rmC, updB, updV] using this
      · intro h; simp [updB, hdesc 20 (by decide) (by decide +kernel)] at h
      · intro h; obtain ⟨g, h1, h2, h3⟩ := h21 (by simpa [updB] using h); exact ⟨g, by simpa [updV] using h1, h2, h3.below (below_box _ _)⟩
    | 3, _ =>
      exact rstep_det rfl rfl rfl rfl (by simp [go_sem, b3, e3]) (by simpa [rmG, rmA, rmB, rmC, updB, updV] using hG) hb
    | 4, _ =>
      have t28 : a.tmps.getD 28 undef = .pointer (some ⟨w.heap.size, 1, none⟩) := (show a.tmps.getD 28 undef = x 3 from (hanc 3 (by decide +kernel)).2.1).trans ((hanc 3 (by decide +kernel)).2.2 _ rfl)
      have u28 := (Array.getD_eq_getD_getElem? (xs := a.tmps) (i := 28) (d := undef)).symm.trans t28
      exact rstep_det rfl rfl rfl rfl (by simp [go_sem, t28, u28, c1]) (by simpa [rmG, rmA, rmB, rmC, updB, updV] using hG) hb
    | 5, _ =>
      have t27 : a.tmps.getD 27 undef = x 2 := (hanc 2 (by decide +kernel)).2.1
      have d2 : d 2 = true := (hanc 2 (by decide +kernel)).1
      have u27 := (Array.getD_eq_getD_getElem? (xs := a.tmps) (i := 27) (d := undef)).symm.trans t27
      have t29 : a.tmps.getD 29 undef = .slice K ka.length kc := (show a.tmps.getD 29 undef = x 4 from (hanc 4 (by decide +kernel)).2.1).trans ((hanc 4 (by decide +kernel)).2.2 _ rfl)
      have u29 := (Array.getD_eq_getD_getElem? (xs := a.tmps) (i := 29) (d := undef)).symm.trans t29
      have e5 : d 5 = false := hdi
      have dd2 : d 2 = true := (hanc 2 (by decide +kernel)).1
      obtain ⟨hA, hB, hAB, hC, h20, h21⟩ := hG
      have o0 := hA dd2
      simp only [rmA, e5, dd2, if_true, if_false, Bool.false_eq_true] at o0
      obtain ⟨v1, w1, hrun, ho, hg, hbk⟩ := run_app w' (ty := 22) ty_strs o0 (c := kc) (((HRD.out.1.below hb0).below' hb).cells) (by intro u hu; obtain ⟨y, _, rfl⟩ := List.mem_map.1 hu; rfl) (by first | omega | (simp; omega)) (by unfold maxLen; first | omega | (simp; omega)) hb.size
      have hbw : Below w2.heap.size w2 w1 := hb.grown hg hb.size (fun k hk => (own_base o0 k hk).1)
      refine rstep_run (v := v1) (w' := w1) rfl rfl rfl rfl (exec_app rfl t27 t29 hrun) ⟨?_, ?_, ?_, ?_, ?_, ?_⟩ hbw
      · intro _; simpa [rmA, rmB, rmC, updB, updV, e5, dd2] using ho
      · intro h; have := (hB (by simpa [updB] using h)).kept hg (.inr (by have := hAB dd2 (by simpa [updB] using h); simp only [rmA, e5, dd2, if_true, if_false, Bool.false_eq_true] at this; exact fun e => this e.symm)); simpa [rmA, rmB, rmC, updB, updV] using this
      · intro h2 h6; have h6' : d 6 = true := by simpa [updB] using h6
        have hne := hAB dd2 h6'
        simp only [rmA, e5, if_false, Bool.false_eq_true] at hne
        have : v1.ownBlock ≠ (rmB d x va vb).1.ownBlock := ob_ne hbk hne (fun k hk => (own_base (hB h6') k hk).2)
        simpa [rmA, rmB, updB, updV, e5] using this
      · intro h; have := own_keep_type (hC (by simpa [updB] using h)) o0 hg (by decide); simpa [rmA, rmB, rmC, updB, updV] using this
      · intro h; simp [updB, hdesc 20 (by decide) (by decide +kernel)] at h
      · intro h; obtain ⟨g, h1, h2, h3⟩ := h21 (by simpa [updB] using h); exact ⟨g, by simpa [updV] using h1, h2, h3.grownO o0 hg (by decide)⟩
    | 6, _ =>
      have e9 : d 9 = false := hdesc 9 (by decide) (by decide +kernel)
      have e12 : d 12 = false := hdesc 12 (by decide) (by decide +kernel)
      obtain ⟨hA, hB, hAB, hC, h20, h21⟩ := hG
      have hBs : w2.heap.size ≤ w'.heap.size := hb.size
      have eN := own_empty w' w2.heap.size 9 1 hBs
      refine rstep_run (v := .slice (some ⟨w'.heap.size, 0, none⟩) 0 0) (w' := w'.alloc (.cells #[] 9)) rfl rfl rfl rfl (by simp [go_sem]) ⟨?_, ?_, ?_, ?_, ?_, ?_⟩ (hb.alloc hb.size _)
      · intro h; have := (hA (by simpa [updB] using h)).alloc (.cells #[] 9); simpa [rmA, rmB, rmC, updB, updV] using this
      · intro _; simpa [rmA, rmB, rmC, updB, updV, e9, e12] using eN
      · intro h2 h6; have h2' : d 2 = true := by simpa [updB] using h2
        have hlt := fun k hk => (own_base (hA h2') k hk).2
        have : (rmA d x ka).1.ownBlock ≠ some w'.heap.size := fun e => absurd (hlt _ e) (by omega)
        simpa [rmA, rmB, updB, updV, e9, e12, Value.ownBlock] using this
      · intro h; have := (hC (by simpa [updB] using h)).alloc (.cells #[] 9); simpa [rmA, rmB, rmC, updB, updV] using this
      · intro h; simp [updB, hdesc 20 (by decide) (by decide +kernel)] at h
      · intro h; obtain ⟨g, h1, h2, h3⟩ := h21 (by simpa [updB] using h); exact ⟨g, by simpa [updV] using h1, h2, h3.below (below_box _ _)⟩
    | 7, _ =>
      exact rstep_det rfl rfl rfl rfl (by simp [go_sem, b3, e3]) (by simpa [rmG, rmA, rmB, rmC, updB, updV] using hG) hb
    | 8, _ =>
      have t32 : a.tmps.getD 32 undef = .pointer (some ⟨w.heap.size, 2, none⟩) := (show a.tmps.getD 32 undef = x 7 from (hanc 7 (by decide +kernel)).2.1).trans ((hanc 7 (by decide +kernel)).2.2 _ rfl)
      have u32 := (Array.getD_eq_getD_getElem? (xs := a.tmps) (i := 32) (d := undef)).symm.trans t32
      exact rstep_det rfl rfl rfl rfl (by simp [go_sem, t32, u32, c2]) (by simpa [rmG, rmA, rmB, rmC, updB, updV] using hG) hb
    | 9, _ =>
      have t31 : a.tmps.getD 31 undef = x 6 := (hanc 6 (by decide +kernel)).2.1
      have d6 : d 6 = true := (hanc 6 (by decide +kernel)).1
      have u31 := (Array.getD_eq_getD_getElem? (xs := a.tmps) (i := 31) (d := undef)).symm.trans t31
      have t33 : a.tmps.getD 33 undef = .slice V va.length vc := (show a.tmps.getD 33 undef = x 8 from (hanc 8 (by decide +kernel)).2.1).trans ((hanc 8 (by decide +kernel)).2.2 _ rfl)
      have u33 := (Array.getD_eq_getD_getElem? (xs := a.tmps) (i := 33) (d := undef)).symm.trans t33
      have e9 : d 9 = false := hdi
      have e12 : d 12 = false := hdesc 12 (by decide) (by decide +kernel)
      have dd6 : d 6 = true := (hanc 6 (by decide +kernel)).1
      obtain ⟨hA, hB, hAB, hC, h20, h21⟩ := hG
      have o0 := hB dd6
      simp only [rmB, e9, e12, dd6, if_true, if_false, Bool.false_eq_true] at o0
      obtain ⟨v1, w1, hrun, ho, hg, hbk⟩ := run_app w' (ty := 22) ty_strs o0 (c := vc) (((HRD.out.2.1.below hb0).below' hb).cells) (by intro u hu; obtain ⟨y, _, rfl⟩ := List.mem_map.1 hu; rfl) (by first | omega | (simp; omega)) (by unfold maxLen; first | omega | (simp; omega)) hb.size
      have hbw : Below w2.heap.size w2 w1 := hb.grown hg hb.size (fun k hk => (own_base o0 k hk).1)
      refine rstep_run (v := v1) (w' := w1) rfl rfl rfl rfl (exec_app rfl t31 t33 hrun) ⟨?_, ?_, ?_, ?_, ?_, ?_⟩ hbw
      · intro h; have := (hA (by simpa [updB] using h)).kept hg (.inr (by have := hAB (by simpa [updB] using h) dd6; simp only [rmB, e9, e12, dd6, if_true, if_false, Bool.false_eq_true] at this; exact this)); simpa [rmA, rmB, rmC, updB, updV] using this
      · intro _; simpa [rmA, rmB, rmC, updB, updV, e9, e12, dd6] using ho
      · intro h2 h6; have h2' : d 2 = true := by simpa [updB] using h2
        have hne := hAB h2' dd6
        simp only [rmB, e9, e12, dd6, if_true, if_false, Bool.false_eq_true] at hne
        have : v1.ownBlock ≠ (rmA d x ka).1.ownBlock := ob_ne hbk (fun e => hne e.symm) (fun k hk => (own_base (hA h2') k hk).2)
        simpa [rmA, rmB, updB, updV, e9, e12, dd6] using fun e => this (Eq.symm e)
      · intro h; have := own_keep_type (hC (by simpa [updB] using h)) o0 hg (by decide); simpa [rmA, rmB, rmC, updB, updV] using this
      · intro h; simp [updB, hdesc 20 (by decide) (by decide +kernel)] at h
      · intro h; obtain ⟨g, h1, h2, h3⟩ := h21 (by simpa [updB] using h); exact ⟨g, by simpa [updV] using h1, h2, h3.grownO o0 hg (by decide)⟩
    | 10, _ =>
      exact rstep_det rfl rfl rfl rfl (by simp [go_sem, b5, e5]) (by simpa [rmG, rmA, rmB, rmC, updB, updV] using hG) hb
    | 11, _ =>
      have t35 : a.tmps.getD 35 undef = .pointer (some ⟨w.heap.size + 1, 2, none⟩) := (show a.tmps.getD 35 undef = x 10 from (hanc 10 (by decide +kernel)).2.1).trans ((hanc 10 (by decide +kernel)).2.2 _ rfl)
      have u35 := (Array.getD_eq_getD_getElem? (xs := a.tmps) (i := 35) (d := undef)).symm.trans t35
      exact rstep_det rfl rfl rfl rfl (by simp [go_sem, t35, u35, d2]) (by simpa [rmG, rmA, rmB, rmC, updB, updV] using hG) hb
    | 12, _ =>
      have t34 : a.tmps.getD 34 undef = x 9 := (hanc 9 (by decide +kernel)).2.1
      have d9 : d 9 = true := (hanc 9 (by decide +kernel)).1
      have u34 := (Array.getD_eq_getD_getElem? (xs := a.tmps) (i := 34) (d := undef)).symm.trans t34
      have t36 : a.tmps.getD 36 undef = .slice V' vb.length vc' := (show a.tmps.getD 36 undef = x 11 from (hanc 11 (by decide +kernel)).2.1).trans ((hanc 11 (by decide +kernel)).2.2 _ rfl)
      have u36 := (Array.getD_eq_getD_getElem? (xs := a.tmps) (i := 36) (d := undef)).symm.trans t36
      have e12 : d 12 = false := hdi
      have dd6 : d 6 = true := (hanc 6 (by decide +kernel)).1
      have dd9 : d 9 = true := (hanc 9 (by decide +kernel)).1
      obtain ⟨hA, hB, hAB, hC, h20, h21⟩ := hG
      have o0 := hB dd6
      simp only [rmB, e12, dd6, dd9, if_true, if_false, Bool.false_eq_true] at o0
      obtain ⟨v1, w1, hrun, ho, hg, hbk⟩ := run_app w' (ty := 22) ty_strs o0 (c := vc') (((HRD.out.2.2.2.2.1.below hb0).below' hb).cells) (by intro u hu; obtain ⟨y, _, rfl⟩ := List.mem_map.1 hu; rfl) (by first | omega | (simp; omega)) (by unfold maxLen; first | omega | (simp; omega)) hb.size
      have hbw : Below w2.heap.size w2 w1 := hb.grown hg hb.size (fun k hk => (own_base o0 k hk).1)
      refine rstep_run (v := v1) (w' := w1) rfl rfl rfl rfl (exec_app rfl t34 t36 hrun) ⟨?_, ?_, ?_, ?_, ?_, ?_⟩ hbw
      · intro h; have := (hA (by simpa [updB] using h)).kept hg (.inr (by have := hAB (by simpa [updB] using h) dd6; simp only [rmB, e12, dd6, dd9, if_true, if_false, Bool.false_eq_true] at this; exact this)); simpa [rmA, rmB, rmC, updB, updV] using this
      · intro _; simpa [rmA, rmB, rmC, updB, updV, e12, dd6, dd9] using ho
      · intro h2 h6; have h2' : d 2 = true := by simpa [updB] using h2
        have hne := hAB h2' dd6
        simp only [rmB, e12, dd6, dd9, if_true, if_false, Bool.false_eq_true] at hne
        have : v1.ownBlock ≠ (rmA d x ka).1.ownBlock := ob_ne hbk (fun e => hne e.symm) (fun k hk => (own_base (hA h2') k hk).2)
        simpa [rmA, rmB, updB, updV, e12, dd6, dd9] using fun e => this (Eq.symm e)
      · intro h; have := own_keep_type (hC (by simpa [updB] using h)) o0 hg (by decide); simpa [rmA, rmB, rmC, updB, updV] using this
      · intro h; simp [updB, hdesc 20 (by decide) (by decide +kernel)] at h
      · intro h; obtain ⟨g, h1, h2, h3⟩ := h21 (by simpa [updB] using h); exact ⟨g, by simpa [updV] using h1, h2, h3.grownO o0 hg (by decide)⟩
    | 13, _ =>
      have e16 : d 16 = false := hdesc 16 (by decide) (by decide +kernel)
      have e19 : d 19 = false := hdesc 19 (by decide) (by decide +kernel)
      obtain ⟨hA, hB, hAB, hC, h20, h21⟩ := hG
      have hBs : w2.heap.size ≤ w'.heap.size := hb.size
      have eN := own_empty w' w2.heap.size 3 1 hBs
      refine rstep_run (v := .slice (some ⟨w'.heap.size, 0, none⟩) 0 0) (w' := w'.alloc (.cells #[] 3)) rfl rfl rfl rfl (by simp [go_sem]) ⟨?_, ?_, ?_, ?_, ?_, ?_⟩ (hb.alloc hb.size _)
      · intro h; have := (hA (by simpa [updB] using h)).alloc (.cells #[] 3); simpa [rmA, rmB, rmC, updB, updV] using this
      · intro h; have := (hB (by simpa [updB] using h)).alloc (.cells #[] 3); simpa [rmA, rmB, rmC, updB, updV] using this
      · intro h2 h6; simpa [rmA, rmB, updB, updV] using hAB (by simpa [updB] using h2) (by simpa [updB] using h6)
      · intro _; simpa [rmA, rmB, rmC, updB, updV, e16, e19] using eN
      · intro h; simp [updB, hdesc 20 (by decide) (by decide +kernel)] at h
      · intro h; obtain ⟨g, h1, h2, h3⟩ := h21 (by simpa [updB] using h); exact ⟨g, by simpa [updV] using h1, h2, h3.below (below_box _ _)⟩
    | 14, _ =>
      exact rstep_det rfl rfl rfl rfl (by simp [go_sem, b3, e3]) (by simpa [rmG, rmA, rmB, rmC, updB, updV] using hG) hb
    | 15, _ =>
      have t39 : a.tmps.getD 39 undef = .pointer (some ⟨w.heap.size, 3, none⟩) := (show a.tmps.getD 39 undef = x 14 from (hanc 14 (by decide +kernel)).2.1).trans ((hanc 14 (by decide +kernel)).2.2 _ rfl)
      have u39 := (Array.getD_eq_getD_getElem? (xs := a.tmps) (i := 39) (d := undef)).symm.trans t39
      exact rstep_det rfl rfl rfl rfl (by simp [go_sem, t39, u39, c3]) (by simpa [rmG, rmA, rmB, rmC, updB, updV] using hG) hb
    | 16, _ =>
      have t38 : a.tmps.getD 38 undef = x 13 := (hanc 13 (by decide +kernel)).2.1
      have d13 : d 13 = true := (hanc 13 (by decide +kernel)).1
      have u38 := (Array.getD_eq_getD_getElem? (xs := a.tmps) (i := 38) (d := undef)).symm.trans t38
      have t40 : a.tmps.getD 40 undef = .slice C ca.length cc := (show a.tmps.getD 40 undef = x 15 from (hanc 15 (by decide +kernel)).2.1).trans ((hanc 15 (by decide +kernel)).2.2 _ rfl)
      have u40 := (Array.getD_eq_getD_getElem? (xs := a.tmps) (i := 40) (d := undef)).symm.trans t40
      have e16 : d 16 = false := hdi
      have e19 : d 19 = false := hdesc 19 (by decide) (by decide +kernel)
      have dd13 : d 13 = true := (hanc 13 (by decide +kernel)).1
      obtain ⟨hA, hB, hAB, hC, h20, h21⟩ := hG
      have o0 := hC dd13
      simp only [rmC, e16, e19, dd13, if_true, if_false, Bool.false_eq_true] at o0
      obtain ⟨v1, w1, hrun, ho, hg, hbk⟩ := run_app w' (ty := 23) ty_ints o0 (c := cc) (((HRD.out.2.2.1.below hb0).below' hb).cells) (by intro u hu; obtain ⟨y, _, rfl⟩ := List.mem_map.1 hu; rfl) (by first | omega | (simp; omega)) (by unfold maxLen; first | omega | (simp; omega)) hb.size
      have hbw : Below w2.heap.size w2 w1 := hb.grown hg hb.size (fun k hk => (own_base o0 k hk).1)
      refine rstep_run (v := v1) (w' := w1) rfl rfl rfl rfl (exec_app rfl t38 t40 hrun) ⟨?_, ?_, ?_, ?_, ?_, ?_⟩ hbw
      · intro h; have := own_keep_type (hA (by simpa [updB] using h)) o0 hg (by decide); simpa [rmA, rmB, rmC, updB, updV] using this
      · intro h; have := own_keep_type (hB (by simpa [updB] using h)) o0 hg (by decide); simpa [rmA, rmB, rmC, updB, updV] using this
      · intro h2 h6; simpa [rmA, rmB, updB, updV] using hAB (by simpa [updB] using h2) (by simpa [updB] using h6)
      · intro _; simpa [rmA, rmB, rmC, updB, updV, e16, e19, dd13] using ho
      · intro h; simp [updB, hdesc 20 (by decide) (by decide +kernel)] at h
      · intro h; obtain ⟨g, h1, h2, h3⟩ := h21 (by simpa [updB] using h); exact ⟨g, by simpa [updV] using h1, h2, h3.grownO o0 hg (by decide)⟩
    | 17, _ =>
      exact rstep_det rfl rfl rfl rfl (by simp [go_sem, b5, e5]) (by simpa [rmG, rmA, rmB, rmC, updB, updV] using hG) hb
    | 18, _ =>
      have t42 : a.tmps.getD 42 undef = .pointer (some ⟨w.heap.size + 1, 3, none⟩) := (show a.tmps.getD 42 undef = x 17 from (hanc 17 (by decide +kernel)).2.1).trans ((hanc 17 (by decide +kernel)).2.2 _ rfl)
      have u42 := (Array.getD_eq_getD_getElem? (xs := a.tmps) (i := 42) (d := undef)).symm.trans t42
      exact rstep_det rfl rfl rfl rfl (by simp [go_sem, t42, u42, d3]) (by simpa [rmG, rmA, rmB, rmC, updB, updV] using hG) hb
    | 19, _ =>
      have t41 : a.tmps.getD 41 undef = x 16 := (hanc 16 (by decide +kernel)).2.1
      have d16 : d 16 = true := (hanc 16 (by decide +kernel)).1
      have u41 := (Array.getD_eq_getD_getElem? (xs := a.tmps) (i := 41) (d := undef)).symm.trans t41
      have t43 : a.tmps.getD 43 undef = .slice C' cb.length cc' := (show a.tmps.getD 43 undef = x 18 from (hanc 18 (by decide +kernel)).2.1).trans ((hanc 18 (by decide +kernel)).2.2 _ rfl)
      have u43 := (Array.getD_eq_getD_getElem? (xs := a.tmps) (i := 43) (d := undef)).symm.trans t43
      have e19 : d 19 = false := hdi
      have dd13 : d 13 = true := (hanc 13 (by decide +kernel)).1
      have dd16 : d 16 = true := (hanc 16 (by decide +kernel)).1
      obtain ⟨hA, hB, hAB, hC, h20, h21⟩ := hG
      have o0 := hC dd13
      simp only [rmC, e19, dd13, dd16, if_true, if_false, Bool.false_eq_true] at o0
      obtain ⟨v1, w1, hrun, ho, hg, hbk⟩ := run_app w' (ty := 23) ty_ints o0 (c := cc') (((HRD.out.2.2.2.2.2.below hb0).below' hb).cells) (by intro u hu; obtain ⟨y, _, rfl⟩ := List.mem_map.1 hu; rfl) (by first | omega | (simp; omega)) (by unfold maxLen; first | omega | (simp; omega)) hb.size
      have hbw : Below w2.heap.size w2 w1 := hb.grown hg hb.size (fun k hk => (own_base o0 k hk).1)
      refine rstep_run (v := v1) (w' := w1) rfl rfl rfl rfl (exec_app rfl t41 t43 hrun) ⟨?_, ?_, ?_, ?_, ?_, ?_⟩ hbw
      · intro h; have := own_keep_type (hA (by simpa [updB] using h)) o0 hg (by decide); simpa [rmA, rmB, rmC, updB, updV] using this
      · intro h; have := own_keep_type (hB (by simpa [updB] using h)) o0 hg (by decide); simpa [rmA, rmB, rmC, updB, updV] using this
      · intro h2 h6; simpa [rmA, rmB, updB, updV] using hAB (by simpa [updB] using h2) (by simpa [updB] using h6)
      · intro _; simpa [rmA, rmB, rmC, updB, updV, e19, dd13, dd16] using ho
      · intro h; simp [updB, hdesc 20 (by decide) (by decide +kernel)] at h
      · intro h; obtain ⟨g, h1, h2, h3⟩ := h21 (by simpa [updB] using h); exact ⟨g, by simpa [updV] using h1, h2, h3.grownO o0 hg (by decide)⟩
    | 20, _ =>
      have t26 : a.tmps.getD 26 undef = .bool false := (show a.tmps.getD 26 undef = x 1 from (hanc 1 (by decide +kernel)).2.1).trans ((hanc 1 (by decide +kernel)).2.2 _ rfl)
      have u26 := (Array.getD_eq_getD_getElem? (xs := a.tmps) (i := 26) (d := undef)).symm.trans t26
      have t30 : a.tmps.getD 30 undef = x 5 := (hanc 5 (by decide +kernel)).2.1
      have d5 : d 5 = true := (hanc 5 (by decide +kernel)).1
      have u30 := (Array.getD_eq_getD_getElem? (xs := a.tmps) (i := 30) (d := undef)).symm.trans t30
      have t37 : a.tmps.getD 37 undef = x 12 := (hanc 12 (by decide +kernel)).2.1
      have d12 : d 12 = true := (hanc 12 (by decide +kernel)).1
      have u37 := (Array.getD_eq_getD_getElem? (xs := a.tmps) (i := 37) (d := undef)).symm.trans t37
      have t44 : a.tmps.getD 44 undef = x 19 := (hanc 19 (by decide +kernel)).2.1
      have d19 : d 19 = true := (hanc 19 (by decide +kernel)).1
      have u44 := (Array.getD_eq_getD_getElem? (xs := a.tmps) (i := 44) (d := undef)).symm.trans t44
      obtain ⟨hA, hB, hAB, hC, h20, h21⟩ := hG
      have dd2 : d 2 = true := (hanc 2 (by decide +kernel)).1
      have dd6 : d 6 = true := (hanc 6 (by decide +kernel)).1
      have dd13 : d 13 = true := (hanc 13 (by decide +kernel)).1
      have o5 := hA dd2
      have o12 := hB dd6
      have o19 := hC dd13
      simp only [rmA, rmB, rmC, d5, d12, d19, if_true] at o5 o12 o19
      obtain ⟨A5, c5, e5, _⟩ := own_form o5
      obtain ⟨A9, c9, e9, _⟩ := own_form o12
      obtain ⟨A13, c13, e13, _⟩ := own_form o19
      exact rstep_run (v := .agg #[.bool false, x 5, x 12, x 19]) (w' := w') rfl rfl rfl rfl (by simp [go_sem, t26, u26, t30, u30, t37, u37, t44, u44, e5, e9, e13]) ⟨by simpa [rmA, updB, updV] using hA, by simpa [rmB, updB, updV] using hB, by simpa [rmA, rmB, updB, updV] using hAB, by simpa [rmC, updB, updV] using hC, fun _ => by simp [updV], by simpa [updB, updV] using h21⟩ hb
    | 21, _ =>
      obtain ⟨hA, hB, hAB, hC, h20, h21⟩ := hG
      exact rstep_run (v := .pointer (some ⟨w'.heap.size, 0, none⟩)) (w' := w'.alloc (.cells #[.bool false, .slice none 0 0, .slice none 0 0, .slice none 0 0] 25)) rfl rfl rfl rfl (by simp [go_sem])
        ⟨fun h => by simpa [rmA, updB, updV] using (hA (by simpa [updB] using h)).alloc _, fun h => by simpa [rmB, updB, updV] using (hB (by simpa [updB] using h)).alloc _, by simpa [rmA, rmB, updB, updV] using hAB, fun h => by simpa [rmC, updB, updV] using (hC (by simpa [updB] using h)).alloc _, by simpa [updB, updV] using h20, fun _ => ⟨w'.heap.size, by simp [updV], hb.size, blk4_new _ _ _ _ _ _⟩⟩ (hb.alloc hb.size _)
    | (m + 22), h => exact absurd h (by omega)
  · intro d x w' hb hall hG
    obtain ⟨hA, hB, hAB, hC, h20, h21⟩ := hG
    have o5 := hA (hall 2 (by omega)).1
    have o12 := hB (hall 6 (by omega)).1
    have hne := hAB (hall 2 (by omega)).1 (hall 6 (by omega)).1
    have o19 := hC (hall 13 (by omega)).1
    simp only [rmA, rmB, rmC, (hall 5 (by omega)).1, (hall 12 (by omega)).1, (hall 19 (by omega)).1, if_true] at o5 o12 o19 hne
    have e20 := h20 (hall 20 (by omega)).1
    obtain ⟨g, e21, hg1, hg2⟩ := h21 (hall 21 (by omega)).1
    simp only [rfill, rdst, List.getElem?_toArray, List.getElem?_cons_zero, List.getElem?_cons_succ, Option.bind_some, Act.put, List.setIfInBounds_toArray, List.set_cons_zero, List.set_cons_succ, List.drop_succ_cons, List.drop_zero]
    rw [e20, e21]
    clear e20 e21 hall hA hB hAB hC h20 h21
    have b3 := Lib.hid ((B3.out.below HB2.out).below hb)
    have k2 := Lib.hid (k2 _ hb)
    have k1 := Lib.hid (k1 _ hb)
    have HB := Lib.hid (hb0.trans (hb.mono (hb0.size)))
    have hg0 : w.heap.size < g := by omega
    have hg1' : w.heap.size + 1 < g := by omega
    have hg2' : w.heap.size + 1 + 1 < g := by omega
    have hbs := hb.size
    clear hb
    obtain ⟨Vs, hVs⟩ : ∃ Vs, Vs = va ++ vb := ⟨_, rfl⟩
    obtain ⟨Cs, hCs⟩ : ∃ Cs, Cs = ca ++ cb := ⟨_, rfl⟩
    have lvs : Vs.length ≤ 600 := by rw [hVs]; simp; omega
    have lcs : Cs.length ≤ 600 := by rw [hCs]; simp; omega
    rw [← hVs] at o12
    rw [← hCs] at o19
    have ev := Lib.hid hVs; clear hVs
    have ec := Lib.hid hCs; clear hCs
    obtain ⟨A5, c5, e5, _⟩ := own_form o5
    obtain ⟨A9, c9, e9, m9, n9⟩ := own_form o12
    obtain ⟨A13, c13, e13, m13, n13⟩ := own_form o19
    rw [e5] at o5 hne
    rw [e9] at o12 hne
    rw [e13] at o19
    rw [e5, e9, e13]
    obtain ⟨⟨j0, j1, j2, j3⟩, f0, f1, f2, f3⟩ := hg2.cells
    have HO := Lib.hid (And.intro o5 (And.intro o12 (And.intro o19 (And.intro hne hg2))))
    have HL := Lib.hid (And.intro m9 (And.intro n9 (And.intro m13 n13)))
    clear e5 e9 e13 o5 o12 o19 hne hg2 m9 n9 m13 n13
    -- the block is stored
    have HS : Hid (RSt w w2.heap.size g false (.slice K ka.length kc) (.slice V va.length vc) (.slice C ca.length cc) (.slice K' kb.length kc') (.slice V' vb.length vc') (.slice C' cb.length cc') (.slice A5 ka.length c5) (.slice A9 Vs.length c9) (.slice A13 Cs.length c13) ka Vs Cs ((((w'.setCell ⟨g, 0, none⟩ (.bool false)).setCell ⟨g, 1, none⟩ (.slice A5 ka.length c5)).setCell ⟨g, 2, none⟩ (.slice A9 Vs.length c9)).setCell ⟨g, 3, none⟩ (.slice A13 Cs.length c13))) := by
      have hgr : w'.grownBy ((((w'.setCell ⟨g, 0, none⟩ (.bool false)).setCell ⟨g, 1, none⟩ (.slice A5 ka.length c5)).setCell ⟨g, 2, none⟩ (.slice A9 Vs.length c9)).setCell ⟨g, 3, none⟩ (.slice A13 Cs.length c13)) (some g) := grown_off (by simp [World.setCell]) rfl rfl rfl (set4_other w' g _ _ _ _)
      exact ⟨own_off_blk HO.out.1 HO.out.2.2.2.2 (by decide) hgr, own_off_blk HO.out.2.1 HO.out.2.2.2.2 (by decide) hgr, own_off_blk HO.out.2.2.1 HO.out.2.2.2.2 (by decide) hgr, HO.out.2.2.2.1, HO.out.2.2.2.2.set4 _ _ _ _, b3.out.off (by omega) (set4_other w' g _ _ _ _), k1.out.off (by omega) (set4_other w' g _ _ _ _), k2.out.off (by omega) (set4_other w' g _ _ _ _),
        (((HB.out.setCell (by first | omega | (simp; done) | (simp; omega)) _).setCell (by first | omega | (simp; done) | (simp; omega)) _).setCell (by first | omega | (simp; done) | (simp; omega)) _).setCell (by first | omega | (simp; done) | (simp; omega)) _, by simp [World.setCell]; omega⟩
    have HOC := Lib.hid (fun u (hu : u ∈ kb.map Value.string) => (show u.oneCell' = true by obtain ⟨x, _, rfl⟩ := List.mem_map.1 hu; rfl))
    have HOK := Lib.hid (fun u (hu : u ∈ [key].map Value.string) => (show u.oneCell' = true by obtain ⟨x, _, rfl⟩ := List.mem_map.1 hu; rfl))
    obtain ⟨⟨u0, u1, u2, u3⟩, _⟩ := k1.out.cells
    obtain ⟨⟨s0, s1, s2, s3⟩, _⟩ := k2.out.cells
    clear HO b3 k1 k2 HB
    go_wp2_with (first | (have := HS1.out; clear this; at_builtin; refine wpList_app _ rfl (.tmp 56) (.tmp 58) ty_strs rfl _ _ _ rfl HS1.out.a K' kb.length kc' (kb.map Value.string) rfl ((HRD.out.2.2.2.1.below HS1.out.below).cells) HOC.out (by first | omega | (simp; omega)) (by unfold maxLen; first | omega | (simp; omega)) HS1.out.base ?_; intro v2 w6 h1 h2 h3; obtain ⟨A7, c7, rfl, m7, n7⟩ := own_form h1; obtain ⟨⟨r0, r1, r2, r3⟩, g0, g1, g2, g3⟩ := (HS1.out.blk.grownO HS1.out.a h2 (by decide)).cells; have HT := Lib.hid (HS1.out.app (by omega) (by omega) h1 (by simp; try omega) h2 h3); clear h1 h2 h3) | (at_builtin; refine wpList_app _ rfl (.tmp 50) (.tmp 52) ty_strs rfl _ _ _ rfl (HS.out.alloc _).a _ 1 1 ([key].map Value.string) rfl (rdC_new' _ _ (by simp [World.setCell]) 1 9 1 [.string key] rfl) HOK.out (by first | omega | (simp; omega)) (by unfold maxLen; first | omega | (simp; omega)) (HS.out.alloc _).base ?_; intro v1 w5 h1 h2 h3; obtain ⟨A6, c6, rfl, m6, n6⟩ := own_form h1; obtain ⟨⟨r0, r1, r2, r3⟩, g0, g1, g2, g3⟩ := ((HS.out.alloc _).blk.grownO (HS.out.alloc _).a h2 (by decide)).cells; have HS1 := Lib.hid ((HS.out.alloc _).app (by omega) (by omega) h1 (by simp; try omega) h2 h3); obtain ⟨⟨s0, s1, s2, s3⟩, _⟩ := ((HS.out.alloc _).bx2.grownO (HS.out.alloc _).a h2 (by decide)).cells; clear h1 h2 h3))
    try rw [show (ka ++ [key]).length = ka.length + 1 from by simp] at HT
    try rw [show (ka ++ [key]).length = ka.length + 1 from by simp] at m7
    have z1 : w.heap.size < (w6.setCell ⟨g, 1, none⟩ (.slice A7 (ka.length + 1 + kb.length) c7)).heap.size := by have := HT.out.below.size; have := HT.out.base; omega
    have z2 : w.heap.size + 1 < (w6.setCell ⟨g, 1, none⟩ (.slice A7 (ka.length + 1 + kb.length) c7)).heap.size := by have := HT.out.base; omega
    have z3 : w.heap.size + 1 + 1 < (w6.setCell ⟨g, 1, none⟩ (.slice A7 (ka.length + 1 + kb.length) c7)).heap.size := by have := HT.out.base; omega
    obtain ⟨W, hW⟩ : ∃ W, W = w6.setCell ⟨g, 1, none⟩ (.slice A7 (ka.length + 1 + kb.length) c7) := ⟨_, rfl⟩
    rw [← hW] at HT z1 z2 z3 ⊢
    clear hW r0 r1 r2 r3 g0 g1 g2 g3 u0 u1 u2 u3 s0 s1 s2 s3 j0 j1 j2 j3 f0 f1 f2 f3
    obtain ⟨Ks, hKs⟩ : ∃ Ks, Ks = ka ++ [key] ++ kb := ⟨_, rfl⟩
    have lks : Ks.length ≤ 700 := by rw [hKs]; simp; omega
    have hl : (ka.length + 1 + kb.length) = Ks.length := by rw [hKs]; simp; try omega
    have ek : Hid (Ks = mergeK false ka key kb) := by rw [hKs]; exact Lib.hid (by simp [mergeK])
    rw [← hKs] at HT
    rw [hl] at HT m7 ⊢
    clear hKs hl
    have P5 : Rd Value.string W A7 Ks := own_rd HT.out.a
    have P9 : Rd Value.string W A9 Vs := own_rd HT.out.b
    have P13 : Rd (Value.int .i64) W A13 Cs := own_rd HT.out.c
    have HP := Lib.hid (And.intro P5 (And.intro P9 (And.intro P13 (And.intro HT.out.blk (And.intro HT.out.res HT.out.below)))))
    have HM5 := Lib.hid (And.intro m7 n7)
    clear P5 P9 P13 m7 n7 HT HS HOC HOK HS1
    refine (rcan_any _ A7 A9 A13 Ks Vs Cs c7 c9 c13 _ HP.out.1 HP.out.2.1 HP.out.2.2.1 (by omega) (by omega) (by omega)).mono ?_
    rintro e w3 ⟨rfl, hb3⟩
    have HB3 := Lib.hid hb3; clear hb3
    cases hO : canB false Ks Vs Cs with
    | false =>
      have hr := HRES.out
      rw [← ek.out, ← ev.out, ← ec.out, if_neg (by rw [hO]; simp)] at hr
      obtain ⟨rfl, rfl, rfl, rfl⟩ := hr
      clear hO
      obtain ⟨⟨c0, c1, c2, c3⟩, f0, f1, f2, f3⟩ := (HP.out.2.2.2.2.1.below HB3.out).cells
      go_wp2_with fail
      refine bodyPost_ret (v := .tuple #[.agg #[.bool false, .slice none 0 0, .slice none 0 0, .slice none 0 0], .bool false]) (by simp [results, Try.results20, go_sem, c0, c1, c2, c3]) rfl ⟨_, rfl, blkV_zero _, ?_⟩
      have := below_then HP.out.2.2.2.2.2 (Nat.le_refl _) HB3.out
      exact (((this.setCell (by first | omega | (simp; done) | (simp; omega)) _).setCell (by first | omega | (simp; done) | (simp; omega)) _).setCell (by first | omega | (simp; done) | (simp; omega)) _).setCell (by first | omega | (simp; done) | (simp; omega)) _
    | true =>
      obtain ⟨z1, z2, z3⟩ := canB_sizes hO
      obtain ⟨⟨c0, c1, c2, c3⟩, _⟩ := (HP.out.2.2.2.1.below HB3.out).cells
      have hO' := Lib.hid hO; clear hO
      have HZ := Lib.hid (And.intro z1 (And.intro z2 z3)); clear z1 z2 z3
      go_wp2_with fail
      refine (rneed_any false A7 A9 A13 Ks Vs Cs c7 c9 c13 Ks.length _ (HP.out.1.below HB3.out) (HP.out.2.1.below HB3.out) (Nat.le_refl _) (by omega) (by omega) HZ.out.1 HZ.out.2.1).mono ?_
      rintro e w4 ⟨rfl, hb4⟩
      have HB4 := Lib.hid (below_then HB3.out (Nat.le_refl _) hb4); clear hb4 HB3 c0 c1 c2 c3
      obtain ⟨N, hN⟩ : ∃ N, N = needB false Ks Vs Ks.length := ⟨_, rfl⟩
      rw [← hN]
      have HN := Lib.hid hN; clear hN
      by_cases hbig : 509 < N
      · have hr := HRES.out
        rw [← ek.out, ← ev.out, ← ec.out, if_neg (fun h => by have := h.2; rw [← HN.out] at this; omega)] at hr
        obtain ⟨rfl, rfl, rfl, rfl⟩ := hr
        obtain ⟨⟨c0, c1, c2, c3⟩, f0, f1, f2, f3⟩ := (HP.out.2.2.2.2.1.below HB4.out).cells
        go_wp2_with fail
        refine bodyPost_ret (v := .tuple #[.agg #[.bool false, .slice none 0 0, .slice none 0 0, .slice none 0 0], .bool false]) (by simp [results, Try.results20, go_sem, c0, c1, c2, c3]) rfl ⟨_, rfl, blkV_zero _, ?_⟩
        have := below_then HP.out.2.2.2.2.2 (Nat.le_refl _) HB4.out
        exact (((this.setCell (by first | omega | (simp; done) | (simp; omega)) _).setCell (by first | omega | (simp; done) | (simp; omega)) _).setCell (by first | omega | (simp; done) | (simp; omega)) _).setCell (by first | omega | (simp; done) | (simp; omega)) _
      · have hr := HRES.out
        rw [← ek.out, ← ev.out, ← ec.out, if_pos ⟨hO'.out, by rw [← HN.out]; omega⟩] at hr
        obtain ⟨rfl, rfl, rfl, rfl⟩ := hr
        obtain ⟨⟨c0, c1, c2, c3⟩, f0, f1, f2, f3⟩ := (HP.out.2.2.2.2.1.below HB4.out).cells
        obtain ⟨⟨d0, d1, d2, d3⟩, _⟩ := (HP.out.2.2.2.1.below HB4.out).cells
        go_wp2_with fail
        have hno := (HP.out.2.2.2.2.1.below HB4.out).zero_no
        have hot := set4_other w4 (w.heap.size + 1 + 1) (.bool false) (.slice A7 ks.length c7) (.slice A9 vs.length c9) (.slice A13 cs.length c13)
        refine bodyPost_ret (v := .tuple #[.agg #[.bool false, .slice A7 ks.length c7, .slice A9 vs.length c9, .slice A13 cs.length c13], .bool true]) (by simp [results, Try.results20, go_sem, c0, c1, c2, c3]) rfl
          ⟨_, rfl, ⟨_, _, _, rfl, ⟨A7, c7, rfl, HM5.out.1, HM5.out.2, (HP.out.1.below HB4.out).off _ hno.1 hot⟩, ⟨A9, c9, rfl, HL.out.1, HL.out.2.1, (HP.out.2.1.below HB4.out).off _ hno.1 hot⟩, ⟨A13, c13, rfl, HL.out.2.2.1, HL.out.2.2.2, (HP.out.2.2.1.below HB4.out).off _ hno.2 hot⟩⟩, ?_⟩
        have := below_then HP.out.2.2.2.2.2 (Nat.le_refl _) HB4.out
        exact (((this.setCell (by first | omega | (simp; done) | (simp; omega)) _).setCell (by first | omega | (simp; done) | (simp; omega)) _).setCell (by first | omega | (simp; done) | (simp; omega)) _).setCell (by first | omega | (simp; done) | (simp; omega)) _
end Go.Proofs.Ytfngadidlmbfdaa
