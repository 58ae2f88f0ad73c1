/-
  Contract of the reference's Own: a block in memory of its own.
-/
import Derived.Test.YtfngadidlmbfdaaRegU
import Derived.Test.YtfngadidlmbfdaaNode1
namespace Go.Proofs.Ytfngadidlmbfdaa
open Go.RowKit

/-- A block that reads as such. -/
def BlkV (w : World) (lf : Bool) (ks vs : List ByteArray) (cs : List Int) (v : Value) : Prop :=
  ∃ K V C, v = .agg #[.bool lf, K, V, C] ∧ RdV Value.string w K ks ∧ RdV Value.string w V vs ∧ RdV (Value.int .i64) w C cs
def RetBlk (w : World) (lf : Bool) (ks vs : List ByteArray) (cs : List Int) (e : Ending) (w' : World) : Prop := ∃ v, e = .returned v ∧ BlkV w' lf ks vs cs v ∧ Below w.heap.size w w'

theorem box_cells2 {w w1 : World} {c0 c1 c2 c3 : Value} {t : Nat} {o : Obj} {B : Nat} (hb : Below B ((w.alloc (.cells #[c0, c1, c2, c3] t)).alloc o) w1) (hB : w.heap.size < B := by simp; omega) :
    w1.cell? ⟨w.heap.size, 0, none⟩ = some c0 ∧ w1.cell? ⟨w.heap.size, 1, none⟩ = some c1 ∧ w1.cell? ⟨w.heap.size, 2, none⟩ = some c2 ∧ w1.cell? ⟨w.heap.size, 3, none⟩ = some c3 := by
  have h : ∀ i, w1.cell? ⟨w.heap.size, i, none⟩ = (#[c0, c1, c2, c3] : Array Value)[i]? := fun i => by
    rw [hb.cell (p := ⟨w.heap.size, i, none⟩) hB, World.cell?_alloc_lt _ _ _ (by simp), cell_of_row _ w.heap.size i _ t (0, 0) (heap_alloc_new w _)]
  exact ⟨h 0, h 1, h 2, h 3⟩

def ownG (lf : Bool) (ks vs : List ByteArray) (cs : List Int) (d : Nat → Bool) (x : Nat → Value) (w : World) : Prop :=
  (d 2 = true → Emp (x 2)) ∧ (d 5 = true → RdV Value.string w (x 5) ks) ∧ (d 6 = true → Emp (x 6)) ∧ (d 9 = true → RdV Value.string w (x 9) vs) ∧ (d 10 = true → Emp (x 10)) ∧ (d 13 = true → RdV (Value.int .i64) w (x 13) cs) ∧ (d 14 = true → x 14 = .agg #[.bool lf, x 5, x 9, x 13])

theorem ownG.below {lf : Bool} {ks vs : List ByteArray} {cs : List Int} {d : Nat → Bool} {x : Nat → Value} {w w' : World} (h : ownG lf ks vs cs d x w) (hb : Below w.heap.size w w') : ownG lf ks vs cs d x w' :=
  ⟨h.1, fun h' => (h.2.1 h').below hb, h.2.2.1, fun h' => (h.2.2.2.1 h').below hb, h.2.2.2.2.1, fun h' => (h.2.2.2.2.2.1 h').below hb, h.2.2.2.2.2.2⟩
/-- A block of four cells, none frozen. -/
def Blk4 (w : World) (g t : Nat) (c0 c1 c2 c3 : Value) : Prop := w.heap[g]? = some (.cells #[c0, c1, c2, c3] t (0, 0))
theorem Blk4.cells {w : World} {g t : Nat} {c0 c1 c2 c3 : Value} (h : Blk4 w g t c0 c1 c2 c3) :
    (w.cell? ⟨g, 0, none⟩ = some c0 ∧ w.cell? ⟨g, 1, none⟩ = some c1 ∧ w.cell? ⟨g, 2, none⟩ = some c2 ∧ w.cell? ⟨g, 3, none⟩ = some c3) ∧
    (w.frozen? ⟨g, 0, none⟩ = false ∧ w.frozen? ⟨g, 1, none⟩ = false ∧ w.frozen? ⟨g, 2, none⟩ = false ∧ w.frozen? ⟨g, 3, none⟩ = false) := by
  have hc : ∀ i, w.cell? ⟨g, i, none⟩ = (#[c0, c1, c2, c3] : Array Value)[i]? := fun i => cell_of_row w g i _ t (0, 0) h
  have hf : ∀ i, w.frozen? ⟨g, i, none⟩ = false := fun i => by unfold Blk4 at h; simp [World.frozen?, h]
  exact ⟨⟨hc 0, hc 1, hc 2, hc 3⟩, hf 0, hf 1, hf 2, hf 3⟩
theorem Blk4.set4 {w : World} {g t : Nat} {c0 c1 c2 c3 : Value} (h : Blk4 w g t c0 c1 c2 c3) (v0 v1 v2 v3 : Value) :
    Blk4 ((((w.setCell ⟨g, 0, none⟩ v0).setCell ⟨g, 1, none⟩ v1).setCell ⟨g, 2, none⟩ v2).setCell ⟨g, 3, none⟩ v3) g t v0 v1 v2 v3 := by
  unfold Blk4 at h ⊢
  simp [World.setCell, Array.getElem?_modify, h]
theorem Blk4.off {w w' : World} {g g' t : Nat} {c0 c1 c2 c3 : Value} (h : Blk4 w g t c0 c1 c2 c3) (hne : g ≠ g') (hk : ∀ k, k ≠ g' → w'.heap[k]? = w.heap[k]?) : Blk4 w' g t c0 c1 c2 c3 := (hk g hne).trans h
theorem set4_other (w : World) (g : Nat) (v0 v1 v2 v3 : Value) : ∀ k, k ≠ g → ((((w.setCell ⟨g, 0, none⟩ v0).setCell ⟨g, 1, none⟩ v1).setCell ⟨g, 2, none⟩ v2).setCell ⟨g, 3, none⟩ v3).heap[k]? = w.heap[k]? :=
  fun k hk => by rw [set_other _ _ _ _ hk, set_other _ _ _ _ hk, set_other _ _ _ _ hk, set_other _ _ _ _ hk]
/-- No text, no number stands in a zero block. -/
theorem Blk4.zero_no {w : World} {g t : Nat} (h : Blk4 w g t (.bool false) (.slice none 0 0) (.slice none 0 0) (.slice none 0 0)) : (∀ i x, w.cell? ⟨g, i, none⟩ ≠ some (Value.string x)) ∧ ∀ i y, w.cell? ⟨g, i, none⟩ ≠ some (Value.int .i64 y) := by
  have hoff : ∀ i x, w.cell? ⟨g, i, none⟩ ≠ some (Value.string x) ∧ ∀ y, w.cell? ⟨g, i, none⟩ ≠ some (Value.int .i64 y) := by
    intro i x
    rw [cell_of_row w g i _ t (0, 0) h]
    match i with
    | 0 => exact ⟨by simp, by simp⟩
    | 1 => exact ⟨by simp, by simp⟩
    | 2 => exact ⟨by simp, by simp⟩
    | 3 => exact ⟨by simp, by simp⟩
    | (i + 4) => exact ⟨by simp, by simp⟩
  exact ⟨fun i x => (hoff i x).1, fun i => (hoff i ByteArray.empty).2⟩
theorem below_box2 (w : World) (o o' : Obj) : Below w.heap.size w ((w.alloc o).alloc o') := (below_box w o).alloc (by simp) o'
set_option linter.unusedSimpArgs false
set_option maxRecDepth 100000 in
set_option maxHeartbeats 1000000 in
theorem rown_any (lf : Bool) (K V C : Option Addr) (ks vs : List ByteArray) (cs : List Int) (kc vc cc : Nat) (w : World)
    (hk : Rd Value.string w K ks) (hv : Rd Value.string w V vs) (hc : Rd (Value.int .i64) w C cs) (lk : ks.length ≤ 100000) (lv : vs.length ≤ 100000) (lc : cs.length ≤ 100000) :
    Calls Try.prog 19 #[.agg #[.bool lf, .slice K ks.length kc, .slice V vs.length vc, .slice C cs.length cc]] w (RetBlk w lf ks vs cs) := by
  have HK := Lib.hid hk; clear hk
  have HV := Lib.hid hv; clear hv
  have HC := Lib.hid hc; clear hc
  go_enter Try.func19, Try.ntmps19
  go_wp2_with fail
  refine region_front (by kernel_rfl) (fun | 0 => some (.pointer (some ⟨w.heap.size, 0, none⟩)) | 1 => some (.bool lf) | 3 => some (.pointer (some ⟨w.heap.size, 1, none⟩)) | 4 => some (.slice K ks.length kc) | 7 => some (.pointer (some ⟨w.heap.size, 2, none⟩)) | 8 => some (.slice V vs.length vc) | 11 => some (.pointer (some ⟨w.heap.size, 3, none⟩)) | 12 => some (.slice C cs.length cc) | _ => none) (ownG lf ks vs cs) 15 18 (by decide) rfl (by kernel_rfl) (by kernel_rfl) (by kernel_rfl) (by kernel_rfl) ?_ ?_ ?_
  · intro w' _
    simp [ownG]
  · intro i hi d x a w' hb hsame hanc hdi hdesc hG
    obtain ⟨c0, c1, c2, c3⟩ := box_cells2 hb
    have b1 : a.tmps.getD 1 undef = .pointer (some ⟨w.heap.size, 0, none⟩) := by rw [Array.getD_eq_getD_getElem?, hsame 1 (by decide +kernel)]; rfl
    have e1 := (Array.getD_eq_getD_getElem? (xs := a.tmps) (i := 1) (d := undef)).symm.trans b1
    match i, hi with
    | 0, _ =>
      exact rstep_det rfl rfl rfl rfl (by simp [go_sem, b1, e1]) (by simpa [ownG, updB, updV] using hG) hb
    | 1, _ =>
      have t3 : a.tmps.getD 3 undef = .pointer (some ⟨w.heap.size, 0, none⟩) := (show a.tmps.getD 3 undef = x 0 from (hanc 0 (by decide +kernel)).2.1).trans ((hanc 0 (by decide +kernel)).2.2 _ rfl)
      have u3 := (Array.getD_eq_getD_getElem? (xs := a.tmps) (i := 3) (d := undef)).symm.trans t3
      exact rstep_det rfl rfl rfl rfl (by simp [go_sem, t3, u3, c0]) (by simpa [ownG, updB, updV] using hG) hb
    | 2, _ =>
      have h := hG.below (below_box w' (.cells #[] 9))
      obtain ⟨h2, h5, h6, h9, h10, h13, h14⟩ := h
      exact rstep_run (v := .slice (some ⟨w'.heap.size, 0, none⟩) 0 0) (w' := w'.alloc (.cells #[] 9)) rfl rfl rfl rfl (by simp [go_sem]) ⟨fun _ => ⟨⟨w'.heap.size, 0, none⟩, by simp [updV]⟩, by simpa [updB, updV] using h5, by simpa [updB, updV] using h6, by simpa [updB, updV] using h9, by simpa [updB, updV] using h10, by simpa [updB, updV] using h13, by simp [updB, updV, hdesc 14 (by decide) (by decide +kernel)]⟩ (hb.alloc hb.size _)
    | 3, _ =>
      exact rstep_det rfl rfl rfl rfl (by simp [go_sem, b1, e1]) (by simpa [ownG, updB, updV] using hG) hb
    | 4, _ =>
      have t6 : a.tmps.getD 6 undef = .pointer (some ⟨w.heap.size, 1, none⟩) := (show a.tmps.getD 6 undef = x 3 from (hanc 3 (by decide +kernel)).2.1).trans ((hanc 3 (by decide +kernel)).2.2 _ rfl)
      have u6 := (Array.getD_eq_getD_getElem? (xs := a.tmps) (i := 6) (d := undef)).symm.trans t6
      exact rstep_det rfl rfl rfl rfl (by simp [go_sem, t6, u6, c1]) (by simpa [ownG, updB, updV] using hG) hb
    | 5, _ =>
      have t5 : a.tmps.getD 5 undef = x 2 := (hanc 2 (by decide +kernel)).2.1
      have d2 : d 2 = true := (hanc 2 (by decide +kernel)).1
      have u5 := (Array.getD_eq_getD_getElem? (xs := a.tmps) (i := 5) (d := undef)).symm.trans t5
      have t7 : a.tmps.getD 7 undef = .slice K ks.length kc := (show a.tmps.getD 7 undef = x 4 from (hanc 4 (by decide +kernel)).2.1).trans ((hanc 4 (by decide +kernel)).2.2 _ rfl)
      have u7 := (Array.getD_eq_getD_getElem? (xs := a.tmps) (i := 7) (d := undef)).symm.trans t7
      obtain ⟨a0, ha0⟩ := hG.1 d2
      obtain ⟨v1, w1, hrun, hbw, hor⟩ := run_app0 (P := Try.prog) w' (ty := 22) ty_strs a0 (c := kc) ((HK.out.below ((below_box2 w _ _).trans (hb.mono (by simp; omega)))).cells) (by omega) (by unfold maxLen; omega)
      have hnew : RdV Value.string w1 v1 ks := by
        rcases hor with ⟨h0, rfl⟩ | hown
        · have : ks = [] := List.eq_nil_of_length_eq_zero h0
          rw [this]
          exact ⟨some a0, 0, rfl, Nat.le_refl _, by simp [maxLen], Rd.nil⟩
        · exact RdV.own rfl hown
      have h := hG.below hbw
      obtain ⟨h2, h5, h6, h9, h10, h13, h14⟩ := h
      exact rstep_run (v := v1) (w' := w1) rfl rfl rfl rfl (exec_app rfl (t5.trans ha0) t7 hrun) ⟨by simpa [updB, updV] using h2, fun _ => by simpa [updV] using hnew, by simpa [updB, updV] using h6, by simpa [updB, updV] using h9, by simpa [updB, updV] using h10, by simpa [updB, updV] using h13, by simp [updB, updV, hdesc 14 (by decide) (by decide +kernel)]⟩ (below_then hb (Nat.le_refl _) hbw)
    | 6, _ =>
      have h := hG.below (below_box w' (.cells #[] 9))
      obtain ⟨h2, h5, h6, h9, h10, h13, h14⟩ := h
      exact rstep_run (v := .slice (some ⟨w'.heap.size, 0, none⟩) 0 0) (w' := w'.alloc (.cells #[] 9)) rfl rfl rfl rfl (by simp [go_sem]) ⟨by simpa [updB, updV] using h2, by simpa [updB, updV] using h5, fun _ => ⟨⟨w'.heap.size, 0, none⟩, by simp [updV]⟩, by simpa [updB, updV] using h9, by simpa [updB, updV] using h10, by simpa [updB, updV] using h13, by simp [updB, updV, hdesc 14 (by decide) (by decide +kernel)]⟩ (hb.alloc hb.size _)
    | 7, _ =>
      exact rstep_det rfl rfl rfl rfl (by simp [go_sem, b1, e1]) (by simpa [ownG, updB, updV] using hG) hb
    | 8, _ =>
      have t10 : a.tmps.getD 10 undef = .pointer (some ⟨w.heap.size, 2, none⟩) := (show a.tmps.getD 10 undef = x 7 from (hanc 7 (by decide +kernel)).2.1).trans ((hanc 7 (by decide +kernel)).2.2 _ rfl)
      have u10 := (Array.getD_eq_getD_getElem? (xs := a.tmps) (i := 10) (d := undef)).symm.trans t10
      exact rstep_det rfl rfl rfl rfl (by simp [go_sem, t10, u10, c2]) (by simpa [ownG, updB, updV] using hG) hb
    | 9, _ =>
      have t9 : a.tmps.getD 9 undef = x 6 := (hanc 6 (by decide +kernel)).2.1
      have d6 : d 6 = true := (hanc 6 (by decide +kernel)).1
      have u9 := (Array.getD_eq_getD_getElem? (xs := a.tmps) (i := 9) (d := undef)).symm.trans t9
      have t11 : a.tmps.getD 11 undef = .slice V vs.length vc := (show a.tmps.getD 11 undef = x 8 from (hanc 8 (by decide +kernel)).2.1).trans ((hanc 8 (by decide +kernel)).2.2 _ rfl)
      have u11 := (Array.getD_eq_getD_getElem? (xs := a.tmps) (i := 11) (d := undef)).symm.trans t11
      obtain ⟨a0, ha0⟩ := hG.2.2.1 d6
      obtain ⟨v1, w1, hrun, hbw, hor⟩ := run_app0 (P := Try.prog) w' (ty := 22) ty_strs a0 (c := vc) ((HV.out.below ((below_box2 w _ _).trans (hb.mono (by simp; omega)))).cells) (by omega) (by unfold maxLen; omega)
      have hnew : RdV Value.string w1 v1 vs := by
        rcases hor with ⟨h0, rfl⟩ | hown
        · have : vs = [] := List.eq_nil_of_length_eq_zero h0
          rw [this]
          exact ⟨some a0, 0, rfl, Nat.le_refl _, by simp [maxLen], Rd.nil⟩
        · exact RdV.own rfl hown
      have h := hG.below hbw
      obtain ⟨h2, h5, h6, h9, h10, h13, h14⟩ := h
      exact rstep_run (v := v1) (w' := w1) rfl rfl rfl rfl (exec_app rfl (t9.trans ha0) t11 hrun) ⟨by simpa [updB, updV] using h2, by simpa [updB, updV] using h5, by simpa [updB, updV] using h6, fun _ => by simpa [updV] using hnew, by simpa [updB, updV] using h10, by simpa [updB, updV] using h13, by simp [updB, updV, hdesc 14 (by decide) (by decide +kernel)]⟩ (below_then hb (Nat.le_refl _) hbw)
    | 10, _ =>
      have h := hG.below (below_box w' (.cells #[] 3))
      obtain ⟨h2, h5, h6, h9, h10, h13, h14⟩ := h
      exact rstep_run (v := .slice (some ⟨w'.heap.size, 0, none⟩) 0 0) (w' := w'.alloc (.cells #[] 3)) rfl rfl rfl rfl (by simp [go_sem]) ⟨by simpa [updB, updV] using h2, by simpa [updB, updV] using h5, by simpa [updB, updV] using h6, by simpa [updB, updV] using h9, fun _ => ⟨⟨w'.heap.size, 0, none⟩, by simp [updV]⟩, by simpa [updB, updV] using h13, by simp [updB, updV, hdesc 14 (by decide) (by decide +kernel)]⟩ (hb.alloc hb.size _)
    | 11, _ =>
      exact rstep_det rfl rfl rfl rfl (by simp [go_sem, b1, e1]) (by simpa [ownG, updB, updV] using hG) hb
    | 12, _ =>
      have t14 : a.tmps.getD 14 undef = .pointer (some ⟨w.heap.size, 3, none⟩) := (show a.tmps.getD 14 undef = x 11 from (hanc 11 (by decide +kernel)).2.1).trans ((hanc 11 (by decide +kernel)).2.2 _ rfl)
      have u14 := (Array.getD_eq_getD_getElem? (xs := a.tmps) (i := 14) (d := undef)).symm.trans t14
      exact rstep_det rfl rfl rfl rfl (by simp [go_sem, t14, u14, c3]) (by simpa [ownG, updB, updV] using hG) hb
    | 13, _ =>
      have t13 : a.tmps.getD 13 undef = x 10 := (hanc 10 (by decide +kernel)).2.1
      have d10 : d 10 = true := (hanc 10 (by decide +kernel)).1
      have u13 := (Array.getD_eq_getD_getElem? (xs := a.tmps) (i := 13) (d := undef)).symm.trans t13
      have t15 : a.tmps.getD 15 undef = .slice C cs.length cc := (show a.tmps.getD 15 undef = x 12 from (hanc 12 (by decide +kernel)).2.1).trans ((hanc 12 (by decide +kernel)).2.2 _ rfl)
      have u15 := (Array.getD_eq_getD_getElem? (xs := a.tmps) (i := 15) (d := undef)).symm.trans t15
      obtain ⟨a0, ha0⟩ := hG.2.2.2.2.1 d10
      obtain ⟨v1, w1, hrun, hbw, hor⟩ := run_app0 (P := Try.prog) w' (ty := 23) ty_ints a0 (c := cc) ((HC.out.below ((below_box2 w _ _).trans (hb.mono (by simp; omega)))).cells) (by omega) (by unfold maxLen; omega)
      have hnew : RdV (Value.int .i64) w1 v1 cs := by
        rcases hor with ⟨h0, rfl⟩ | hown
        · have : cs = [] := List.eq_nil_of_length_eq_zero h0
          rw [this]
          exact ⟨some a0, 0, rfl, Nat.le_refl _, by simp [maxLen], Rd.nil⟩
        · exact RdV.own rfl hown
      have h := hG.below hbw
      obtain ⟨h2, h5, h6, h9, h10, h13, h14⟩ := h
      exact rstep_run (v := v1) (w' := w1) rfl rfl rfl rfl (exec_app rfl (t13.trans ha0) t15 hrun) ⟨by simpa [updB, updV] using h2, by simpa [updB, updV] using h5, by simpa [updB, updV] using h6, by simpa [updB, updV] using h9, by simpa [updB, updV] using h10, fun _ => by simpa [updV] using hnew, by simp [updB, updV, hdesc 14 (by decide) (by decide +kernel)]⟩ (below_then hb (Nat.le_refl _) hbw)
    | 14, _ =>
      have t4 : a.tmps.getD 4 undef = .bool lf := (show a.tmps.getD 4 undef = x 1 from (hanc 1 (by decide +kernel)).2.1).trans ((hanc 1 (by decide +kernel)).2.2 _ rfl)
      have u4 := (Array.getD_eq_getD_getElem? (xs := a.tmps) (i := 4) (d := undef)).symm.trans t4
      have t8 : a.tmps.getD 8 undef = x 5 := (hanc 5 (by decide +kernel)).2.1
      have d5 : d 5 = true := (hanc 5 (by decide +kernel)).1
      have u8 := (Array.getD_eq_getD_getElem? (xs := a.tmps) (i := 8) (d := undef)).symm.trans t8
      have t12 : a.tmps.getD 12 undef = x 9 := (hanc 9 (by decide +kernel)).2.1
      have d9 : d 9 = true := (hanc 9 (by decide +kernel)).1
      have u12 := (Array.getD_eq_getD_getElem? (xs := a.tmps) (i := 12) (d := undef)).symm.trans t12
      have t16 : a.tmps.getD 16 undef = x 13 := (hanc 13 (by decide +kernel)).2.1
      have d13 : d 13 = true := (hanc 13 (by decide +kernel)).1
      have u16 := (Array.getD_eq_getD_getElem? (xs := a.tmps) (i := 16) (d := undef)).symm.trans t16
      obtain ⟨h2, h5, h6, h9, h10, h13, h14⟩ := hG
      obtain ⟨A5, c5, e5, _⟩ := h5 d5
      obtain ⟨A9, c9, e9, _⟩ := h9 d9
      obtain ⟨A13, c13, e13, _⟩ := h13 d13
      exact rstep_run (v := .agg #[.bool lf, x 5, x 9, x 13]) (w' := w') rfl rfl rfl rfl (by simp [go_sem, t4, u4, t8, u8, t12, u12, t16, u16, e5, e9, e13]) ⟨by simpa [updB, updV] using h2, by simpa [updB, updV] using h5, by simpa [updB, updV] using h6, by simpa [updB, updV] using h9, by simpa [updB, updV] using h10, by simpa [updB, updV] using h13, fun _ => by simp [updV]⟩ hb
    | (m + 15), h => exact absurd h (by omega)
  · intro d x w' hb hall hG
    obtain ⟨h2, h5, h6, h9, h10, h13, h14⟩ := hG
    have e14 := h14 (hall 14 (by omega)).1
    have r5 := Lib.hid (h5 (hall 5 (by omega)).1)
    have r9 := Lib.hid (h9 (hall 9 (by omega)).1)
    have r13 := Lib.hid (h13 (hall 13 (by omega)).1)
    simp only [rfill, rdst, List.getElem?_toArray, List.getElem?_cons_zero, List.getElem?_cons_succ, Option.bind_some, Act.put, List.setIfInBounds_toArray, List.set_cons_zero, List.set_cons_succ, List.drop_succ_cons, List.drop_zero]
    rw [e14]
    clear e14 hall h2 h5 h6 h9 h10 h13 h14
    obtain ⟨A5, c5, e5, _⟩ := r5.out
    obtain ⟨A9, c9, e9, _⟩ := r9.out
    obtain ⟨A13, c13, e13, _⟩ := r13.out
    have HE := Lib.hid (And.intro e5 (And.intro e9 e13))
    rw [e5, e9, e13]
    clear e5 e9 e13
    have hblk : Blk4 w' (w.heap.size + 1) 25 (.bool false) (.slice none 0 0) (.slice none 0 0) (.slice none 0 0) :=
      (hb.block (w.heap.size + 1) (by simp)).trans (by have := heap_alloc_new (w.alloc (.cells #[.bool lf, .slice K ks.length kc, .slice V vs.length vc, .slice C cs.length cc] 25)) (.cells #[.bool false, .slice none 0 0, .slice none 0 0, .slice none 0 0] 25); simpa using this)
    obtain ⟨⟨k0, k1, k2, k3⟩, f0, f1, f2, f3⟩ := hblk.cells
    have HB := Lib.hid hb
    clear hb
    have hoff : ∀ i x, w'.cell? ⟨w.heap.size + 1, i, none⟩ ≠ some (Value.string x) ∧ ∀ y, w'.cell? ⟨w.heap.size + 1, i, none⟩ ≠ some (Value.int .i64 y) := by
      intro i x
      rw [cell_of_row w' (w.heap.size + 1) i _ 25 (0, 0) hblk]
      match i with
      | 0 => exact ⟨by simp, by simp⟩
      | 1 => exact ⟨by simp, by simp⟩
      | 2 => exact ⟨by simp, by simp⟩
      | 3 => exact ⟨by simp, by simp⟩
      | (i + 4) => exact ⟨by simp, by simp⟩
    have HOFF := Lib.hid hoff
    clear hoff hblk
    go_wp2_with fail
    refine bodyPost_ret (v := .agg #[.bool lf, .slice A5 ks.length c5, .slice A9 vs.length c9, .slice A13 cs.length c13]) (by simp [results, Try.results19, go_sem, k0, k1, k2, k3]) rfl ⟨_, rfl, ⟨_, _, _, rfl, ?_, ?_, ?_⟩, ?_⟩
    · exact HE.out.1 ▸ r5.out.off (w.heap.size + 1) (fun i x => (HOFF.out i x).1) (fun k hk => by rw [set_other _ _ _ _ hk, set_other _ _ _ _ hk, set_other _ _ _ _ hk, set_other _ _ _ _ hk])
    · exact HE.out.2.1 ▸ r9.out.off (w.heap.size + 1) (fun i x => (HOFF.out i x).1) (fun k hk => by rw [set_other _ _ _ _ hk, set_other _ _ _ _ hk, set_other _ _ _ _ hk, set_other _ _ _ _ hk])
    · exact HE.out.2.2 ▸ r13.out.off (w.heap.size + 1) (fun i x => (HOFF.out i ByteArray.empty).2 x) (fun k hk => by rw [set_other _ _ _ _ hk, set_other _ _ _ _ hk, set_other _ _ _ _ hk, set_other _ _ _ _ hk])
    · exact ((((below_box2 w _ _).trans (HB.out.mono (by simp; omega))).setCell (by simp) _).setCell (by simp) _ |>.setCell (by simp) _).setCell (by simp) _
end Go.Proofs.Ytfngadidlmbfdaa
