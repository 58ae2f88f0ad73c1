/-
  One call of both disks: a write.
-/
import Derived.Test.YtfngadidlmbfdaaDA0
import Derived.Test.YtfngadidlmbfdaaPhase
namespace Go.Proofs.Ytfngadidlmbfdaa
open Go.RowKit
set_option linter.unusedVariables false
set_option linter.unusedSimpArgs false
structure Both (w : World) (F G : Nat → Prop) (q r : Nat) (S : DS) (R : RS) (B : Nat) : Prop where
  disk : DiskAt w F q S
  ref : RefAt w G r R
  apart : ∀ k, F k → ¬ G k
  rel : Rel S R
  len : R.fs.length + R.since.length ≤ 5000 + B
  left : -(B : Int) ≤ R.left
theorem DiskAt.ok {w : World} {F : Nat → Prop} {d : Nat} {S : DS} (h : DiskAt w F d S) : S.Ok := by
  obtain ⟨_, _, _, _, _, _, _, _, h5⟩ := h; exact h5
theorem rd_off {α : Type} {enc : α → Value} {w w' : World} {F F' : Nat → Prop} {A : Option Addr} {xs : List α} (h : Rd enc w A xs) (hf : Fr F F' w w') (hA : 0 < xs.length → ∀ a, A = some a → ¬ F a.block) : Rd enc w' A xs := fun hn => by
  obtain ⟨g, o, rfl, hc⟩ := h hn
  refine ⟨g, o, rfl, fun j hj => ?_⟩
  have h1 := hc j hj
  rw [← h1]
  exact World.cell?_of_block (w := w) (hf.block g (block_lt_of_cell h1) (hA hn _ rfl))
structure WKG (w0 : World) (F G : Nat → Prop) (q r bx : Nat) (S : DS) (R : RS) (E at_ : Int) (b : List Int) (d : Nat → Bool) (x : Nat → Value) (w : World) : Prop where
  box : w.heap[bx]? = w0.heap[bx]?
  below : d 7 = false → Below w0.heap.size w0 w
  l3 : d 3 = true → d 6 = false → w.ownsRow w0.heap.size 5 1 (x 3) 0 []
  l6 : d 6 = true → d 7 = false → w.ownsRow w0.heap.size 5 1 (x 6) b.length (b.map (Value.int .u8))
  c7 : d 7 = true → x 7 = .int .i64 E ∧ (d 13 = false → ∃ F', DiskAt w F' q (S.write at_ b) ∧ Fr F F' w0 w)
  c13 : d 13 = true → x 13 = .int .i64 E ∧ ∃ F' G', DiskAt w F' q (S.write at_ b) ∧ RefAt w G' r (R.write at_ b) ∧ (∀ k, F' k → ¬ G' k) ∧ Fr (fun k => F k ∨ G k) (fun k => F' k ∨ G' k) w0 w
theorem WKG.init (w0 : World) (F G : Nat → Prop) (q r bx : Nat) (S : DS) (R : RS) (E at_ : Int) (b : List Int) : WKG w0 F G q r bx S R E at_ b (fun _ => false) (fun _ => undef) w0 :=
  ⟨rfl, fun _ => Below.refl _ _, nofun, nofun, nofun, nofun⟩
section
variable {w0 w w' : World} {F G : Nat → Prop} {q r bx : Nat} {S : DS} {R : RS} {E at_ : Int} {b : List Int} {d : Nat → Bool} {x : Nat → Value}
theorem WKG.other (h : WKG w0 F G q r bx S R E at_ b d x w) {j : Nat} {c : Value} (hj : j ≠ 3 ∧ j ≠ 6 ∧ j ≠ 7 ∧ j ≠ 13) : WKG w0 F G q r bx S R E at_ b (updB d j) (updV x j c) w := by
  obtain ⟨h1, h2, h3, h4⟩ := hj
  have b3 : updB d j 3 = d 3 := updB_ne d (Ne.symm h1)
  have b6 : updB d j 6 = d 6 := updB_ne d (Ne.symm h2)
  have b7 : updB d j 7 = d 7 := updB_ne d (Ne.symm h3)
  have b13 : updB d j 13 = d 13 := updB_ne d (Ne.symm h4)
  have x3 : updV x j c 3 = x 3 := updV_ne x c (Ne.symm h1)
  have x6 : updV x j c 6 = x 6 := updV_ne x c (Ne.symm h2)
  have x7 : updV x j c 7 = x 7 := updV_ne x c (Ne.symm h3)
  have x13 : updV x j c 13 = x 13 := updV_ne x c (Ne.symm h4)
  exact ⟨h.box, by rw [b7]; exact h.below, by rw [b3, b6, x3]; exact h.l3, by rw [b6, b7, x6]; exact h.l6, by rw [b7, x7, b13]; exact h.c7, by rw [b13, x13]; exact h.c13⟩
theorem WKG.build3 (h : WKG w0 F G q r bx S R E at_ b d x w) (h6 : d 6 = false) (h7 : d 7 = false) (h13 : d 13 = false) (hbx : bx < w0.heap.size) : WKG w0 F G q r bx S R E at_ b (updB d 3) (updV x 3 (.slice (some ⟨w.heap.size, 0, none⟩) 0 0)) (w.alloc (.cells #[] 5)) := by
  have hb := h.below h7
  have b6 : updB d 3 6 = d 6 := updB_ne d (by decide)
  have b7 : updB d 3 7 = d 7 := updB_ne d (by decide)
  have b13 : updB d 3 13 = d 13 := updB_ne d (by decide)
  exact ⟨(heap_alloc_old w _ (Nat.lt_of_lt_of_le hbx hb.size)).trans h.box, fun _ => hb.alloc hb.size _, fun _ _ => by rw [updV_same]; exact own_empty w w0.heap.size 5 1 hb.size, (fun z => by rw [b6, h6] at z; cases z), (fun z => by rw [b7, h7] at z; cases z), (fun z => by rw [b13, h13] at z; cases z)⟩
theorem WKG.app6 (h : WKG w0 F G q r bx S R E at_ b d x w) (h7 : d 7 = false) (h13 : d 13 = false) {v : Value} (ho : w'.ownsRow w0.heap.size 5 1 v b.length (b.map (Value.int .u8))) {row : Option Nat} (hg : w.grownBy w' row) (hrow : ∀ k, row = some k → w0.heap.size ≤ k) (hbx : bx < w0.heap.size) : WKG w0 F G q r bx S R E at_ b (updB d 6) (updV x 6 v) w' := by
  have hb := h.below h7
  have b7 : updB d 6 7 = d 7 := updB_ne d (by decide)
  have b13 : updB d 6 13 = d 13 := updB_ne d (by decide)
  exact ⟨(hg.block bx (Nat.lt_of_lt_of_le hbx hb.size) (fun e => by have := hrow bx e.symm; omega)).trans h.box, fun _ => hb.grown hg hb.size hrow, (fun _ z => by rw [updB_same] at z; cases z), fun _ _ => by rw [updV_same]; exact ho, (fun z => by rw [b7, h7] at z; cases z), (fun z => by rw [b13, h13] at z; cases z)⟩
theorem WKG.call7 (h : WKG w0 F G q r bx S R E at_ b d x w) (h6 : d 6 = true) (hb : Below w0.heap.size w0 w) (h13 : d 13 = false) {e : Int} (he : e = E) {F' : Nat → Prop} (hd : DiskAt w' F' q (S.write at_ b)) (hf : Fr F F' w w') (hbF : ¬ F bx) (hbx : bx < w0.heap.size) :
    WKG w0 F G q r bx S R E at_ b (updB d 7) (updV x 7 (.int .i64 e)) w' := by
  have b13 : updB d 7 13 = d 13 := updB_ne d (by decide)
  exact ⟨(hf.block bx (Nat.lt_of_lt_of_le hbx hb.size) hbF).trans h.box, (fun z => by rw [updB_same] at z; cases z), (fun _ z => by rw [updB_ne d (by decide), h6] at z; cases z), (fun _ z => by rw [updB_same] at z; cases z), fun _ => ⟨by rw [updV_same, he], fun _ => ⟨F', hd, (Fr.below hb).trans hf⟩⟩, (fun z => by rw [b13, h13] at z; cases z)⟩
theorem WKG.call13 (h : WKG w0 F G q r bx S R E at_ b d x w) (h6 : d 6 = true) (h7 : d 7 = true) (h13 : d 13 = false) {e : Int} (he : e = E) (hFG : ∀ k, F k → ¬ G k) (hGlt : ∀ k, G k → k < w0.heap.size) {F' G' : Nat → Prop} (hd : DiskAt w F' q (S.write at_ b)) (hf : Fr F F' w0 w)
    (hr : RefAt w' G' r (R.write at_ b)) (hg : Fr G G' w w') (hbG : ¬ G bx) (hbx : bx < w0.heap.size) : WKG w0 F G q r bx S R E at_ b (updB d 13) (updV x 13 (.int .i64 e)) w' := by
  have b7 : updB d 13 7 = d 7 := updB_ne d (by decide)
  have b6 : updB d 13 6 = d 6 := updB_ne d (by decide)
  have hF'G : ∀ k, F' k → ¬ G k := fun k hk hG => (hf.sub k hk).elim (fun z => hFG k z hG) (fun z => by have := hGlt k hG; omega)
  refine ⟨(hg.block bx (Nat.lt_of_lt_of_le hbx hf.size) hbG).trans h.box, (fun z => by rw [b7, h7] at z; cases z), (fun _ z => by rw [b6, h6] at z; cases z), (fun _ z => by rw [b7, h7] at z; cases z), fun z => ?_, fun _ => ⟨by rw [updV_same, he], F', G', ?_, hr, ?_, ?_⟩⟩
  · rw [updV_ne _ _ (by decide)]
    exact ⟨(h.c7 h7).1, fun z => by rw [updB_same] at z; cases z⟩
  · exact hd.kept (fun k hk => hg.block k (hd.lt k hk) (hF'G k hk))
  · intro k hk hk'
    rcases hg.sub k hk' with z | z
    · exact hF'G k hk z
    · have := hd.lt k hk; omega
  · refine ⟨hg.os.trans hf.os, hg.tape.trans hf.tape, hg.output.trans hf.output, Nat.le_trans hf.size hg.size, fun k hk hn => (hg.block k (Nat.lt_of_lt_of_le hk hf.size) (fun z => hn (.inr z))).trans (hf.block k hk (fun z => hn (.inl z))), ?_⟩
    rintro k (hk | hk)
    · exact (hf.sub k hk).elim (fun z => .inl (.inl z)) .inr
    · exact (hg.sub k hk).elim (fun z => .inl (.inr z)) (fun z => .inr (Nat.le_trans hf.size z))
end
/-- A call that came in. -/
structure ActD where
  kind : Int
  at_ : Int
  BA : Option Addr
  B : List Int
  BC : Nat
  KA : Option Addr
  K : List Bool
  KC : Nat
def ActD.cells (a : ActD) : List Value := [.int .i64 a.kind, .int .i64 a.at_, .slice a.BA a.B.length a.BC, .slice a.KA a.K.length a.KC]
structure ActIn (w : World) (a : ActD) : Prop where
  rb : Rd (Value.int .u8) w a.BA a.B
  rk : Rd Value.bool w a.KA a.K
  lb : a.B.length ≤ 140737488351232
  lk : a.K.length ≤ 140737488351232
  at_ : -9223372036854775808 ≤ a.at_ ∧ a.at_ ≤ 9223372036854775807
def ActOff (F : Nat → Prop) (a : ActD) : Prop := (0 < a.B.length → ∀ x, a.BA = some x → ¬ F x.block) ∧ (0 < a.K.length → ∀ x, a.KA = some x → ¬ F x.block)
def RetBoth (w : World) (F G : Nat → Prop) (q r : Nat) (B : Nat) (v : Value) (e : Ending) (w' : World) : Prop :=
  e = .returned v ∧ ∃ F' G' S' R', Both w' F' G' q r S' R' (B + 1) ∧ Fr (fun k => F k ∨ G k) (fun k => F' k ∨ G' k) w w'
set_option maxRecDepth 100000 in
set_option maxHeartbeats 4000000 in
theorem does_write {w : World} {F G : Nat → Prop} {q r B : Nat} {S : DS} {R : RS} (h : Both w F G q r S R B) (hB : B ≤ 1000000) (a : ActD) (ha : ActIn w a) (ho : ActOff (fun k => F k ∨ G k) a) (hk : a.kind = 0) :
    Calls Try.prog 25 #[.pointer (some ⟨q, 0, none⟩), .pointer (some ⟨r, 0, none⟩), .agg a.cells.toArray] w (RetBoth w F G q r B (.bool true)) := by
  obtain ⟨kind, at_, BA, b, BC, KA, ks, KC⟩ := a
  obtain rfl : kind = 0 := hk
  obtain ⟨n, hn⟩ : ∃ n, n = b.length := ⟨_, rfl⟩
  obtain ⟨m, hm⟩ : ∃ m, m = ks.length := ⟨_, rfl⟩
  have hlb : n ≤ 140737488351232 := by rw [hn]; exact ha.lb
  show Calls _ _ #[_, _, .agg #[.int .i64 0, .int .i64 at_, .slice BA b.length BC, .slice KA ks.length KC]] _ _
  rw [← hn, ← hm]
  obtain ⟨bx, hbx⟩ : ∃ bx, bx = w.heap.size := ⟨_, rfl⟩
  have hb1 : Below w.heap.size w (w.alloc (.cells #[.int .i64 0, .int .i64 at_, .slice BA n BC, .slice KA m KC] 46)) := (Below.refl w.heap.size w).alloc (Nat.le_refl _) _
  have hbox := heap_alloc_new w (.cells #[.int .i64 0, .int .i64 at_, .slice BA n BC, .slice KA m KC] 46)
  have hws : (w.alloc (.cells #[.int .i64 0, .int .i64 at_, .slice BA n BC, .slice KA m KC] 46)).heap.size = bx + 1 := by rw [hbx]; simp
  obtain ⟨W, hW⟩ : ∃ W, W = w.alloc (.cells #[.int .i64 0, .int .i64 at_, .slice BA n BC, .slice KA m KC] 46) := ⟨_, rfl⟩
  rw [← hW, ← hbx] at hbox
  rw [← hW] at hb1 hws
  have HBX : Hid (∀ W' : World, W'.heap[bx]? = W.heap[bx]? → W'.cell? ⟨bx, 0, none⟩ = some (.int .i64 0) ∧ W'.cell? ⟨bx, 1, none⟩ = some (.int .i64 at_) ∧ W'.cell? ⟨bx, 2, none⟩ = some (.slice BA n BC) ∧ W'.cell? ⟨bx, 3, none⟩ = some (.slice KA m KC)) := fun W' hk => by
    have hc := fun i => cell_of_row W' bx i _ _ _ (hk.trans hbox)
    exact ⟨hc 0, hc 1, hc 2, hc 3⟩
  obtain ⟨RE, hRE⟩ : ∃ RE, RE = RetBoth w F G q r B (.bool true) := ⟨_, rfl⟩
  rw [← hRE]
  have HRE := Lib.hid hRE; clear hRE
  have HW := Lib.hid hW
  have HH := Lib.hid h
  have HA := Lib.hid ha
  have HO := Lib.hid ho
  have HB1 := Lib.hid hb1
  have HM := Lib.hid hm
  have HBN : Hid (b.length = n) := hn.symm
  have HBXE : Hid (bx = w.heap.size) := hbx
  clear hbox hW h ha ho hb1 hn hm
  clear hbx
  go_enter Try.func25, Try.ntmps25
  go_wp2_with fail
  rw [← HW.out, ← HBXE.out]
  obtain ⟨d0, _, _, _⟩ := HBX.out W rfl
  go_wp2_with fail
  clear d0
  refine region_phases (by kernel_rfl) ?_
  have HBD : Hid (Below w.heap.size w { W with drawn := W.drawn + 1 }) := HB1.out.trans ⟨rfl, rfl, rfl, Nat.le_refl _, fun _ _ => rfl⟩
  obtain ⟨W0, hW0⟩ : ∃ W0 : World, W0 = { W with drawn := W.drawn + 1 } := ⟨_, rfl⟩
  rw [← hW0] at HBD ⊢
  have hWW : W0.heap = W.heap := by rw [hW0]
  have HBX0 : Hid (∀ W' : World, W'.heap[bx]? = W0.heap[bx]? → W'.cell? ⟨bx, 0, none⟩ = some (.int .i64 0) ∧ W'.cell? ⟨bx, 1, none⟩ = some (.int .i64 at_) ∧ W'.cell? ⟨bx, 2, none⟩ = some (.slice BA n BC) ∧ W'.cell? ⟨bx, 3, none⟩ = some (.slice KA m KC)) := fun W' hk => HBX.out W' (by rw [hk, hWW])
  have hbx0 : bx < W0.heap.size := by rw [hWW]; omega
  clear hW0 hWW hws HBX
  have HBX := HBX0; clear HBX0
  have HB : Hid (Both W0 F G q r S R B) := ⟨HH.out.disk.below HBD.out, HH.out.ref.below HBD.out, HH.out.apart, HH.out.rel, HH.out.len, HH.out.left⟩
  have HBR : Hid (Rd (Value.int .u8) W0 BA b) := HA.out.rb.below HBD.out
  have HBO : Hid (0 < b.length → ∀ a, BA = some a → ¬ F a.block ∧ ¬ G a.block) := fun h0 a ha => ⟨fun z => HO.out.1 h0 a ha (.inl z), fun z => HO.out.1 h0 a ha (.inr z)⟩
  have H1C := Lib.hid (fun u (hu : u ∈ b.map (Value.int .u8)) => (show u.oneCell' = true by obtain ⟨x, _, rfl⟩ := List.mem_map.1 hu; rfl))
  have HSR : Hid (S.since.length < 1000000000) := by show _ < _; rw [HH.out.rel.since]; have := HH.out.len; omega
  have HRR : Hid (R.since.length < 1000000000) := by show _ < _; have := HH.out.len; omega
  have HRL : Hid (-1000000000 < R.left) := by show _ < _; have := HH.out.left; omega
  have hbxF : ¬ F bx := fun z => by have := HH.out.disk.lt _ z; have := HBXE.out; omega
  have hbxG : ¬ G bx := fun z => by have := HH.out.ref.lt _ z; have := HBXE.out; omega
  obtain ⟨WE, hWE⟩ : ∃ WE, WE = S.writeE at_ b := ⟨_, rfl⟩
  have HWE : Hid (S.writeE at_ b = WE) := hWE.symm
  have HWE2 : Hid (R.writeE at_ b = WE) := by show _ = _; rw [hWE]; exact (HH.out.rel.write at_ b).1.symm
  clear hWE
  refine phaseJ (fun _ => True) (trivial) (fun | 0 => some (.pointer (some ⟨q, 0, none⟩)) | 1 => some (.pointer (some ⟨bx, 1, none⟩)) | 2 => some (.int .i64 at_) | 4 => some (.pointer (some ⟨bx, 2, none⟩)) | 5 => some (.slice BA n BC) | 8 => some (.pointer (some ⟨r, 0, none⟩)) | 9 => some (.pointer (some ⟨bx, 1, none⟩)) | 10 => some (.int .i64 at_) | 11 => some (.pointer (some ⟨bx, 2, none⟩)) | 12 => some (.slice BA n BC) | 14 => some (.bool true) | _ => none) (WKG W0 F G q r bx S R WE at_ b) 0 15 95 (by decide) rfl (by kernel_rfl) (by kernel_rfl) (WKG.init W0 F G q r bx S R WE at_ b) ?_ ?_
  · intro i hmi hi d x a w' hb hsame hanc hdi hdesc hG
    have b0 : a.tmps.getD 0 undef = .pointer (some ⟨q, 0, none⟩) := by rw [Array.getD_eq_getD_getElem?, hsame 0 (by decide +kernel)]; rfl
    have e0 := (Array.getD_eq_getD_getElem? (xs := a.tmps) (i := 0) (d := undef)).symm.trans b0
    have b1 : a.tmps.getD 1 undef = .pointer (some ⟨r, 0, none⟩) := by rw [Array.getD_eq_getD_getElem?, hsame 1 (by decide +kernel)]; rfl
    have e1 := (Array.getD_eq_getD_getElem? (xs := a.tmps) (i := 1) (d := undef)).symm.trans b1
    have b5 : a.tmps.getD 5 undef = .pointer (some ⟨bx, 0, none⟩) := by rw [Array.getD_eq_getD_getElem?, hsame 5 (by decide +kernel)]; rfl
    have e5 := (Array.getD_eq_getD_getElem? (xs := a.tmps) (i := 5) (d := undef)).symm.trans b5
    match i, hmi, hi with
    | 0, _, _ =>
      exact pstep_det rfl (wanted_none rfl) rfl rfl (by simp [go_sem, b0, e0]) (hG.other (by decide)) hb
    | 1, _, _ =>
      exact pstep_det rfl (wanted_none rfl) rfl rfl (by simp [go_sem, b5, e5]) (hG.other (by decide)) hb
    | 2, _, _ =>
      have t17 : a.tmps.getD 17 undef = .pointer (some ⟨bx, 1, none⟩) := (show a.tmps.getD 17 undef = x 1 from (hanc 1 (by decide +kernel)).2.1).trans ((hanc 1 (by decide +kernel)).2.2 _ rfl)
      have u17 := (Array.getD_eq_getD_getElem? (xs := a.tmps) (i := 17) (d := undef)).symm.trans t17
      exact pstep_det rfl (wanted_none rfl) rfl rfl (by simp [go_sem, t17, u17, (HBX.out w' hG.box).2.1]) (hG.other (by decide)) hb
    | 3, _, _ =>
      exact pstep_run (v := .slice (some ⟨w'.heap.size, 0, none⟩) 0 0) (w' := w'.alloc (.cells #[] 5)) rfl (wanted_none rfl) rfl nofun (by simp [go_sem, ]) (hG.build3 (hdesc 6 (by decide) (by decide) (by decide +kernel)) (hdesc 7 (by decide) (by decide) (by decide +kernel)) (hdesc 13 (by decide) (by decide) (by decide +kernel)) hbx0) trivial
    | 4, _, _ =>
      exact pstep_det rfl (wanted_none rfl) rfl rfl (by simp [go_sem, b5, e5]) (hG.other (by decide)) hb
    | 5, _, _ =>
      have t20 : a.tmps.getD 20 undef = .pointer (some ⟨bx, 2, none⟩) := (show a.tmps.getD 20 undef = x 4 from (hanc 4 (by decide +kernel)).2.1).trans ((hanc 4 (by decide +kernel)).2.2 _ rfl)
      have u20 := (Array.getD_eq_getD_getElem? (xs := a.tmps) (i := 20) (d := undef)).symm.trans t20
      exact pstep_det rfl (wanted_none rfl) rfl rfl (by simp [go_sem, t20, u20, (HBX.out w' hG.box).2.2.1]) (hG.other (by decide)) hb
    | 6, _, _ =>
      have t19 : a.tmps.getD 19 undef = x 3 := (hanc 3 (by decide +kernel)).2.1
      have d3 : d 3 = true := (hanc 3 (by decide +kernel)).1
      have u19 := (Array.getD_eq_getD_getElem? (xs := a.tmps) (i := 19) (d := undef)).symm.trans t19
      have t21 : a.tmps.getD 21 undef = .slice BA n BC := (show a.tmps.getD 21 undef = x 5 from (hanc 5 (by decide +kernel)).2.1).trans ((hanc 5 (by decide +kernel)).2.2 _ rfl)
      have u21 := (Array.getD_eq_getD_getElem? (xs := a.tmps) (i := 21) (d := undef)).symm.trans t21
      have h7 := hdesc 7 (by decide) (by decide) (by decide +kernel)
      obtain ⟨v1, w5, hrun, ho, hgr, hbk⟩ := run_app w' (ty := 33) ty_bytes (hG.l3 d3 hdi) (c := BC) (show RdC 1 w' BA n (b.map (Value.int .u8)) from by rw [← HBN.out]; exact (HBR.out.below (hG.below h7)).cells) H1C.out (by omega) (by unfold maxLen; omega) (hG.below h7).size
      rw [Nat.zero_add, List.nil_append] at ho
      exact pstep_run (v := v1) (w' := w5) rfl (wanted_none rfl) rfl nofun (exec_app rfl t19 t21 hrun) (hG.app6 h7 (hdesc 13 (by decide) (by decide) (by decide +kernel)) (by rw [HBN.out]; exact ho) hgr (fun k hk => (own_base (hG.l3 d3 hdi) k hk).1) hbx0) trivial
    | 7, _, _ =>
      have t16 : a.tmps.getD 16 undef = .pointer (some ⟨q, 0, none⟩) := (show a.tmps.getD 16 undef = x 0 from (hanc 0 (by decide +kernel)).2.1).trans ((hanc 0 (by decide +kernel)).2.2 _ rfl)
      have u16 := (Array.getD_eq_getD_getElem? (xs := a.tmps) (i := 16) (d := undef)).symm.trans t16
      have t18 : a.tmps.getD 18 undef = .int .i64 at_ := (show a.tmps.getD 18 undef = x 2 from (hanc 2 (by decide +kernel)).2.1).trans ((hanc 2 (by decide +kernel)).2.2 _ rfl)
      have u18 := (Array.getD_eq_getD_getElem? (xs := a.tmps) (i := 18) (d := undef)).symm.trans t18
      have t22 : a.tmps.getD 22 undef = x 6 := (hanc 6 (by decide +kernel)).2.1
      have d6 : d 6 = true := (hanc 6 (by decide +kernel)).1
      have u22 := (Array.getD_eq_getD_getElem? (xs := a.tmps) (i := 22) (d := undef)).symm.trans t22
      obtain ⟨A6, c6, e6, _⟩ := own_form (hG.l6 d6 hdi)
      have ho := hG.l6 d6 hdi
      rw [e6] at t22 u22 ho
      have hbw := hG.below hdi
      refine pstep_call rfl (wanted_none rfl) rfl (by simp [go_sem, t16, u16, t18, u18, t22, u22]) (disk_write (HB.out.disk.below hbw) at_ A6 b c6 (own_rd ho) (by have := HBN.out; omega) (fun a ha hF => by subst ha; have h1 := (own_base ho a.block rfl).1; have h2 := HB.out.disk.lt _ hF; omega) HSR.out) ?_
      rintro e w8 ⟨rfl, F', hd', hf'⟩
      exact ⟨_, rfl, nofun, hG.call7 d6 hbw (hdesc 13 (by decide) (by decide) (by decide +kernel)) HWE.out hd' hf' hbxF hbx0, trivial⟩
    | 8, _, _ =>
      exact pstep_det rfl (wanted_none rfl) rfl rfl (by simp [go_sem, b1, e1]) (hG.other (by decide)) hb
    | 9, _, _ =>
      exact pstep_det rfl (wanted_none rfl) rfl rfl (by simp [go_sem, b5, e5]) (hG.other (by decide)) hb
    | 10, _, _ =>
      have t25 : a.tmps.getD 25 undef = .pointer (some ⟨bx, 1, none⟩) := (show a.tmps.getD 25 undef = x 9 from (hanc 9 (by decide +kernel)).2.1).trans ((hanc 9 (by decide +kernel)).2.2 _ rfl)
      have u25 := (Array.getD_eq_getD_getElem? (xs := a.tmps) (i := 25) (d := undef)).symm.trans t25
      exact pstep_det rfl (wanted_none rfl) rfl rfl (by simp [go_sem, t25, u25, (HBX.out w' hG.box).2.1]) (hG.other (by decide)) hb
    | 11, _, _ =>
      exact pstep_det rfl (wanted_none rfl) rfl rfl (by simp [go_sem, b5, e5]) (hG.other (by decide)) hb
    | 12, _, _ =>
      have t27 : a.tmps.getD 27 undef = .pointer (some ⟨bx, 2, none⟩) := (show a.tmps.getD 27 undef = x 11 from (hanc 11 (by decide +kernel)).2.1).trans ((hanc 11 (by decide +kernel)).2.2 _ rfl)
      have u27 := (Array.getD_eq_getD_getElem? (xs := a.tmps) (i := 27) (d := undef)).symm.trans t27
      exact pstep_det rfl (wanted_none rfl) rfl rfl (by simp [go_sem, t27, u27, (HBX.out w' hG.box).2.2.1]) (hG.other (by decide)) hb
    | 13, _, _ =>
      have t24 : a.tmps.getD 24 undef = .pointer (some ⟨r, 0, none⟩) := (show a.tmps.getD 24 undef = x 8 from (hanc 8 (by decide +kernel)).2.1).trans ((hanc 8 (by decide +kernel)).2.2 _ rfl)
      have u24 := (Array.getD_eq_getD_getElem? (xs := a.tmps) (i := 24) (d := undef)).symm.trans t24
      have t26 : a.tmps.getD 26 undef = .int .i64 at_ := (show a.tmps.getD 26 undef = x 10 from (hanc 10 (by decide +kernel)).2.1).trans ((hanc 10 (by decide +kernel)).2.2 _ rfl)
      have u26 := (Array.getD_eq_getD_getElem? (xs := a.tmps) (i := 26) (d := undef)).symm.trans t26
      have t28 : a.tmps.getD 28 undef = .slice BA n BC := (show a.tmps.getD 28 undef = x 12 from (hanc 12 (by decide +kernel)).2.1).trans ((hanc 12 (by decide +kernel)).2.2 _ rfl)
      have u28 := (Array.getD_eq_getD_getElem? (xs := a.tmps) (i := 28) (d := undef)).symm.trans t28
      obtain ⟨F', hd', hf'⟩ := (hG.c7 (hanc 7 (by decide +kernel)).1).2 hdi
      have hGk : ∀ k, G k → w'.heap[k]? = W0.heap[k]? := fun k hk => hf'.block k (HB.out.ref.lt k hk) (fun hF => HB.out.apart k hF hk)
      have hrd : Rd (Value.int .u8) w' BA b := rd_off HBR.out hf' (fun h0 a ha => (HBO.out h0 a ha).1)
      have hcw := ref_write (HB.out.ref.kept hGk hf'.size) at_ BA b BC hrd (by have := HBN.out; omega) (fun h0 a ha => (HBO.out h0 a ha).2) HRR.out HRL.out
      rw [HBN.out] at hcw
      refine pstep_call rfl (wanted_none rfl) rfl (by simp [go_sem, t24, u24, t26, u26, t28, u28]) hcw ?_
      rintro e w8 ⟨rfl, G', hr', hg'⟩
      exact ⟨_, rfl, nofun, hG.call13 (hanc 6 (by decide +kernel)).1 (hanc 7 (by decide +kernel)).1 hdi HWE2.out HB.out.apart HB.out.ref.lt hd' hf' hr' hg' hbxG hbx0, trivial⟩
    | 14, _, _ =>
      have t23 : a.tmps.getD 23 undef = x 7 := (hanc 7 (by decide +kernel)).2.1
      have d7 : d 7 = true := (hanc 7 (by decide +kernel)).1
      have u23 := (Array.getD_eq_getD_getElem? (xs := a.tmps) (i := 23) (d := undef)).symm.trans t23
      have t29 : a.tmps.getD 29 undef = x 13 := (hanc 13 (by decide +kernel)).2.1
      have d13 : d 13 = true := (hanc 13 (by decide +kernel)).1
      have u29 := (Array.getD_eq_getD_getElem? (xs := a.tmps) (i := 29) (d := undef)).symm.trans t29
      have e7 := (hG.c7 d7).1
      have e13 := (hG.c13 d13).1
      rw [e7] at t23 u23
      rw [e13] at t29 u29
      exact pstep_det rfl (wanted_none rfl) rfl rfl (by simp [go_sem, t23, u23, t29, u29]) (hG.other (by decide)) hb
    | (k + 15), _, h => exact absurd h (by omega)
  intro d x w' hb hall hG
  have z0 := (hall 0 (by omega) (by omega)).2 _ rfl
  have z1 := (hall 1 (by omega) (by omega)).2 _ rfl
  have z2 := (hall 2 (by omega) (by omega)).2 _ rfl
  have z4 := (hall 4 (by omega) (by omega)).2 _ rfl
  have z5 := (hall 5 (by omega) (by omega)).2 _ rfl
  have z8 := (hall 8 (by omega) (by omega)).2 _ rfl
  have z9 := (hall 9 (by omega) (by omega)).2 _ rfl
  have z10 := (hall 10 (by omega) (by omega)).2 _ rfl
  have z11 := (hall 11 (by omega) (by omega)).2 _ rfl
  have z12 := (hall 12 (by omega) (by omega)).2 _ rfl
  have z14 := (hall 14 (by omega) (by omega)).2 _ rfl
  simp only [pfill, rdst, Nat.reduceAdd, List.getElem?_toArray, List.getElem?_cons_zero, List.getElem?_cons_succ, Option.bind_some, Act.put, List.setIfInBounds_toArray, List.set_cons_zero, List.set_cons_succ, List.drop_succ_cons, List.drop_zero]
  rw [z0, z1, z2, z4, z5, z8, z9, z10, z11, z12, z14]
  clear z0 z1 z2 z4 z5 z8 z9 z10 z11 z12 z14
  refine phase_seq (by decide) (by kernel_rfl) ?_
  obtain ⟨e13, F', G', hd', hr', hap, hfr⟩ := hG.c13 (hall 13 (by omega) (by omega)).1
  have hfin : Hid (RE (.returned (.bool true)) w') := by
    show RE _ _
    rw [HRE.out]
    have hrel := (HH.out.rel.write at_ b).2
    refine ⟨rfl, F', G', _, _, ⟨hd', hr', hap, hrel, ?_, ?_⟩, ?_⟩
    · have := RS.write_len (R := R) at_ b
      have := HH.out.len
      omega
    · rw [RS.write_left]
      have := HH.out.left
      omega
    · exact (Fr.below HBD.out).trans hfr
  clear hd' hr' hap hfr hG hall hb e13
  simp only [List.drop_succ_cons, List.drop_zero]
  go_wp2_with fail
  exact hfin.out
end Go.Proofs.Ytfngadidlmbfdaa
