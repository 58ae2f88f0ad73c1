/-
  One call of both disks: the others.
-/
import Derived.Test.YtfngadidlmbfdaaDA1
namespace Go.Proofs.Ytfngadidlmbfdaa
open Go.RowKit
set_option linter.unusedVariables false
set_option linter.unusedSimpArgs false
/-- What stands in the box of a call, and all that is known, when the walk begins. -/
structure DoesIn (w : World) (F G : Nat → Prop) (q r B : Nat) (S : DS) (R : RS) (a : ActD) (W : World) (bx : Nat) : Prop where
  new : Below w.heap.size w W
  both : Both W F G q r S R B
  at_ : bx = w.heap.size ∧ bx < W.heap.size
  box : W.heap[bx]? = some (.cells a.cells.toArray 46 (0, 0))
theorem DoesIn.mk' {w : World} {F G : Nat → Prop} {q r B : Nat} {S : DS} {R : RS} (h : Both w F G q r S R B) (a : ActD) : DoesIn w F G q r B S R a (w.alloc (.cells a.cells.toArray 46)) w.heap.size := by
  have hb : Below w.heap.size w (w.alloc (.cells a.cells.toArray 46)) := (Below.refl w.heap.size w).alloc (Nat.le_refl _) _
  exact ⟨hb, ⟨h.disk.below hb, h.ref.below hb, h.apart, h.rel, h.len, h.left⟩, ⟨rfl, by simp⟩, heap_alloc_new w _⟩
theorem DoesIn.off {w W : World} {F G : Nat → Prop} {q r B bx : Nat} {S : DS} {R : RS} {a : ActD} (h : DoesIn w F G q r B S R a W bx) (hb : Both w F G q r S R B) : ¬ F bx ∧ ¬ G bx :=
  ⟨fun z => by have := hb.disk.lt _ z; have := h.at_.1; omega, fun z => by have := hb.ref.lt _ z; have := h.at_.1; omega⟩
theorem box_cells {W : World} {bx : Nat} {a : ActD} (h : W.heap[bx]? = some (.cells a.cells.toArray 46 (0, 0))) : W.cell? ⟨bx, 0, none⟩ = some (.int .i64 a.kind) ∧ W.cell? ⟨bx, 1, none⟩ = some (.int .i64 a.at_) ∧ W.cell? ⟨bx, 2, none⟩ = some (.slice a.BA a.B.length a.BC) ∧ W.cell? ⟨bx, 3, none⟩ = some (.slice a.KA a.K.length a.KC) := by
  have hc := fun i => cell_of_row W bx i _ _ _ h
  exact ⟨hc 0, hc 1, hc 2, hc 3⟩
/-- Two calls one behind the other: what the second leaves of the first. -/
theorem Both.next {w w1 w2 : World} {F G F1 G1 : Nat → Prop} {q r B : Nat} {S S1 : DS} {R R1 : RS} (h : Both w F G q r S R B) (hd : DiskAt w1 F1 q S1) (hf : Fr F F1 w w1) (hr : RefAt w2 G1 r R1) (hg : Fr G G1 w1 w2) (hrel : Rel S1 R1)
    (hlen : R1.fs.length + R1.since.length ≤ 5000 + (B + 1)) (hleft : -((B + 1 : Nat) : Int) ≤ R1.left) : Both w2 F1 G1 q r S1 R1 (B + 1) ∧ Fr (fun k => F k ∨ G k) (fun k => F1 k ∨ G1 k) w w2 := by
  have hFG : ∀ k, F1 k → ¬ G k := fun k hk hG => (hf.sub k hk).elim (fun z => h.apart k z hG) (fun z => by have := h.ref.lt k hG; omega)
  refine ⟨⟨hd.kept (fun k hk => hg.block k (hd.lt k hk) (hFG k hk)), hr, fun k hk hk' => ?_, hrel, hlen, hleft⟩, ?_⟩
  · rcases hg.sub k hk' with z | z
    · exact hFG k hk z
    · have := hd.lt k hk; omega
  · refine ⟨hg.os.trans hf.os, hg.tape.trans hf.tape, hg.output.trans hf.output, Nat.le_trans hf.size hg.size, fun k hk hn => (hg.block k (Nat.lt_of_lt_of_le hk hf.size) (fun z => hn (.inr z))).trans (hf.block k hk (fun z => hn (.inl z))), ?_⟩
    rintro k (hk | hk)
    · exact (hf.sub k hk).elim (fun z => .inl (.inl z)) .inr
    · exact (hg.sub k hk).elim (fun z => .inl (.inr z)) (fun z => .inr (Nat.le_trans hf.size z))
theorem Both.refKept {w w1 : World} {F G F1 : Nat → Prop} {q r B : Nat} {S : DS} {R : RS} (h : Both w F G q r S R B) (hf : Fr F F1 w w1) : RefAt w1 G r R := h.ref.kept (fun k hk => hf.block k (h.ref.lt k hk) (fun z => h.apart k z hk)) hf.size
/-- The bytes of a row that was just handed back, as one text. -/
theorem conv_v {w : World} {v : Value} {xs : List Int} (h : RdV (Value.int .u8) w v xs) : (convert 33 9 v).run Try.prog w = .ok (.string (strOfNums xs)) w := by
  obtain ⟨A, c, rfl, _, _, hr⟩ := h
  exact conv_rd w hr rfl
theorem rdv_kept {w w' : World} {v : Value} {xs : List Int} (h : RdV (Value.int .u8) w v xs) (hk : ∀ (A : Addr) (n c : Nat), v = .slice (some A) n c → w'.heap[A.block]? = w.heap[A.block]?) : RdV (Value.int .u8) w' v xs := by
  obtain ⟨A, c, e, h1, h2, hr⟩ := h
  refine ⟨A, c, e, h1, h2, fun hn => ?_⟩
  obtain ⟨g, o, rfl, hc⟩ := hr hn
  refine ⟨g, o, rfl, fun j hj => ?_⟩
  rw [← hc j hj]
  exact World.cell?_of_block (w := w) (hk ⟨g, o, none⟩ _ _ e)
set_option maxRecDepth 100000 in
set_option maxHeartbeats 4000000 in
theorem does_flush {w : World} {F G : Nat → Prop} {q r B : Nat} {S : DS} {R : RS} (h : Both w F G q r S R B) (hB : B ≤ 1000000) (a : ActD) (ha : ActIn w a) (ho : ActOff (fun k => F k ∨ G k) a) (hk : a.kind = 2) : Calls Try.prog 25 #[.pointer (some ⟨q, 0, none⟩), .pointer (some ⟨r, 0, none⟩), .agg a.cells.toArray] w (RetBoth w F G q r B (.bool true)) := by
  have HI := Lib.hid (DoesIn.mk' h a); have HH := Lib.hid h; have HOFF := Lib.hid (HI.out.off h); have HA := Lib.hid ha; have HO := Lib.hid ho; obtain ⟨RE, hRE⟩ : ∃ RE, RE = RetBoth w F G q r B (.bool true) := ⟨_, rfl⟩; rw [← hRE]; have HRE := Lib.hid hRE; clear hRE h ha ho; obtain ⟨As, hAs⟩ : ∃ As, As = a.cells.toArray := ⟨_, rfl⟩; have HAs := Lib.hid hAs; rw [← hAs] at HI ⊢; have HBOX := Lib.hid HI.out.box; have HBC := Lib.hid (fun (W : World) (hk : W.heap[w.heap.size]? = (w.alloc (.cells As 46)).heap[w.heap.size]?) => box_cells (a := a) (hk.trans HBOX.out)); obtain ⟨d0, d1, d2, d3⟩ := HBC.out _ rfl; obtain ⟨kd, hkd⟩ : ∃ kd, kd = a.kind := ⟨_, rfl⟩; rw [← hkd] at d0 hk; clear hkd hAs
  subst hk
  go_enter Try.func25, Try.ntmps25
  go_wp2_with fail
  refine (disk_flush HI.out.both.disk).mono ?_
  rintro e w1 ⟨rfl, F1, hd1, hf1⟩
  have HD1 := Lib.hid hd1
  have HF1 := Lib.hid hf1
  have HR1 := Lib.hid (HI.out.both.refKept hf1)
  clear hd1 hf1 d0 d1 d2 d3
  obtain ⟨E, hE⟩ : ∃ E, E = S.callE := ⟨_, rfl⟩
  have hE2 : (if R.call.dead = true then (190 : Int) else 0) = E := by rw [hE]; exact HH.out.rel.call.2.symm
  rw [← hE]
  clear hE
  have hcw := ref_flush HR1.out (by have := HH.out.left; omega) (by have := HH.out.len; omega)
  rw [hE2] at hcw
  have HCW := Lib.hid hcw; clear hcw hE2
  go_wp2_with fail
  refine HCW.out.mono ?_
  rintro e w2 ⟨rfl, G1, hr2, hg2⟩
  have hfin : Hid (RE (.returned (.bool true)) w2) := by
    show RE _ _
    rw [HRE.out]
    obtain ⟨hb, hf⟩ := HI.out.both.next HD1.out HF1.out hr2 hg2 HH.out.rel.flush (by have := RS.flush_len (R := R); have := HH.out.len; omega) (by rw [RS.flush_left]; have := HH.out.left; omega)
    exact ⟨rfl, F1, G1, _, _, hb, (Fr.below HI.out.new).trans hf⟩
  clear hr2 hg2 HCW
  go_wp2_with fail
  exact hfin.out
set_option maxRecDepth 100000 in
set_option maxHeartbeats 4000000 in
theorem does_arm {w : World} {F G : Nat → Prop} {q r B : Nat} {S : DS} {R : RS} (h : Both w F G q r S R B) (hB : B ≤ 1000000) (a : ActD) (ha : ActIn w a) (ho : ActOff (fun k => F k ∨ G k) a) (hk : a.kind = 3) : Calls Try.prog 25 #[.pointer (some ⟨q, 0, none⟩), .pointer (some ⟨r, 0, none⟩), .agg a.cells.toArray] w (RetBoth w F G q r B (.bool true)) := by
  have hat := ha.at_
  have HI := Lib.hid (DoesIn.mk' h a); have HH := Lib.hid h; have HOFF := Lib.hid (HI.out.off h); have HA := Lib.hid ha; have HO := Lib.hid ho; obtain ⟨RE, hRE⟩ : ∃ RE, RE = RetBoth w F G q r B (.bool true) := ⟨_, rfl⟩; rw [← hRE]; have HRE := Lib.hid hRE; clear hRE h ha ho; obtain ⟨As, hAs⟩ : ∃ As, As = a.cells.toArray := ⟨_, rfl⟩; have HAs := Lib.hid hAs; rw [← hAs] at HI ⊢; have HBOX := Lib.hid HI.out.box; have HBC := Lib.hid (fun (W : World) (hk : W.heap[w.heap.size]? = (w.alloc (.cells As 46)).heap[w.heap.size]?) => box_cells (a := a) (hk.trans HBOX.out)); obtain ⟨d0, d1, d2, d3⟩ := HBC.out _ rfl; obtain ⟨kd, hkd⟩ : ∃ kd, kd = a.kind := ⟨_, rfl⟩; rw [← hkd] at d0 hk; clear hkd hAs
  subst hk
  obtain ⟨n, hn⟩ : ∃ n, n = a.at_ := ⟨_, rfl⟩
  rw [← hn] at d1 hat
  have HN := Lib.hid hn; clear hn
  go_enter Try.func25, Try.ntmps25
  go_wp2_with fail
  refine (disk_arm HI.out.both.disk n hat.2).mono ?_
  rintro e w1 ⟨rfl, F1, hd1, hf1⟩
  have HD1 := Lib.hid hd1
  have HF1 := Lib.hid hf1
  have HR1 := Lib.hid (HI.out.both.refKept hf1)
  clear d0 d1 d2 d3
  obtain ⟨d0, d1, d2, d3⟩ := HBC.out w1 (hf1.block _ (by simp) HOFF.out.1)
  rw [← HN.out] at d1
  clear hd1 hf1
  go_wp2_with fail
  refine (ref_arm HR1.out n hat.2).mono ?_
  rintro e w2 ⟨rfl, G1, hr2, hg2⟩
  have hfin : Hid (RE (.returned (.bool true)) w2) := by
    show RE _ _
    rw [HRE.out]
    obtain ⟨hb, hf⟩ := HI.out.both.next HD1.out HF1.out hr2 hg2 (HH.out.rel.arm n) (by have := HH.out.len; show R.fs.length + R.since.length ≤ _; omega) (by show _ ≤ max n 0; omega)
    exact ⟨rfl, F1, G1, _, _, hb, (Fr.below HI.out.new).trans hf⟩
  clear hr2 hg2 d0 d1 d2 d3
  go_wp2_with fail
  exact hfin.out
set_option maxRecDepth 100000 in
set_option maxHeartbeats 4000000 in
theorem does_else {w : World} {F G : Nat → Prop} {q r B : Nat} {S : DS} {R : RS} (h : Both w F G q r S R B) (hB : B ≤ 1000000) (a : ActD) (ha : ActIn w a) (ho : ActOff (fun k => F k ∨ G k) a) (hk : ¬ (a.kind = 0 ∨ a.kind = 1 ∨ a.kind = 2 ∨ a.kind = 3 ∨ a.kind = 4)) : Calls Try.prog 25 #[.pointer (some ⟨q, 0, none⟩), .pointer (some ⟨r, 0, none⟩), .agg a.cells.toArray] w (RetBoth w F G q r B (.bool true)) := by
  have HI := Lib.hid (DoesIn.mk' h a); have HH := Lib.hid h; have HOFF := Lib.hid (HI.out.off h); have HA := Lib.hid ha; have HO := Lib.hid ho; obtain ⟨RE, hRE⟩ : ∃ RE, RE = RetBoth w F G q r B (.bool true) := ⟨_, rfl⟩; rw [← hRE]; have HRE := Lib.hid hRE; clear hRE h ha ho; obtain ⟨As, hAs⟩ : ∃ As, As = a.cells.toArray := ⟨_, rfl⟩; have HAs := Lib.hid hAs; rw [← hAs] at HI ⊢; have HBOX := Lib.hid HI.out.box; have HBC := Lib.hid (fun (W : World) (hk : W.heap[w.heap.size]? = (w.alloc (.cells As 46)).heap[w.heap.size]?) => box_cells (a := a) (hk.trans HBOX.out)); obtain ⟨d0, d1, d2, d3⟩ := HBC.out _ rfl; obtain ⟨kd, hkd⟩ : ∃ kd, kd = a.kind := ⟨_, rfl⟩; rw [← hkd] at d0 hk; clear hkd hAs
  have k0 : (kd == 0) = false := by simp; omega
  have k1 : (kd == 1) = false := by simp; omega
  have k2 : (kd == 2) = false := by simp; omega
  have k3 : (kd == 3) = false := by simp; omega
  have k4 : (kd == 4) = false := by simp; omega
  clear hk
  have hfin : Hid (RE (.returned (.bool true)) (w.alloc (.cells As 46))) := by
    show RE _ _
    rw [HRE.out]
    have hb := HI.out.both
    exact ⟨rfl, F, G, S, R, ⟨hb.disk, hb.ref, hb.apart, hb.rel, by have := hb.len; omega, by have := hb.left; omega⟩, Fr.below HI.out.new⟩
  go_enter Try.func25, Try.ntmps25
  go_wp2_with fail
  exact hfin.out
end Go.Proofs.Ytfngadidlmbfdaa
