/-
  The disk's plain answers, that turn no world; lives.
-/
import Derived.Test.YtfngadidlmbfdaaDA4
import Derived.Lib.SlBytesConst
namespace Go.Proofs.Ytfngadidlmbfdaa
open Go.RowKit
set_option linter.unusedVariables false
set_option linter.unusedSimpArgs false
section
variable {w : World} {F : Nat → Prop} {d : Nat} {S : DS}
set_option maxRecDepth 100000 in
theorem disk_deadS (h : DiskAt w F d S) : Calls Try.prog 27 #[.pointer (some ⟨d, 0, none⟩)] w (fun e w' => e = .returned (.bool S.dead) ∧ w' = w) := by
  have H := Lib.hid h; clear h
  obtain ⟨m, sv, hc⟩ := H.out.dcells
  obtain ⟨⟨c0, c1, c2, c3, c4⟩, _⟩ := hc.cells
  clear hc
  go_enter Try.func27, Try.ntmps27
  go_wp2_with fail
  go_ret
  exact ⟨rfl, rfl⟩
set_option maxRecDepth 100000 in
theorem disk_sectorsS (h : DiskAt w F d S) : Calls Try.prog 24 #[.pointer (some ⟨d, 0, none⟩)] w (fun e w' => e = .returned (.int .i64 (S.n : Int)) ∧ w' = w) := by
  have H := Lib.hid h; clear h
  obtain ⟨m, sv, hc⟩ := H.out.dcells
  obtain ⟨⟨c0, c1, c2, c3, c4⟩, _⟩ := hc.cells
  clear hc
  go_enter Try.func24, Try.ntmps24
  go_wp2_with fail
  go_ret
  exact ⟨rfl, rfl⟩
set_option maxRecDepth 100000 in
theorem disk_pendingS (h : DiskAt w F d S) : Calls Try.prog 26 #[.pointer (some ⟨d, 0, none⟩)] w (fun e w' => e = .returned (.int .i64 (S.since.length : Int)) ∧ w' = w) := by
  have H := Lib.hid h; clear h
  obtain ⟨m, sv, f, hc, _, _, ho, _⟩ := H.out
  obtain ⟨A, c, rfl, _⟩ := own_form ho
  obtain ⟨⟨c0, c1, c2, c3, c4⟩, _⟩ := DCells.cells hc
  clear hc ho
  go_enter Try.func26, Try.ntmps26
  go_wp2_with fail
  go_ret
  exact ⟨rfl, rfl⟩
end
/-! ### lives -/
def L0 : DS := DS.new 4
def L1 : DS := L0.write 0 [97]
def L2 : DS := L1.flush
def L3 : DS := L2.write 0 [98]
def L4 : DS := L3.write 1 [99]
def L5 : DS := L4.crash [false, true]
theorem l_w0 : L0.writeE 0 [97] = 0 := by rfl
theorem l_f1 : L1.callE = 0 := by rfl
theorem l_w2 : L2.writeE 0 [98] = 0 := by rfl
theorem l_w3 : L3.writeE 1 [99] = 0 := by rfl
theorem l_b0 : L5.bytes 0 = pad512 [97] := by rfl
theorem l_b1 : L5.bytes 1 = pad512 [99] := by rfl
theorem l_p5 : L5.since.length = 0 := by rfl
theorem l_r0 : L0.since.length < 1000000000 := by decide
theorem l_r2 : L2.since.length < 1000000000 := by decide
theorem l_r3 : L3.since.length < 1000000000 := by decide
theorem pad_len1 (x : Int) : (pad512 [x]).length = 512 := by unfold pad512; rw [List.length_append, List.length_replicate]; rfl
theorem rd_one (w : World) (x : Int) : Rd (Value.int .u8) (w.alloc (.cells #[.int .u8 x] 5 (1, 2))) (some ⟨w.heap.size, 0, none⟩) [x] := rd_block (heap_alloc_new w (.cells #[.int .u8 x] 5 (1, 2)))
/-- A row of one byte and noughts, opened at its first byte. -/
theorem row_first {w w' : World} {xs : List Int} {x : Int} {e : Ending} (hx : xs = pad512 [x]) (h : RetBytes w xs e w') : ∃ g c, e = .returned (.slice (some ⟨g, 0, none⟩) 512 c) ∧ w'.cell? ⟨g, 0, none⟩ = some (.int .u8 x) ∧ Below w.heap.size w w' := by
  obtain ⟨v, rfl, _, hb, ho⟩ := h
  have hl : xs.length = 512 := by rw [hx]; exact pad_len1 x
  have ho := ho (fun e => by rw [e] at hl; cases hl)
  rw [hl] at ho
  obtain ⟨g, c, rfl, _, _, _, _, hc⟩ := own_open ho (by omega)
  have h0 := hc 0 (by simp [hl])
  refine ⟨g, c, rfl, ?_, hb⟩
  rw [h0]
  subst hx
  rfl
/-- The disk after a call of lives: all that it wrote is new. -/
structure LSt5 (w0 w : World) (d : Nat) (F : Nat → Prop) (S : DS) : Prop where
  disk : DiskAt w F d S
  foot : ∀ k, F k → w0.heap.size ≤ k
  below : Below w0.heap.size w0 w
theorem LSt5.alloc {w0 w : World} {d : Nat} {F : Nat → Prop} {S : DS} (h : LSt5 w0 w d F S) (o : Obj) : LSt5 w0 (w.alloc o) d F S :=
  ⟨h.disk.below ((Below.refl _ w).alloc (Nat.le_refl _) o), h.foot, h.below.alloc h.below.size o⟩
theorem LSt5.step {w0 w w1 : World} {d : Nat} {F F1 : Nat → Prop} {S S1 : DS} (h : LSt5 w0 w d F S) (hd : DiskAt w1 F1 d S1) (hf : Fr F F1 w w1) : LSt5 w0 w1 d F1 S1 :=
  ⟨hd, fun k hk => (hf.sub k hk).elim (h.foot k) (fun z => Nat.le_trans h.below.size z), h.below.trans (hf.toBelow h.foot h.below.size)⟩
theorem LSt5.off {w0 w : World} {d : Nat} {F : Nat → Prop} {S : DS} (h : LSt5 w0 w d F S) {A : Option Addr} (hA : A = some ⟨w.heap.size, 0, none⟩) : ∀ a, A = some a → ¬ F a.block := fun a ha hF => by
  rw [hA] at ha
  injection ha with ha
  have := h.disk.lt _ hF
  rw [← ha] at this
  exact absurd this (Nat.lt_irrefl _)
def RetL (w : World) (v : Value) (e : Ending) (w' : World) : Prop := e = .returned v ∧ Below w.heap.size w w'
set_option maxRecDepth 100000 in
set_option maxHeartbeats 4000000 in
theorem lives19_ok (w : World) : Calls Try.prog 30 #[] w (RetL w (.bool true)) := by
  obtain ⟨RE, hRE⟩ : ∃ RE, RE = RetL w (.bool true) := ⟨_, rfl⟩
  rw [← hRE]
  have HRE := Lib.hid hRE; clear hRE
  go_enter Try.func30, Try.ntmps30
  go_wp2_with fail
  refine (disk_new 4 w (by omega)).mono ?_
  rintro e w1 ⟨d, F, rfl, hd, hF, hb⟩
  have H1 : Hid (LSt5 w w1 d F L0) := ⟨hd, hF, hb⟩
  clear hd hF hb
  have kc := fun (w : World) (C : Array Value) (n c : Nat) => Lib.run_convert_bytes_const (P := Try.prog) w 33 5 C n c Try.underlying33 Try.underlying5
  have hw := disk_write (H1.out.alloc (.cells #[.int .u8 97] 5 (1, 2))).disk 0 _ [97] 1 (rd_one w1 97) (by decide) (H1.out.off rfl) l_r0
  rw [l_w0] at hw
  have HW := Lib.hid hw; clear hw
  have H1 := Lib.hid (H1.out.alloc (.cells #[.int .u8 97] 5 (1, 2)))
  go_wp2_with fail
  refine HW.out.mono ?_
  clear HW
  rintro e w2 ⟨rfl, F2, hd2, hf2⟩
  have H2 : Hid (LSt5 w w2 d F2 L1) := H1.out.step hd2 hf2
  clear hd2 hf2 H1
  have hw := disk_flush H2.out.disk
  rw [l_f1] at hw
  have HW := Lib.hid hw; clear hw
  go_wp2_with fail
  refine HW.out.mono ?_
  clear HW
  rintro e w3 ⟨rfl, F3, hd3, hf3⟩
  have H3 : Hid (LSt5 w w3 d F3 L2) := H2.out.step hd3 hf3
  clear hd3 hf3 H2
  have hw := disk_write (H3.out.alloc (.cells #[.int .u8 98] 5 (1, 2))).disk 0 _ [98] 1 (rd_one w3 98) (by decide) (H3.out.off rfl) l_r2
  rw [l_w2] at hw
  have HW := Lib.hid hw; clear hw
  have H3 := Lib.hid (H3.out.alloc (.cells #[.int .u8 98] 5 (1, 2)))
  go_wp2_with fail
  refine HW.out.mono ?_
  clear HW
  rintro e w4 ⟨rfl, F4, hd4, hf4⟩
  have H4 : Hid (LSt5 w w4 d F4 L3) := H3.out.step hd4 hf4
  clear hd4 hf4 H3
  have hw := disk_write (H4.out.alloc (.cells #[.int .u8 99] 5 (1, 2))).disk 1 _ [99] 1 (rd_one w4 99) (by decide) (H4.out.off rfl) l_r3
  rw [l_w3] at hw
  have HW := Lib.hid hw; clear hw
  have H4 := Lib.hid (H4.out.alloc (.cells #[.int .u8 99] 5 (1, 2)))
  go_wp2_with fail
  refine HW.out.mono ?_
  clear HW
  rintro e w5 ⟨rfl, F5, hd5, hf5⟩
  have H5 : Hid (LSt5 w w5 d F5 L4) := H4.out.step hd5 hf5
  clear hd5 hf5 H4
  have hcr := disk_crash (H5.out.alloc (.cells #[.bool false, .bool true] 4)).disk (some ⟨w5.heap.size, 0, none⟩) [false, true] 2 (rd_block (heap_alloc_new w5 (.cells #[.bool false, .bool true] 4))) (H5.out.off rfl)
  have HW := Lib.hid hcr; clear hcr
  have H5 := Lib.hid (H5.out.alloc (.cells #[.bool false, .bool true] 4))
  go_wp2_with fail
  refine HW.out.mono ?_
  clear HW
  rintro e w6 ⟨rfl, F6, hd6, hf6⟩
  have H6 : Hid (LSt5 w w6 d F6 L5) := H5.out.step hd6 hf6
  clear hd6 hf6 H5
  have HW := Lib.hid (disk_bytes H6.out.disk 0)
  go_wp2_with fail
  refine HW.out.mono ?_
  clear HW
  intro e w7 h
  obtain ⟨g7, c7, rfl, hc7, hb7⟩ := row_first l_b0 h
  clear h
  have H7 : Hid (LSt5 w w7 d F6 L5) := ⟨H6.out.disk.below hb7, H6.out.foot, H6.out.below.trans (hb7.mono H6.out.below.size)⟩
  have HC7 := Lib.hid hc7
  clear hb7 hc7 H6
  have HW := Lib.hid (disk_bytes H7.out.disk 1)
  go_wp2_with fail
  refine HW.out.mono ?_
  clear HW
  intro e w8 h
  obtain ⟨g8, c8, rfl, hc8, hb8⟩ := row_first l_b1 h
  clear h
  have H8 : Hid (LSt5 w w8 d F6 L5) := ⟨H7.out.disk.below hb8, H7.out.foot, H7.out.below.trans (hb8.mono H7.out.below.size)⟩
  have hc7 : w8.cell? ⟨g7, 0, none⟩ = some (.int .u8 97) := by rw [← HC7.out]; exact World.cell?_of_block (w := w7) (hb8.block _ (block_lt_of_cell HC7.out))
  clear hb8 HC7 H7
  have hp := disk_pendingS H8.out.disk
  rw [l_p5] at hp
  have HP := Lib.hid hp; clear hp
  go_wp2_with fail
  refine HP.out.mono ?_
  clear HP
  rintro e w9 ⟨rfl, rfl⟩
  have hfin : Hid (RE (.returned (.bool true)) w9) := by show RE _ _; rw [HRE.out]; exact ⟨rfl, H8.out.below⟩
  go_wp2_with fail
  exact hfin.out
end Go.Proofs.Ytfngadidlmbfdaa
