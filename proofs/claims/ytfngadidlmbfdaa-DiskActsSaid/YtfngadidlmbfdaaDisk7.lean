/-
  A disk's Flush and Crash.
-/
import Derived.Test.YtfngadidlmbfdaaDisk6
namespace Go.Proofs.Ytfngadidlmbfdaa
open Go.RowKit Go.ChangeMaps
set_option linter.unusedVariables false
set_option linter.unusedSimpArgs false
def DS.flush (S : DS) : DS := if S.callE = 0 then S.call.keeps (fun _ => true) else S.call
def DS.crash (S : DS) (ks : List Bool) : DS := { S.keeps (keepB ks) with left := -1, dead := false }
set_option maxRecDepth 100000 in
theorem disk_flush {w : World} {F : Nat → Prop} {q : Nat} {S : DS} (h : DiskAt w F q S) : Calls Try.prog 87 #[.pointer (some ⟨q, 0, none⟩)] w (RetDisk w F q (.int .i64 S.callE) S.flush) := by
  have H1 := Lib.hid (disk_call h)
  have H := Lib.hid h; clear h
  obtain ⟨E, hE⟩ : ∃ E, E = S.callE := ⟨_, rfl⟩
  have e1 : Hid (S.flush = if E = 0 then S.call.keeps (fun _ => true) else S.call) := by show _ = _; rw [hE]; rfl
  rw [← hE] at H1 ⊢
  clear hE
  go_enter Try.func87, Try.ntmps87
  go_wp2_with fail
  refine H1.out.mono ?_
  rintro e w1 ⟨rfl, F1, hd1, hf1⟩
  have HD1 := Lib.hid hd1; clear hd1
  have HF1 := Lib.hid hf1; clear hf1
  by_cases h0 : E = 0
  · subst h0
    go_wp2_with fail
    refine (disk_keepsF HD1.out).mono ?_
    rintro e w2 ⟨rfl, F2, hd2, hf2⟩
    have HD2 := Lib.hid hd2; clear hd2
    have HF2 := Lib.hid (HF1.out.trans hf2); clear hf2
    go_wp2_with fail
    go_ret
    exact ⟨rfl, F2, by rw [e1.out, if_pos trivial]; exact HD2.out, HF2.out⟩
  · go_wp2_with fail
    go_ret
    exact ⟨rfl, F1, by rw [e1.out, if_neg h0]; exact HD1.out, HF1.out⟩
set_option maxRecDepth 100000 in
theorem disk_crash {w : World} {F : Nat → Prop} {q : Nat} {S : DS} (h : DiskAt w F q S) (A : Option Addr) (ks : List Bool) (c : Nat) (hr : Rd Value.bool w A ks) (hA : ∀ a, A = some a → ¬ F a.block) :
    Calls Try.prog 45 #[.pointer (some ⟨q, 0, none⟩), .slice A ks.length c] w (RetDisk w F q (.tuple #[]) (S.crash ks)) := by
  have H := Lib.hid h; clear h
  have hb : Hid (Below w.heap.size w (w.alloc (.cells #[.slice A ks.length c] 44))) := (Below.refl w.heap.size w).alloc (Nat.le_refl _) _
  have hk : Hid (KRd (w.alloc (.cells #[.slice A ks.length c] 44)) F w.heap.size A ks c) :=
    Lib.hid ⟨by rw [cell_of_row _ _ 0 _ _ _ (heap_alloc_new w _)]; rfl, hr.below hb.out, fun hf => by have := H.out.lt _ hf; omega, hA⟩
  have H1 := Lib.hid (H.out.below hb.out)
  clear hr hA
  obtain ⟨W, hW⟩ : ∃ W, W = w.alloc (.cells #[.slice A ks.length c] 44) := ⟨_, rfl⟩
  rw [← hW] at hb hk H1
  have HW := Lib.hid hW; clear hW
  go_enter Try.func45, Try.ntmps45
  go_wp2_with fail
  rw [← HW.out]
  refine (disk_keepsC H1.out hk.out).mono ?_
  rintro e w2 ⟨rfl, F2, hd2, hf2⟩
  have HD2 := Lib.hid hd2; clear hd2
  have HF2 := Lib.hid (((Fr.below hb.out).trans hf2)); clear hf2
  obtain ⟨m, sv, hc⟩ := HD2.out.dcells
  have HC := Lib.hid hc; clear hc
  obtain ⟨⟨c0, c1, c2, c3, c4⟩, hf⟩ := HC.out.cells
  have f3 := hf 3
  have f4 := hf 4
  clear hf
  go_wp2_with fail
  refine ⟨rfl, .tuple #[], by simp [results, Try.results45], rfl, F2, ?_, HF2.out.trans ((Fr.setCell _ _ HD2.out.at_).trans (Fr.setCell _ _ HD2.out.at_))⟩
  refine HD2.out.turn (left := -1) (dead := false) HC.out ?_ (fun k hk => (set_other _ q 3 _ hk).trans (set_other _ q 4 _ hk)) (by decide)
  exact set_same (set_same HC.out)
end Go.Proofs.Ytfngadidlmbfdaa
