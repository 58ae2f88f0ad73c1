/-
  A new disk: made, New.
-/
import Derived.Test.YtfngadidlmbfdaaDisk3
namespace Go.Proofs.Ytfngadidlmbfdaa
open Go.RowKit Go.ChangeMaps
set_option linter.unusedVariables false
set_option linter.unusedSimpArgs false
def DS.new (n : Int) : DS := { n := (min (max n 0) 4096).toNat, fast := fun _ => zeroSec, since := [], left := -1, dead := false }
theorem DS.new_ok (n : Int) : (DS.new n).Ok := ⟨by simp only [DS.new]; omega, fun _ => zeroSec_len, by simp [DS.new], by simp [DS.new], by simp [DS.new]⟩
/-- A call that hands back a new disk. -/
def RetNew (w : World) (S : DS) (e : Ending) (w' : World) : Prop := ∃ d F, e = .returned (.pointer (some ⟨d, 0, none⟩)) ∧ DiskAt w' F d S ∧ (∀ k, F k → w.heap.size ≤ k) ∧ Below w.heap.size w w'
theorem new_at (n N : Int) (w : World) (hN : N = min (max n 0) 4096) : RetNew w (DS.new n) (.returned (.pointer (some ⟨w.heap.size + 1, 0, none⟩))) ((w.alloc (.map #[] 0)).alloc (.cells #[.int .i64 N, .map (some w.heap.size), .slice none 0 0, .int .i64 (-1), .bool false] 132)) := by
  have hsz : (w.alloc (.map #[] 0)).heap.size = w.heap.size + 1 := by simp
  have h1 := heap_alloc_new (w.alloc (.map #[] 0)) (.cells #[.int .i64 N, .map (some w.heap.size), .slice none 0 0, .int .i64 (-1), .bool false] 132)
  rw [hsz] at h1
  have hn : N = ((DS.new n).n : Int) := by rw [hN]; simp only [DS.new]; omega
  refine ⟨w.heap.size + 1, fun k => k = w.heap.size + 1 ∨ k = w.heap.size ∨ (Value.slice none 0 0).ownBlock = some k, rfl, ⟨w.heap.size, .slice none 0 0, fun _ => none, ?_, (MapI.new w).kept ?_, fun z => rfl, own_nil _ _ _ _, rfl, DS.new_ok n⟩, ?_, ?_⟩
  · rw [← hn]; exact h1
  · exact heap_alloc_old _ _ (by simp)
  · rintro k (rfl | rfl | h)
    · omega
    · omega
    · simp [Value.ownBlock] at h
  · exact ((Below.refl w.heap.size w).alloc (Nat.le_refl _) _).alloc (by simp) _
set_option maxRecDepth 100000 in
theorem disk_made (n : Int) (w : World) (hn : -9223372036854775808 ≤ n ∧ n ≤ 9223372036854775807) : Calls Try.prog 80 #[.int .i64 n] w (RetNew w (DS.new n)) := by
  have hmm := @run_makeMap Try.prog
  go_enter Try.func80, Try.ntmps80
  go_wp2_with fail
  all_goals go_ret
  all_goals exact new_at n _ w (by omega)
set_option maxRecDepth 100000 in
theorem disk_new (n : Int) (w : World) (hn : -9223372036854775808 ≤ n ∧ n ≤ 9223372036854775807) : Calls Try.prog 38 #[.int .i64 n] w (RetNew w (DS.new n)) := by
  go_enter Try.func38, Try.ntmps38
  go_wp2_with fail
  refine (disk_made n w hn).mono ?_
  rintro e w1 ⟨d, F, rfl, h1, h2, h3⟩
  have H := Lib.hid (And.intro h1 (And.intro h2 h3)); clear h1 h2 h3
  go_wp2_with fail
  go_ret
  exact ⟨d, F, rfl, H.out.1, H.out.2.1, H.out.2.2⟩
end Go.Proofs.Ytfngadidlmbfdaa
