/-
  Contract of the reference's Merge: refused at once.
-/
import Derived.Test.YtfngadidlmbfdaaMerge1
import Derived.Test.YtfngadidlmbfdaaNode3
namespace Go.Proofs.Ytfngadidlmbfdaa
open Go.RowKit
set_option linter.unusedSimpArgs false

set_option maxRecDepth 100000 in
set_option maxHeartbeats 2000000 in
theorem rmerge_no1 (la : Bool) (K V C K' V' C' : Option Addr) (ka va : List ByteArray) (ca : List Int) (kc vc cc : Nat) (key : ByteArray) (lb : Bool) (kb vb : List ByteArray) (cb : List Int) (kc' vc' cc' : Nat) (w : World)
    (hk : Rd Value.string w K ka) (hv : Rd Value.string w V va) (hc : Rd (Value.int .i64) w C ca) (hk' : Rd Value.string w K' kb) (hv' : Rd Value.string w V' vb) (hc' : Rd (Value.int .i64) w C' cb)
    (l1 : ka.length ≤ 300) (l2 : va.length ≤ 300) (l3 : ca.length ≤ 300) (l4 : kb.length ≤ 300) (l5 : vb.length ≤ 300) (l6 : cb.length ≤ 300)
    (hno : canB la ka va ca = false ∨ canB lb kb vb cb = false ∨ la ≠ lb) :
    Calls Try.prog 20 #[.agg #[.bool la, .slice K ka.length kc, .slice V va.length vc, .slice C ca.length cc], .string key, .agg #[.bool lb, .slice K' kb.length kc', .slice V' vb.length vc', .slice C' cb.length cc']] w (RetM w false false [] [] []) := by
  have HW := Lib.hid (((Below.refl w.heap.size w).alloc (Nat.le_refl _) (.cells #[.bool la, .slice K ka.length kc, .slice V va.length vc, .slice C ca.length cc] 25)).alloc (by first | omega | (simp; done) | (simp; omega)) (.cells #[.bool lb, .slice K' kb.length kc', .slice V' vb.length vc', .slice C' cb.length cc'] 25) |>.alloc (by first | omega | (simp; done) | (simp; omega)) (.cells #[.bool false, .slice none 0 0, .slice none 0 0, .slice none 0 0] 25))
  have H1 := Lib.hid (fun W (hb : Below w.heap.size w W) => rcan_any la K V C ka va ca kc vc cc W (hk.below hb) (hv.below hb) (hc.below hb) (by omega) (by omega) (by omega))
  have H2 := Lib.hid (fun W (hb : Below w.heap.size w W) => rcan_any lb K' V' C' kb vb cb kc' vc' cc' W (hk'.below hb) (hv'.below hb) (hc'.below hb) (by omega) (by omega) (by omega))
  have B1 : Hid (Blk4 (((w.alloc (.cells #[.bool la, .slice K ka.length kc, .slice V va.length vc, .slice C ca.length cc] 25)).alloc (.cells #[.bool lb, .slice K' kb.length kc', .slice V' vb.length vc', .slice C' cb.length cc'] 25)).alloc (.cells #[.bool false, .slice none 0 0, .slice none 0 0, .slice none 0 0] 25)) w.heap.size 25 (.bool la) (.slice K ka.length kc) (.slice V va.length vc) (.slice C ca.length cc)) :=
    ((blk4_new w _ _ _ _ _).below (below_box _ _)).below (below_box _ _)
  have B2 : Hid (Blk4 (((w.alloc (.cells #[.bool la, .slice K ka.length kc, .slice V va.length vc, .slice C ca.length cc] 25)).alloc (.cells #[.bool lb, .slice K' kb.length kc', .slice V' vb.length vc', .slice C' cb.length cc'] 25)).alloc (.cells #[.bool false, .slice none 0 0, .slice none 0 0, .slice none 0 0] 25)) (w.heap.size + 1) 25 (.bool lb) (.slice K' kb.length kc') (.slice V' vb.length vc') (.slice C' cb.length cc')) := by
    have := (blk4_new (w.alloc (.cells #[.bool la, .slice K ka.length kc, .slice V va.length vc, .slice C ca.length cc] 25)) 25 (.bool lb) (.slice K' kb.length kc') (.slice V' vb.length vc') (.slice C' cb.length cc')).below (below_box _ (.cells #[.bool false, .slice none 0 0, .slice none 0 0, .slice none 0 0] 25))
    simp only [World.size_alloc] at this
    exact this
  have B3 : Hid (Blk4 (((w.alloc (.cells #[.bool la, .slice K ka.length kc, .slice V va.length vc, .slice C ca.length cc] 25)).alloc (.cells #[.bool lb, .slice K' kb.length kc', .slice V' vb.length vc', .slice C' cb.length cc'] 25)).alloc (.cells #[.bool false, .slice none 0 0, .slice none 0 0, .slice none 0 0] 25)) (w.heap.size + 1 + 1) 25 (.bool false) (.slice none 0 0) (.slice none 0 0) (.slice none 0 0)) := by
    have := blk4_new ((w.alloc (.cells #[.bool la, .slice K ka.length kc, .slice V va.length vc, .slice C ca.length cc] 25)).alloc (.cells #[.bool lb, .slice K' kb.length kc', .slice V' vb.length vc', .slice C' cb.length cc'] 25)) 25 (.bool false) (.slice none 0 0) (.slice none 0 0) (.slice none 0 0)
    simp only [World.size_alloc] at this
    exact this
  clear hk hv hc hk' hv' hc'
  cases hA : canB la ka va ca with
  | false =>
    rw [hA] at H1
    clear hA hno
    go_enter Try.func20, Try.ntmps20
    go_wp2_with fail
    refine (H1.out _ HW.out).mono ?_
    rintro e w1 ⟨rfl, hb1⟩
    have HB1 := Lib.hid hb1; clear hb1
    obtain ⟨⟨c0, c1, c2, c3⟩, f0, f1, f2, f3⟩ := (B3.out.below HB1.out).cells
    go_wp2_with fail
    refine bodyPost_ret (v := .tuple #[.agg #[.bool false, .slice none 0 0, .slice none 0 0, .slice none 0 0], .bool false]) (by simp [results, Try.results20, go_sem, c0, c1, c2, c3]) rfl ⟨_, rfl, blkV_zero _, ?_⟩
    exact ((((HW.out.trans (HB1.out.mono (by first | omega | (simp; done) | (simp; omega)))).setCell (by first | omega | (simp; done) | (simp; omega)) _).setCell (by first | omega | (simp; done) | (simp; omega)) _).setCell (by first | omega | (simp; done) | (simp; omega)) _).setCell (by first | omega | (simp; done) | (simp; omega)) _
  | true =>
    rw [hA] at H1
    cases hB : canB lb kb vb cb with
    | false =>
      rw [hB] at H2
      clear hA hB hno
      go_enter Try.func20, Try.ntmps20
      go_wp2_with fail
      refine (H1.out _ HW.out).mono ?_
      rintro e w1 ⟨rfl, hb1⟩
      have HB1 := Lib.hid hb1; clear hb1
      obtain ⟨⟨c0, c1, c2, c3⟩, _⟩ := (B2.out.below HB1.out).cells
      go_wp2_with fail
      refine (H2.out _ (HW.out.trans (HB1.out.mono (by first | omega | (simp; done) | (simp; omega))))).mono ?_
      rintro e w2 ⟨rfl, hb2⟩
      have HB2 := Lib.hid (below_then HB1.out (Nat.le_refl _) hb2); clear hb2 HB1 c0 c1 c2 c3
      obtain ⟨⟨c0, c1, c2, c3⟩, f0, f1, f2, f3⟩ := (B3.out.below HB2.out).cells
      go_wp2_with fail
      refine bodyPost_ret (v := .tuple #[.agg #[.bool false, .slice none 0 0, .slice none 0 0, .slice none 0 0], .bool false]) (by simp [results, Try.results20, go_sem, c0, c1, c2, c3]) rfl ⟨_, rfl, blkV_zero _, ?_⟩
      exact ((((HW.out.trans (HB2.out.mono (by first | omega | (simp; done) | (simp; omega)))).setCell (by first | omega | (simp; done) | (simp; omega)) _).setCell (by first | omega | (simp; done) | (simp; omega)) _).setCell (by first | omega | (simp; done) | (simp; omega)) _).setCell (by first | omega | (simp; done) | (simp; omega)) _
    | true =>
      rw [hB] at H2
      have hne : (la == lb) = false := by
        rcases hno with h | h | h
        · rw [hA] at h; cases h
        · rw [hB] at h; cases h
        · simpa using h
      clear hA hB hno
      go_enter Try.func20, Try.ntmps20
      go_wp2_with fail
      refine (H1.out _ HW.out).mono ?_
      rintro e w1 ⟨rfl, hb1⟩
      have HB1 := Lib.hid hb1; clear hb1
      obtain ⟨⟨c0, c1, c2, c3⟩, _⟩ := (B2.out.below HB1.out).cells
      go_wp2_with fail
      refine (H2.out _ (HW.out.trans (HB1.out.mono (by first | omega | (simp; done) | (simp; omega))))).mono ?_
      rintro e w2 ⟨rfl, hb2⟩
      have HB2 := Lib.hid (below_then HB1.out (Nat.le_refl _) hb2); clear hb2 HB1 c0 c1 c2 c3
      obtain ⟨⟨c0, c1, c2, c3⟩, f0, f1, f2, f3⟩ := (B3.out.below HB2.out).cells
      obtain ⟨⟨d0, _⟩, _⟩ := (B2.out.below HB2.out).cells
      obtain ⟨⟨e0, _⟩, _⟩ := (B1.out.below HB2.out).cells
      go_wp2_with fail
      refine bodyPost_ret (v := .tuple #[.agg #[.bool false, .slice none 0 0, .slice none 0 0, .slice none 0 0], .bool false]) (by simp [results, Try.results20, go_sem, c0, c1, c2, c3]) rfl ⟨_, rfl, blkV_zero _, ?_⟩
      exact ((((HW.out.trans (HB2.out.mono (by first | omega | (simp; done) | (simp; omega)))).setCell (by first | omega | (simp; done) | (simp; omega)) _).setCell (by first | omega | (simp; done) | (simp; omega)) _).setCell (by first | omega | (simp; done) | (simp; omega)) _).setCell (by first | omega | (simp; done) | (simp; omega)) _
end Go.Proofs.Ytfngadidlmbfdaa
