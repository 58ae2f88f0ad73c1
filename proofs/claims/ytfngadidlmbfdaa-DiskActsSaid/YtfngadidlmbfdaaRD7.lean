/-
  The document's disk: Load.
-/
import Derived.Test.YtfngadidlmbfdaaRD6
import Derived.Test.YtfngadidlmbfdaaDisk8
namespace Go.Proofs.Ytfngadidlmbfdaa
open Go.RowKit Go.ChangeMaps
set_option linter.unusedVariables false
set_option linter.unusedSimpArgs false
def RetLoadR (w : World) (n : Int) (b : List Int) (e : Ending) (w' : World) : Prop := ∃ r F R, e = .returned (.pointer (some ⟨r, 0, none⟩)) ∧ RefAt w' F r R ∧ (∀ k, F k → w.heap.size ≤ k) ∧ Below w.heap.size w w' ∧
  R.n = (RS.new n).n ∧ R.since = [] ∧ R.left = 0 ∧ R.armed = false ∧ R.dead = false ∧ R.fs.length ≤ 4096 ∧ ∀ z, lookL z R.fs = (DS.load n b).fast z
theorem rd_take {α : Type} {enc : α → Value} {w : World} {A : Option Addr} {xs : List α} (h : Rd enc w A xs) (n : Nat) : Rd enc w A (xs.take n) := fun hn => by
  rw [List.length_take] at hn
  obtain ⟨g, o, e, hc⟩ := h (by omega)
  refine ⟨g, o, e, fun j hj => ?_⟩
  rw [List.length_take] at hj
  rw [hc j (by omega), List.getElem_take]
/-- Between two rounds. -/
structure RLS (w : World) (n : Int) (b : List Int) (r : Nat) (k : Nat) (F : Nat → Prop) (fs : List (Int × List Int)) (W : World) : Prop where
  ref : RefAt W F r { RS.new n with fs := fs }
  new : ∀ k, F k → w.heap.size ≤ k
  below : Below w.heap.size w W
  look : ∀ z, lookL z fs = loadF b k z
  len : fs.length ≤ k
theorem RefAt.mono {w : World} {F F1 : Nat → Prop} {r : Nat} {R : RS} (h : RefAt w F r R) (h1 : ∀ k, F k → F1 k) (h2 : ∀ k, F1 k → k < w.heap.size) : RefAt w F1 r R := by
  obtain ⟨av, bv, tv, wv, bs, ws, h⟩ := h
  exact ⟨av, bv, tv, wv, bs, ws, h.cells, h.ra, h.rb, h.rt, h.rw, h.sb.map (fun _ _ z => ⟨z.row, fun k e => h1 k (z.foot k e)⟩), h.sw.map (fun _ _ z => ⟨z.row, fun k e => h1 k (z.foot k e)⟩), h.ne1, h.ne2, h1 _ h.fr, fun k e => h1 k (h.fa k e), fun k e => h1 k (h.fb k e), fun k e => h1 k (h.ft k e), fun k e => h1 k (h.fw k e), h2, h.ok⟩
theorem RLS.fin {w W : World} {n : Int} {b : List Int} {r k : Nat} {F : Nat → Prop} {fs : List (Int × List Int)} (h : RLS w n b r k F fs W) (hk : k ≤ (RS.new n).n) (hend : k = (RS.new n).n ∨ b.drop (512 * k) = []) : RetLoadR w n b (.returned (.pointer (some ⟨r, 0, none⟩))) W := by
  refine ⟨r, F, _, rfl, h.ref, h.new, h.below, rfl, rfl, rfl, rfl, rfl, Nat.le_trans h.len (Nat.le_trans hk (by simp only [RS.new]; omega)), fun z => ?_⟩
  show lookL z fs = if z < ((DS.new n).n : Int) then imgSec b z else zeroSec
  rw [h.look z]
  have hn : (DS.new n).n = (RS.new n).n := rfl
  rw [hn]
  unfold loadF
  rcases hend with rfl | he
  · rfl
  · by_cases h1 : z < k
    · rw [if_pos h1, if_pos (by omega)]
    · rw [if_neg h1]
      split
      · exact (imgSec_over b k z he (by omega)).symm
      · rfl
set_option maxRecDepth 100000 in
set_option maxHeartbeats 2000000 in
theorem ref_load (n : Int) (A : Option Addr) (b : List Int) (c : Nat) (w : World) (hn : -9223372036854775808 ≤ n ∧ n ≤ 9223372036854775807) (hb : Rd (Value.int .u8) w A b) (hl : b.length ≤ 1000000) (hc : b.length ≤ c ∧ c ≤ maxLen) :
    Calls Try.prog 23 #[.int .i64 n, .slice A b.length c] w (RetLoadR w n b) := by
  have HB := Lib.hid hb; clear hb
  obtain ⟨m, hm⟩ : ∃ m, m = b.length := ⟨_, rfl⟩
  obtain ⟨RE, hRE⟩ : ∃ RE, RE = RetLoadR w n b := ⟨_, rfl⟩
  rw [← hRE, ← hm]
  rw [← hm] at hl hc
  have HRE := Lib.hid hRE; clear hRE
  have HM := Lib.hid hm; clear hm
  obtain ⟨hc1, hc2⟩ := hc
  unfold maxLen at hc2
  go_enter Try.func23, Try.ntmps23
  go_wp2_with fail
  refine (ref_new n w hn).mono ?_
  rintro e w1 ⟨r, F, rfl, h1, h2, h3⟩
  obtain ⟨N, hN⟩ : ∃ N, N = (RS.new n).n := ⟨_, rfl⟩
  have hNl : N ≤ 4096 := by rw [hN]; simp only [RS.new]; omega
  have h0 : RLS w n b r 0 F [] w1 := ⟨h1, h2, h3, fun z => by rw [loadF_zero]; rfl, Nat.le_refl _⟩
  have H0 := Lib.hid h0; clear h0 h1 h2 h3
  have HN := Lib.hid hN; clear hN
  go_wp2_with fail
  go_loopw [6] (fun i W => ∃ k : Nat, k ≤ N ∧ i = .int .i64 k ∧ Hid (∃ F fs, RLS w n b r k F fs W)) (fun i _ => N - (intOf i).toNat)
  case atStart => exact ⟨0, Nat.zero_le _, rfl, Lib.hid ⟨_, _, H0.out⟩⟩
  case round =>
    obtain ⟨k, hk, rfl, HK0⟩ := hrel
    obtain ⟨F', fs, hk0⟩ := HK0.out
    have HK := Lib.hid hk0; clear hk0 HK0
    obtain ⟨av, bv, tv, wv, hcc, _⟩ := HK.out.ref.rcells
    have HC := Lib.hid hcc; clear hcc
    obtain ⟨⟨d0, d1, d2, d3, d4, d5, d6, d7⟩, _⟩ := HC.out.cells
    rw [show ({ RS.new n with fs := fs } : RS).n = N from HN.out.symm] at d0
    clear d1 d2 d3 d4 d5 d6 d7
    have e512 : IntKind.i64.wrap (512 * (k : Int)) = 512 * (k : Int) := by rw [IntKind.wrap_i64]; omega
    by_cases hlt : k < N
    · have g1 : decide ((k : Int) < (N : Int)) = true := by simp; omega
      by_cases hlb : 512 * k < m
      · have g2 : decide (512 * (k : Int) < (m : Int)) = true := by simp; omega
        have HRD : Hid (Rd (Value.int .u8) wr (Option.map (fun x => x.add (512 * k)) A) ((b.drop (512 * k)).take 512)) := rd_take (rd_drop (HB.out.below HK.out.below) _) _
        by_cases hto : m < 512 * k + 512
        · have g3 : decide ((m : Int) < 512 * (k : Int) + 512) = true := by simp; omega
          clear e512
          go_wp2_with fail
          refine (ref_full _ ((b.drop (512 * k)).take 512) _ _ _ (by rw [List.length_take, List.length_drop]; have := HM.out; omega) HRD.out (by omega)).mono ?_
          rintro e w2 ⟨v, rfl, ho, hb2⟩
          have HO := Lib.hid ho; have HB2 := Lib.hid hb2; clear ho hb2
          clear d0
          have hF1 : ∀ j, (F' j ∨ v.ownBlock = some j) → j < w2.heap.size := by
            rintro j (hj | hj)
            · exact Nat.lt_of_lt_of_le (HK.out.ref.lt j hj) HB2.out.size
            · exact (own_base HO.out j hj).2
          have HR1 := Lib.hid ((HK.out.ref.below HB2.out).mono (F1 := fun j => F' j ∨ v.ownBlock = some j) (fun _ z => .inl z) hF1)
          have HS : Hid (RSec w2 (fun j => F' j ∨ v.ownBlock = some j) v (imgSec b k)) := ⟨by rw [imgSec_at]; exact own_le HO.out (Nat.zero_le _), fun j hj => .inr hj⟩
          have hfl : fs.length < 1000000000 := by have := HK.out.len; omega
          clear hF1
          obtain ⟨Av, cv, hve, _⟩ := own_form HO.out
          subst hve
          go_wp2_with fail
          refine (ref_set HR1.out k HS.out hfl).mono ?_
          rintro e w3 ⟨rfl, F3, hr3, hf3⟩
          have HR3 := Lib.hid hr3; have HF3 := Lib.hid hf3; clear hr3 hf3
          have HNX : Hid (RLS w n b r (k + 1) F3 (setL k (imgSec b k) fs) w3) := by
            have hnew : ∀ j, (F' j ∨ (Value.slice Av 512 cv).ownBlock = some j) → w.heap.size ≤ j := by
              rintro j (hj | hj)
              · exact HK.out.new j hj
              · exact Nat.le_trans HK.out.below.size (own_base HO.out j hj).1
            have hs2 : w.heap.size ≤ w2.heap.size := Nat.le_trans HK.out.below.size HB2.out.size
            refine ⟨HR3.out, fun j hj => ?_, ?_, fun z => ?_, ?_⟩
            · rcases HF3.out.sub j hj with h | h
              · exact hnew j h
              · omega
            · exact (HK.out.below.trans (HB2.out.mono HK.out.below.size)).trans (HF3.out.toBelow hnew hs2)
            · rw [lookL_set, loadF_succ, HK.out.look z]
            · have := setL_len k (imgSec b k) fs
              have := HK.out.len
              omega
          go_wp2_with fail
          go_roundw
          case rel => exact ⟨k + 1, by omega, by go_num, Lib.hid ⟨_, _, HNX.out⟩⟩
          case measure => simp [intOf]; omega
        · have g3 : decide ((m : Int) < 512 * (k : Int) + 512) = false := by simp; omega
          clear e512
          go_wp2_with fail
          refine (ref_full _ ((b.drop (512 * k)).take 512) _ _ _ (by rw [List.length_take, List.length_drop]; have := HM.out; omega) HRD.out (by omega)).mono ?_
          rintro e w2 ⟨v, rfl, ho, hb2⟩
          have HO := Lib.hid ho; have HB2 := Lib.hid hb2; clear ho hb2
          clear d0
          have hF1 : ∀ j, (F' j ∨ v.ownBlock = some j) → j < w2.heap.size := by
            rintro j (hj | hj)
            · exact Nat.lt_of_lt_of_le (HK.out.ref.lt j hj) HB2.out.size
            · exact (own_base HO.out j hj).2
          have HR1 := Lib.hid ((HK.out.ref.below HB2.out).mono (F1 := fun j => F' j ∨ v.ownBlock = some j) (fun _ z => .inl z) hF1)
          have HS : Hid (RSec w2 (fun j => F' j ∨ v.ownBlock = some j) v (imgSec b k)) := ⟨by rw [imgSec_at]; exact own_le HO.out (Nat.zero_le _), fun j hj => .inr hj⟩
          have hfl : fs.length < 1000000000 := by have := HK.out.len; omega
          clear hF1
          obtain ⟨Av, cv, hve, _⟩ := own_form HO.out
          subst hve
          go_wp2_with fail
          refine (ref_set HR1.out k HS.out hfl).mono ?_
          rintro e w3 ⟨rfl, F3, hr3, hf3⟩
          have HR3 := Lib.hid hr3; have HF3 := Lib.hid hf3; clear hr3 hf3
          have HNX : Hid (RLS w n b r (k + 1) F3 (setL k (imgSec b k) fs) w3) := by
            have hnew : ∀ j, (F' j ∨ (Value.slice Av 512 cv).ownBlock = some j) → w.heap.size ≤ j := by
              rintro j (hj | hj)
              · exact HK.out.new j hj
              · exact Nat.le_trans HK.out.below.size (own_base HO.out j hj).1
            have hs2 : w.heap.size ≤ w2.heap.size := Nat.le_trans HK.out.below.size HB2.out.size
            refine ⟨HR3.out, fun j hj => ?_, ?_, fun z => ?_, ?_⟩
            · rcases HF3.out.sub j hj with h | h
              · exact hnew j h
              · omega
            · exact (HK.out.below.trans (HB2.out.mono HK.out.below.size)).trans (HF3.out.toBelow hnew hs2)
            · rw [lookL_set, loadF_succ, HK.out.look z]
            · have := setL_len k (imgSec b k) fs
              have := HK.out.len
              omega
          go_wp2_with fail
          go_roundw
          case rel => exact ⟨k + 1, by omega, by go_num, Lib.hid ⟨_, _, HNX.out⟩⟩
          case measure => simp [intOf]; omega
      · have g2 : decide (512 * (k : Int) < (m : Int)) = false := by simp; omega
        have hfin : Hid (RE (.returned (.pointer (some ⟨r, 0, none⟩))) wr) := by
          show RE _ _
          rw [HRE.out]
          exact HK.out.fin (by rw [← HN.out]; exact hk) (.inr (List.drop_eq_nil_of_le (by have := HM.out; omega)))
        go_wp2_with fail
        exact hfin.out
    · have g1 : decide ((k : Int) < (N : Int)) = false := by simp; omega
      have hfin : Hid (RE (.returned (.pointer (some ⟨r, 0, none⟩))) wr) := by
        show RE _ _
        rw [HRE.out]
        exact HK.out.fin (by rw [← HN.out]; exact hk) (.inl (by have := HN.out; omega))
      go_wp2_with fail
      exact hfin.out
end Go.Proofs.Ytfngadidlmbfdaa
