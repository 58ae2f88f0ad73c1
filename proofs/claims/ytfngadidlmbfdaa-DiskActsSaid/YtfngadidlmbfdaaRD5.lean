/-
  The document's disk: keeps, Flush, Crash.
-/
import Derived.Test.YtfngadidlmbfdaaRD4
import Derived.StillTailTactics
namespace Go.Proofs.Ytfngadidlmbfdaa
open Go.RowKit Go.ChangeMaps
set_option linter.unusedVariables false
set_option linter.unusedSimpArgs false
def keepL (p : Nat → Bool) : Nat → List (Int × List Int) → List (Int × List Int) → List (Int × List Int)
  | _, [], f => f
  | k, x :: r, f => keepL p (k + 1) r (if p k = true then setL x.1 x.2 f else f)
def RS.keeps (R : RS) (p : Nat → Bool) : RS := { R with fs := keepL p 0 R.since R.fs, since := [] }
theorem keepL_step (p : Nat → Bool) (k : Nat) (l : List (Int × List Int)) (hk : k < l.length) (g : List (Int × List Int)) : keepL p k (l.drop k) g = keepL p (k + 1) (l.drop (k + 1)) (if p k = true then setL l[k].1 l[k].2 g else g) := by
  rw [List.drop_eq_getElem_cons hk]
  rfl
theorem keepL_end (p : Nat → Bool) (k : Nat) (l : List (Int × List Int)) (hk : l.length ≤ k) (g : List (Int × List Int)) : keepL p k (l.drop k) g = g := by
  rw [List.drop_eq_nil_of_le hk]
  rfl
theorem setL_len (i : Int) (b : List Int) : ∀ l : List (Int × List Int), (setL i b l).length ≤ l.length + 1
  | [] => by simp [setL]
  | p :: r => by
    unfold setL
    split
    · simp
    · have := setL_len i b r; simp; omega
section
variable {w w' : World} {F : Nat → Prop} {r : Nat} {R : RS} {av bv tv wv : Value} {bs ws : List Value}
theorem RefP.clear (h : RefP w F r R av bv tv wv bs ws) : RefAt ((w.setCell ⟨r, 3, none⟩ (.slice none 0 0)).setCell ⟨r, 4, none⟩ (.slice none 0 0)) F r { R with since := [] } := by
  obtain ⟨W, hW⟩ : ∃ W, W = (w.setCell ⟨r, 3, none⟩ (.slice none 0 0)).setCell ⟨r, 4, none⟩ (.slice none 0 0) := ⟨_, rfl⟩
  rw [← hW]
  have hst : ∀ j, j ≠ r → W.heap[j]? = w.heap[j]? := fun j hj => by rw [hW]; exact (set_other _ r 4 _ hj).trans (set_other w r 3 _ hj)
  have hsec : ∀ u ys, RSec w F u ys → RSec W F u ys := fun u ys z => ⟨own_at z.row (fun j hj => hst j (fun e => own_ne_cells h.cells z.row (by decide) (e ▸ hj))), z.foot⟩
  refine ⟨av, bv, .slice none 0 0, .slice none 0 0, bs, [], ?_, own_at h.ra (fun j hj => hst j (fun e => own_ne_cells h.cells h.ra (by decide) (e ▸ hj))), own_at h.rb (fun j hj => hst j (fun e => own_ne_cells h.cells h.rb (by decide) (e ▸ hj))), own_nil _ _ _ _, own_nil _ _ _ _, h.sb.map hsec, ⟨rfl, by simp⟩, by simp [Value.ownBlock], by simp [Value.ownBlock], h.fr, h.fa, h.fb, by simp [Value.ownBlock], by simp [Value.ownBlock], fun k hk => by rw [hW]; simpa [World.setCell] using h.lt k hk, ⟨h.ok.n, h.ok.fs, by simp, h.ok.left⟩⟩
  rw [hW]
  have := set_same (i := 4) (v := .slice none 0 0) (set_same (i := 3) (v := .slice none 0 0) h.cells)
  exact this
/-- Between two rounds of keeps. -/
structure RKS (w : World) (F : Nat → Prop) (r : Nat) (R : RS) (p : Nat → Bool) (k : Nat) (F' : Nat → Prop) (fs : List (Int × List Int)) (W : World) : Prop where
  ref : RefAt W F' r { R with fs := fs }
  fr : Fr F F' w W
  keep : keepL p k (R.since.drop k) fs = keepL p 0 R.since R.fs
  len : fs.length ≤ R.fs.length + k
set_option maxRecDepth 100000 in
set_option maxHeartbeats 2000000 in
theorem ref_keeps (h : RefAt w F r R) (A : Option Addr) (ks : List Bool) (c : Nat) (hr : Rd Value.bool w A ks) (hA : 0 < ks.length → ∀ a, A = some a → ¬ F a.block) (hkc : ks.length ≤ 9223372036854775807) (hroom : R.fs.length + R.since.length < 1000000000) :
    Calls Try.prog 105 #[.pointer (some ⟨r, 0, none⟩), .slice A ks.length c] w (RetRef w F r (.tuple #[]) (R.keeps (keepB ks))) := by
  have h0 : RKS w F r R (keepB ks) 0 F R.fs w := ⟨h, Fr.refl _ _, rfl, Nat.le_refl _⟩
  have H0 := Lib.hid h0; clear h0
  have HR := Lib.hid hr; clear hr
  have HA := Lib.hid hA; clear hA
  obtain ⟨m, hm⟩ : ∃ m, m = R.since.length := ⟨_, rfl⟩
  have hml : m ≤ 1000000000 := by omega
  obtain ⟨n, hn⟩ : ∃ n, n = ks.length := ⟨_, rfl⟩
  obtain ⟨RE, hRE⟩ : ∃ RE, RE = RetRef w F r (.tuple #[]) (R.keeps (keepB ks)) := ⟨_, rfl⟩
  rw [← hRE, ← hn]
  rw [← hn] at hkc
  have HRE := Lib.hid hRE; clear hRE
  have HM := Lib.hid hm; have HN := Lib.hid hn; clear hm hn
  have HROOM := Lib.hid hroom; clear hroom
  have hlt0 : Hid (∀ k, F k → k < w.heap.size) := h.lt
  clear h
  go_enter Try.func105, Try.ntmps105
  go_wp2_with fail
  go_loopw [4] (fun i W => ∃ k : Nat, k ≤ m ∧ i = .int .i64 k ∧ Hid (∃ F' fs, RKS w F r R (keepB ks) k F' fs W)) (fun i _ => m - (intOf i).toNat)
  case atStart => exact ⟨0, Nat.zero_le _, rfl, Lib.hid ⟨_, _, H0.out⟩⟩
  case round =>
    obtain ⟨k, hk, rfl, HK0⟩ := hrel
    obtain ⟨F', fs, hk0⟩ := HK0.out
    obtain ⟨av, bv, tv, wv, bs, ws, hp⟩ := hk0.ref
    have HP := Lib.hid hp; clear hp
    have HK := Lib.hid hk0; clear hk0 HK0
    obtain ⟨At, ct, htv, hct1, hct2⟩ := own_form HP.out.rt
    obtain ⟨Aw, cw, hwv, hcw1, hcw2⟩ := own_form HP.out.rw
    have HTV := Lib.hid htv
    have HWV := Lib.hid hwv
    have HC2 := Lib.hid (show RCells wr r _ _ _ _ _ _ _ _ from HP.out.cells)
    obtain ⟨⟨d0, d1, d2, d3, d4, d5, d6, d7⟩, hfz⟩ := HC2.out.cells
    have hm' : R.since.length = m := HM.out.symm
    rw [htv, show ({ R with fs := fs } : RS).since.length = m from hm'] at d3
    rw [hwv, show ({ R with fs := fs } : RS).since.length = m from hm'] at d4
    rw [show ({ R with fs := fs } : RS).since.length = m from hm'] at hct1 hcw1
    clear htv hwv hm'
    by_cases hlt : k < m
    · have hkl : k < ({ R with fs := fs } : RS).since.length := by show k < R.since.length; rw [← HM.out]; exact hlt
      obtain ⟨g, hg⟩ := own_addr (by have := HP.out.rt; rw [HTV.out] at this; exact this) (by omega : 0 < ({ R with fs := fs } : RS).since.length)
      subst hg
      have hck := HP.out.intT HTV.out hkl
      obtain ⟨gb, hgb⟩ := own_addr (by have := HP.out.rw; rw [HWV.out] at this; exact this) (by omega : 0 < ({ R with fs := fs } : RS).since.length)
      subst hgb
      have hkb : k < ws.length := by rw [HP.out.sw.1]; exact hkl
      have hcb := own_cell (by have := HP.out.rw; rw [HWV.out] at this; exact this) hkb
      have hs := HP.out.sw.2 k ws[k] R.since[k] (List.getElem?_eq_getElem hkb) (List.getElem?_eq_getElem hkl)
      obtain ⟨v, hv⟩ : ∃ v, v = ws[k] := ⟨_, rfl⟩
      rw [← hv] at hcb hs
      have HS := Lib.hid hs
      obtain ⟨Ad, cd, hd, _⟩ := own_form hs.row
      subst hd
      clear hs hv hkb
      obtain ⟨z, hz⟩ : ∃ z, z = R.since[k].1 := ⟨_, rfl⟩
      rw [show ({ R with fs := fs } : RS).since[k].1 = z from hz.symm] at hck
      have HZ := Lib.hid hz; clear hz
      have HST := Lib.hid (keepL_step (keepB ks) k R.since (by rw [← HM.out]; exact hlt) fs)
      have HSK : Hid (keepB ks k = false → ∀ W, Below wr.heap.size wr W → RKS w F r R (keepB ks) (k + 1) F' fs W) := fun hf W hb =>
        ⟨HK.out.ref.below hb, HK.out.fr.thenBelow hb, by rw [← HK.out.keep, HST.out, if_neg (by rw [hf]; decide)], by have := HK.out.len; omega⟩
      have hroomk : fs.length < 1000000000 := by have := HK.out.len; have := HROOM.out; have := HM.out; omega
      by_cases hkn : k < n
      · obtain ⟨o, q, rfl, hbc⟩ : ∃ o q, A = some ⟨o, q, none⟩ ∧ wr.cell? ⟨o, q + k, none⟩ = some (.bool (keepB ks k)) := by
          obtain ⟨o, q, e, hc⟩ := HR.out.at_ (k := k) (by have := HN.out; omega)
          refine ⟨o, q, e, ?_⟩
          have h1 := HA.out (by have := HN.out; omega) _ e
          have h2 := block_lt_of_cell hc
          rw [show keepB ks k = ks[k]'(by have := HN.out; omega) by simp [keepB, show k < ks.length by have := HN.out; omega], ← hc]
          refine World.cell?_of_block (w := w) (HK.out.fr.block o h2 h1)
        obtain ⟨B, hB⟩ : ∃ B, B = keepB ks k := ⟨_, rfl⟩
        rw [← hB] at hbc
        have HBB := Lib.hid hB; clear hB
        have gk : decide ((k : Int) < (n : Int)) = true := by simp; omega
        cases B
        · have HSN := Lib.hid (HSK.out HBB.out.symm wr (Below.refl _ _))
          go_wp2_with fail
          go_roundw
          case rel => exact ⟨k + 1, by omega, by go_num, Lib.hid ⟨_, _, HSN.out⟩⟩
          case measure => simp [intOf]; omega
        · go_wp2_with fail
          refine wp_region_still_tail 15 (by kernel_rfl) (by kernel_rfl) ?_
          simp only [List.take_succ_cons, List.take_zero, List.drop_succ_cons, List.drop_zero]
          iterate 15 still_step
          refine wpStill_nil ?_
          have HBD : Hid (Below wr.heap.size wr { wr with drawn := wr.drawn + 1 }) := ⟨rfl, rfl, rfl, Nat.le_refl _, fun _ _ => rfl⟩
          have HRF := Lib.hid (HK.out.ref.below HBD.out)
          have HS2 : Hid (RSec { wr with drawn := wr.drawn + 1 } F' (.slice Ad 512 cd) R.since[k].2) := HS.out.kept (fun _ _ => rfl) (fun _ z => z)
          obtain ⟨W, hW⟩ : ∃ W : World, W = { wr with drawn := wr.drawn + 1 } := ⟨_, rfl⟩
          rw [← hW] at HRF HS2 HBD ⊢
          clear hW d0 d1 d2 d3 d4 d5 d6 d7 hck hcb hbc hfz
          go_wp2_with fail
          refine (ref_set HRF.out z HS2.out hroomk).mono ?_
          rintro e w3 ⟨rfl, F3, hr3, hf3⟩
          have HR3 := Lib.hid hr3; clear hr3
          have HF3 := Lib.hid hf3; clear hf3
          go_wp2_with fail
          go_roundw
          case rel =>
            refine ⟨k + 1, by omega, by go_num, Lib.hid ⟨F3, setL z R.since[k].2 fs, HR3.out, (HK.out.fr.thenBelow HBD.out).trans HF3.out, ?_, ?_⟩⟩
            · rw [← HK.out.keep, HST.out, if_pos HBB.out.symm, HZ.out]
            · have := setL_len z R.since[k].2 fs
              have := HK.out.len
              omega
          case measure => simp [intOf]; omega
      · have HSN := Lib.hid (HSK.out (by simp [keepB, List.getElem?_eq_none (show ks.length ≤ k by have := HN.out; omega)]) wr (Below.refl _ _))
        have gk : decide ((k : Int) < (n : Int)) = false := by simp; omega
        go_wp2_with fail
        go_roundw
        case rel => exact ⟨k + 1, by omega, by go_num, Lib.hid ⟨_, _, HSN.out⟩⟩
        case measure => simp [intOf]; omega
    · have f3 := hfz 3
      have f4 := hfz 4
      have hfin : Hid (RE (.returned (.tuple #[])) ((wr.setCell ⟨r, 3, none⟩ (.slice none 0 0)).setCell ⟨r, 4, none⟩ (.slice none 0 0))) := by
        show RE _ _
        rw [HRE.out]
        refine ⟨rfl, F', ?_, HK.out.fr.trans ((Fr.setCell _ _ HP.out.fr).trans (Fr.setCell _ _ HP.out.fr))⟩
        have := HP.out.clear
        have e : ({ R with fs := fs, since := [] } : RS) = R.keeps (keepB ks) := by
          unfold RS.keeps
          rw [← HK.out.keep, keepL_end _ _ _ (by have := HM.out; omega)]
        rw [← e]
        exact this
      clear hfz
      go_wp2_with fail
      refine ⟨rfl, .tuple #[], by simp [results, Try.results105], hfin.out⟩
end
end Go.Proofs.Ytfngadidlmbfdaa
