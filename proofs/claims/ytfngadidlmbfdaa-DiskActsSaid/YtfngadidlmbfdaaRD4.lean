/-
  The document's disk: Bytes, Read.
-/
import Derived.Test.YtfngadidlmbfdaaRD3
import Derived.Test.YtfngadidlmbfdaaMk512
namespace Go.Proofs.Ytfngadidlmbfdaa
open Go.RowKit Go.ChangeMaps
set_option linter.unusedVariables false
set_option linter.unusedSimpArgs false
def lookL (i : Int) : List (Int × List Int) → List Int
  | [] => zeroSec
  | p :: r => if p.1 = i then p.2 else lookL i r
theorem lookL_end (i : Int) : ∀ l : List (Int × List Int), (∀ j (h : j < l.length), l[j].1 ≠ i) → lookL i l = zeroSec
  | [], _ => rfl
  | p :: r, h => by
    unfold lookL
    rw [if_neg (show p.1 ≠ i from h 0 (by simp)), lookL_end i r (fun j hj => by have := h (j + 1) (by simp; omega); simpa using this)]
theorem lookL_at (i : Int) : ∀ (l : List (Int × List Int)) (k : Nat) (hk : k < l.length), (∀ j (h : j < l.length), j < k → l[j].1 ≠ i) → l[k].1 = i → lookL i l = l[k].2
  | [], k, hk, _, _ => absurd hk (by simp)
  | p :: r, 0, _, _, h => by unfold lookL; rw [if_pos (show p.1 = i from h)]; rfl
  | p :: r, k + 1, hk, h1, h2 => by
    unfold lookL
    rw [if_neg (show p.1 ≠ i from h1 0 (by simp) (by omega)), lookL_at i r k (by simpa using hk) (fun j hj hlt => by have := h1 (j + 1) (by simp; omega) (by omega); simpa using this) (by simpa using h2)]
    rfl
theorem lookL_set (i j : Int) (b : List Int) : ∀ l, lookL i (setL j b l) = if i = j then b else lookL i l
  | [] => by
    unfold setL lookL
    by_cases h : i = j
    · rw [if_pos h.symm, if_pos h]
    · rw [if_neg (Ne.symm h), if_neg h]; rfl
  | p :: r => by
    unfold setL
    by_cases hp : p.1 = j
    · rw [if_pos hp]
      unfold lookL
      by_cases h : i = j
      · rw [if_pos h.symm, if_pos h]
      · rw [if_neg (Ne.symm h), if_neg h, if_neg (by rw [hp]; exact Ne.symm h)]
    · rw [if_neg hp]
      unfold lookL
      by_cases h : p.1 = i
      · rw [if_pos h, if_pos h, if_neg (by rw [← h]; exact hp)]
      · rw [if_neg h, if_neg h]; exact lookL_set i j b r
theorem lookL_len (i : Int) : ∀ l : List (Int × List Int), (∀ p ∈ l, p.2.length = 512) → (lookL i l).length = 512
  | [], _ => zeroSec_len
  | p :: r, h => by
    unfold lookL
    split
    · exact h p (by simp)
    · exact lookL_len i r (fun q hq => h q (by simp [hq]))
def RS.bytes (R : RS) (i : Int) : List Int := if i < 0 ∨ (R.n : Int) ≤ i then [] else lookL i R.fs
def RetRd (w : World) (xs : List Int) (e : Ending) (w' : World) : Prop := ∃ v, e = .returned v ∧ RdV (Value.int .u8) w' v xs ∧ Below w.heap.size w w'
section
variable {w w' : World} {F : Nat → Prop} {r : Nat} {R : RS} {av bv tv wv : Value} {bs ws : List Value}
theorem RSec.rdv {v : Value} {xs : List Int} (h : RSec w F v xs) : RdV (Value.int .u8) w v xs := RdV.own h.len h.row
set_option maxRecDepth 100000 in
set_option maxHeartbeats 2000000 in
theorem ref_bytes (h : RefAt w F r R) (si : Int) : Calls Try.prog 29 #[.pointer (some ⟨r, 0, none⟩), .int .i64 si] w (RetRd w (R.bytes si)) := by
  obtain ⟨av, bv, tv, wv, bs, ws, hp⟩ := h
  obtain ⟨Aa, ca, hav, hca1, hca2⟩ := own_form hp.ra
  obtain ⟨Ab, cb, hbv, hcb1, hcb2⟩ := own_form hp.rb
  have HP := Lib.hid hp; clear hp
  have HC := Lib.hid (show RCells w r _ _ _ _ _ _ _ _ from HP.out.cells)
  obtain ⟨n, hn⟩ : ∃ n, n = R.fs.length := ⟨_, rfl⟩
  have hnl : n ≤ 1000000000 := by have := HP.out.ok.fs; omega
  obtain ⟨RE, hRE⟩ : ∃ RE, RE = RetRd w (R.bytes si) := ⟨_, rfl⟩
  rw [← hRE]
  have HRE := Lib.hid hRE; clear hRE
  have HN := Lib.hid hn; clear hn
  have HAV := Lib.hid hav
  have HBV := Lib.hid hbv
  obtain ⟨⟨c0, c1, c2, c3, c4, c5, c6, c7⟩, _⟩ := HC.out.cells
  rw [hav, ← HN.out] at c1
  rw [hbv, ← HN.out] at c2
  rw [← HN.out] at hca1 hcb1
  clear hav hbv
  have HNIL : Hid (si < 0 ∨ (R.n : Int) ≤ si → RE (.returned (.slice none 0 0)) w) := by
    intro h
    rw [HRE.out]
    refine ⟨_, rfl, ?_, Below.refl _ _⟩
    unfold RS.bytes
    rw [if_pos h]
    exact ⟨none, 0, rfl, Nat.le_refl _, by simp [maxLen], Rd.nil⟩
  have hmk := run_make512
  by_cases h1 : si < 0
  · have hfin := Lib.hid (HNIL.out (.inl h1))
    go_enter Try.func29, Try.ntmps29
    go_wp2_with fail
    exact hfin.out
  · by_cases h2 : (R.n : Int) ≤ si
    · have hfin := Lib.hid (HNIL.out (.inr h2))
      go_enter Try.func29, Try.ntmps29
      go_wp2_with fail
      exact hfin.out
    · have HBY : Hid (R.bytes si = lookL si R.fs) := by
        show _ = _
        unfold RS.bytes
        rw [if_neg (by omega)]
      have g2 : decide ((R.n : Int) ≤ si) = false := by simp; omega
      go_enter Try.func29, Try.ntmps29
      go_wp2_with fail
      go_loop [5] (fun i => ∃ k : Nat, k ≤ n ∧ i = .int .i64 k ∧ Hid (∀ j (h : j < R.fs.length), j < k → R.fs[j].1 ≠ si)) (fun i => n - (intOf i).toNat)
      case atStart => exact ⟨0, Nat.zero_le _, rfl, Lib.hid (fun j _ h => absurd h (by omega))⟩
      case round =>
        obtain ⟨k, hk, rfl, HJ⟩ := hrel
        by_cases hlt : k < n
        · have hkl : k < R.fs.length := by rw [← HN.out]; exact hlt
          obtain ⟨g, hg⟩ := own_addr (by have := HP.out.ra; rw [HAV.out] at this; exact this) (by omega : 0 < R.fs.length)
          subst hg
          have hck := HP.out.intA HAV.out hkl
          obtain ⟨z, hz⟩ : ∃ z, z = R.fs[k].1 := ⟨_, rfl⟩
          rw [← hz] at hck
          have HZ := Lib.hid hz; clear hz
          by_cases heq : z = si
          · have hbq : (z == si) = true := by simp [heq]
            have HEQ : Hid (R.fs[k].1 = si) := HZ.out.symm.trans heq
            clear heq
            obtain ⟨gb, hgb⟩ := own_addr (by have := HP.out.rb; rw [HBV.out] at this; exact this) (by omega : 0 < R.fs.length)
            subst hgb
            have hkb : k < bs.length := by rw [HP.out.sb.1]; exact hkl
            have hcb := own_cell (by have := HP.out.rb; rw [HBV.out] at this; exact this) hkb
            have hs := HP.out.sb.2 k bs[k] R.fs[k] (List.getElem?_eq_getElem hkb) (List.getElem?_eq_getElem hkl)
            obtain ⟨Ad, cd, hd, _⟩ := own_form hs.row
            have hfin : Hid (RE (.returned (.slice Ad 512 cd)) w) := by
              show RE _ _
              rw [HRE.out, HBY.out, lookL_at si R.fs k hkl HJ.out HEQ.out]
              exact ⟨_, rfl, by rw [← hd]; exact hs.rdv, Below.refl _ _⟩
            rw [hd] at hcb
            clear hd hs hkb
            go_wp2
            exact hfin.out
          · have hbq : (z == si) = false := by simp [heq]
            have HNE : Hid (R.fs[k].1 ≠ si) := by show _ ≠ _; rw [← HZ.out]; exact heq
            clear heq
            go_wp2
            go_round
            case rel => exact ⟨k + 1, by omega, by go_num, Lib.hid (fun j hj hjk => by
              by_cases e : j = k
              · subst e; exact HNE.out
              · exact HJ.out j hj (by omega))⟩
            case measure => simp [intOf]; omega
        · have hfin : Hid (RE (.returned (.slice (some ⟨w.heap.size, 0, none⟩) 512 512)) (w.alloc (.cells zsA 5))) := by
            show RE _ _
            rw [HRE.out, HBY.out, lookL_end si R.fs (fun j hj => HJ.out j hj (by have := HN.out; omega))]
            exact ⟨_, rfl, RdV.own zeroSec_len (own_full w 0 5 1 512 _ (Nat.zero_le _) (by rw [List.length_map, zeroSec_len]) (by simp [maxLen])), (Below.refl w.heap.size w).alloc (Nat.le_refl _) _⟩
          go_wp2_with fail
          exact hfin.out
end
def RS.readE (R : RS) (i : Int) : Int := if R.call.dead = true then 190 else if i < 0 then 1 else if (R.n : Int) ≤ i then 8 else 0
def lastR (l : List (Int × List Int)) (i : Int) (d : List Int) : List Int := l.foldl (fun b p => if p.1 = i then p.2 else b) d
def RS.readB (R : RS) (i : Int) : List Int := lastR R.since i (R.bytes i)
def RetReadR (w : World) (F : Nat → Prop) (r : Nat) (R : RS) (i : Int) (e : Ending) (w' : World) : Prop :=
  ∃ v F', e = .returned (.tuple #[v, .int .i64 (R.readE i)]) ∧ RefAt w' F' r R.call ∧ Fr F F' w w' ∧ (R.readE i ≠ 0 → v = .slice none 0 0) ∧ (R.readE i = 0 → RdV (Value.int .u8) w' v (R.readB i))
theorem lastR_succ (l : List (Int × List Int)) (i : Int) (d : List Int) (k : Nat) (hk : k < l.length) : lastR (l.take (k + 1)) i d = if l[k].1 = i then l[k].2 else lastR (l.take k) i d := by
  unfold lastR
  rw [List.take_succ_eq_append_getElem hk, List.foldl_append]
  rfl
section
variable {w w' : World} {F : Nat → Prop} {r : Nat} {R : RS} {av bv tv wv : Value} {bs ws : List Value}
theorem RefP.intT (h : RefP w F r R av bv tv wv bs ws) {g c k : Nat} (hav : tv = .slice (some ⟨g, 0, none⟩) R.since.length c) (hk : k < R.since.length) : w.cell? ⟨g, k, none⟩ = some (.int .i64 R.since[k].1) := by
  subst hav
  have := h.rt.cells (g := g) rfl k _ (ints_at R.since hk)
  have e : (⟨g, 0, none⟩ : Addr).add k = ⟨g, k, none⟩ := by unfold Addr.add; split <;> simp_all
  rwa [e] at this
set_option maxRecDepth 100000 in
set_option maxHeartbeats 2000000 in
theorem ref_read (h : RefAt w F r R) (si : Int) (hlow : -1000000000 < R.left) : Calls Try.prog 86 #[.pointer (some ⟨r, 0, none⟩), .int .i64 si] w (RetReadR w F r R si) := by
  have H1 := Lib.hid (ref_call h hlow)
  clear h
  obtain ⟨D, hD⟩ : ∃ D, D = R.call.dead := ⟨_, rfl⟩
  rw [← hD] at H1
  have HDD := Lib.hid hD; clear hD
  obtain ⟨RE, hRE⟩ : ∃ RE, RE = RetReadR w F r R si := ⟨_, rfl⟩
  rw [← hRE]
  have HRE := Lib.hid hRE; clear hRE
  go_enter Try.func86, Try.ntmps86
  go_wp2_with fail
  refine H1.out.mono ?_
  rintro e w1 ⟨rfl, F1, hd1, hf1⟩
  have HF1 := Lib.hid hf1; clear hf1
  have HAT := Lib.hid hd1
  have HNO : Hid (∀ E : Int, R.readE si = E → E ≠ 0 → RE (.returned (.tuple #[.slice none 0 0, .int .i64 E])) w1) := by
    intro E h1 h2
    rw [HRE.out]
    exact ⟨_, F1, by rw [h1], HAT.out, HF1.out, fun _ => rfl, fun h => absurd (h1.symm.trans h) h2⟩
  cases D
  · obtain ⟨av, bv, tv, wv, bs, ws, hp⟩ := hd1
    have HP := Lib.hid hp; clear hp
    have HC := Lib.hid (show RCells w1 r _ _ _ _ _ _ _ _ from HP.out.cells)
    obtain ⟨⟨c0, c1, c2, c3, c4, c5, c6, c7⟩, _⟩ := HC.out.cells
    have hN : R.call.n = R.n := rfl
    rw [hN] at c0
    clear c1 c2 c3 c4 c5 c6 c7 hN
    have he0 : R.call.dead ≠ true := by rw [← HDD.out]; decide
    by_cases h1 : si < 0
    · have e : R.readE si = 1 := by unfold RS.readE; rw [if_neg he0, if_pos h1]
      have hfin := Lib.hid (HNO.out 1 e (by decide))
      clear e he0
      go_wp2_with fail
      exact hfin.out
    · by_cases h2 : (R.n : Int) ≤ si
      · have e : R.readE si = 8 := by unfold RS.readE; rw [if_neg he0, if_neg h1, if_pos h2]
        have hfin := Lib.hid (HNO.out 8 e (by decide))
        clear e he0
        go_wp2_with fail
        exact hfin.out
      · have e : R.readE si = 0 := by unfold RS.readE; rw [if_neg he0, if_neg h1, if_neg h2]
        have HE0 := Lib.hid e; clear e he0
        go_wp2_with fail
        refine (ref_bytes HAT.out si).mono ?_
        rintro e w2 ⟨v0, rfl, hv0, hb2⟩
        clear c0
        have HB2 := Lib.hid hb2; clear hb2
        have hX0 : R.call.bytes si = lookL si R.fs := by unfold RS.bytes; rw [if_neg (by show ¬ (si < 0 ∨ (R.n : Int) ≤ si); omega)]; rfl
        rw [hX0] at hv0
        obtain ⟨X, hX⟩ : ∃ X, X = lookL si R.fs := ⟨_, rfl⟩
        rw [← hX] at hv0
        have HRB : Hid (R.readB si = lastR R.since si X) := by
          show lastR R.since si (R.bytes si) = _
          rw [hX, ← hX0]; rfl
        have HXL : Hid (X.length = 512) := by
          show _ = _
          rw [hX]
          exact lookL_len si R.fs (fun p hp => by
            obtain ⟨j, hj, rfl⟩ := List.getElem_of_mem hp
            have hj2 : j < bs.length := by rw [HP.out.sb.1]; exact hj
            exact (HP.out.sb.2 j bs[j] R.fs[j] (List.getElem?_eq_getElem hj2) (List.getElem?_eq_getElem hj)).len)
        clear hX hX0
        obtain ⟨At, ct, htv, hct1, hct2⟩ := own_form HP.out.rt
        obtain ⟨Aw, cw, hwv, hcw1, hcw2⟩ := own_form HP.out.rw
        have HP2 := Lib.hid (HP.out.below HB2.out)
        have HTV := Lib.hid htv
        have HWV := Lib.hid hwv
        have HC2 := Lib.hid (show RCells w2 r _ _ _ _ _ _ _ _ from HP2.out.cells)
        obtain ⟨⟨d0, d1, d2, d3, d4, d5, d6, d7⟩, _⟩ := HC2.out.cells
        obtain ⟨m, hm⟩ : ∃ m, m = R.call.since.length := ⟨_, rfl⟩
        have hml : m ≤ 1000000000 := by have := HP.out.ok.since; omega
        rw [htv, ← hm] at d3
        rw [hwv, ← hm] at d4
        rw [← hm] at hct1 hcw1
        have HM := Lib.hid hm; clear hm htv hwv
        have hv1 : RdV (Value.int .u8) w2 v0 (lastR (R.call.since.take 0) si X) := hv0
        obtain ⟨A0, c0, hve, hc01, hc02, _⟩ := hv0
        rw [HXL.out] at hve hc01
        subst hve
        have HV1 := Lib.hid hv1; clear hv1
        go_wp2_with fail
        go_loop [6, 7] (fun b i => ∃ (k : Nat) (A : Option Addr) (c : Nat), k ≤ m ∧ i = .int .i64 k ∧ b = .slice A 512 c ∧ 512 ≤ c ∧ c ≤ maxLen ∧ Hid (RdV (Value.int .u8) w2 (.slice A 512 c) (lastR (R.call.since.take k) si X))) (fun _ i => m - (intOf i).toNat)
        case atStart => exact ⟨0, A0, c0, Nat.zero_le _, rfl, rfl, hc01, hc02, HV1⟩
        case round =>
          obtain ⟨k, A, c, hk, rfl, rfl, hcc1, hcc2, HV⟩ := hrel
          by_cases hlt : k < m
          · have hkl : k < R.call.since.length := by rw [← HM.out]; exact hlt
            have HLS := Lib.hid (lastR_succ R.call.since si X k hkl)
            obtain ⟨g, hg⟩ := own_addr (by have := HP.out.rt; rw [HTV.out] at this; exact this) (by omega : 0 < R.call.since.length)
            subst hg
            have hck := HP2.out.intT HTV.out hkl
            obtain ⟨z, hz⟩ : ∃ z, z = R.call.since[k].1 := ⟨_, rfl⟩
            rw [← hz] at hck
            have HZ := Lib.hid hz; clear hz
            by_cases heq : z = si
            · have hbq : (z == si) = true := by simp [heq]
              have HEQ : Hid (R.call.since[k].1 = si) := HZ.out.symm.trans heq
              clear heq
              obtain ⟨gb, hgb⟩ := own_addr (by have := HP2.out.rw; rw [HWV.out] at this; exact this) (by omega : 0 < R.call.since.length)
              subst hgb
              have hkb : k < ws.length := by rw [HP2.out.sw.1]; exact hkl
              have hcb := own_cell (by have := HP2.out.rw; rw [HWV.out] at this; exact this) hkb
              have hs := HP2.out.sw.2 k ws[k] R.call.since[k] (List.getElem?_eq_getElem hkb) (List.getElem?_eq_getElem hkl)
              obtain ⟨Ad, cd, hd, hcd1, hcd2⟩ := own_form hs.row
              have HVN : Hid (RdV (Value.int .u8) w2 (.slice Ad 512 cd) (lastR (R.call.since.take (k + 1)) si X)) := by
                show RdV _ _ _ _
                rw [HLS.out, if_pos HEQ.out, ← hd]
                exact hs.rdv
              rw [hd] at hcb
              clear hd hs hkb
              go_wp2
              go_round
              case rel => exact ⟨k + 1, Ad, cd, by omega, by go_num, rfl, hcd1, hcd2, HVN⟩
              case measure => simp [intOf]; omega
            · have hbq : (z == si) = false := by simp [heq]
              have HNE : Hid (R.call.since[k].1 ≠ si) := by show _ ≠ _; rw [← HZ.out]; exact heq
              clear heq
              go_wp2
              go_round
              case rel => exact ⟨k + 1, A, c, by omega, by go_num, rfl, hcc1, hcc2, Lib.hid (by rw [HLS.out, if_neg HNE.out]; exact HV.out)⟩
              case measure => simp [intOf]; omega
          · have HVE : Hid (RdV (Value.int .u8) w2 (.slice A 512 c) (R.readB si)) := by
              show RdV _ _ _ _
              rw [HRB.out]
              have := HV.out
              rw [List.take_of_length_le (by have := HM.out; omega)] at this
              exact this
            obtain ⟨Y, hY⟩ : ∃ Y, Y = R.readB si := ⟨_, rfl⟩
            rw [← hY] at HVE
            obtain ⟨A', c', he', _, _, hrd⟩ := HVE.out
            have hyl : Y.length = 512 := by injection he' with _ h _; exact h.symm
            have hA : A = A' := by injection he'
            subst hA
            have H1 := Lib.hid (fun u (hu : u ∈ Y.map (Value.int .u8)) => (show u.oneCell' = true by obtain ⟨x, _, rfl⟩ := List.mem_map.1 hu; rfl))
            have HR : Hid (RdC 1 (w2.alloc (.cells #[] 5)) A 512 (Y.map (Value.int .u8))) := by show RdC _ _ _ _ _; rw [← hyl]; exact (hrd.below ((Below.refl w2.heap.size w2).alloc (Nat.le_refl _) _)).cells
            have HYL := Lib.hid hyl
            have HYY := Lib.hid hY
            clear he' hrd hyl hY
            obtain ⟨Ys, hYs⟩ : ∃ Ys, Ys = Y.map (Value.int .u8) := ⟨_, rfl⟩
            rw [← hYs] at H1 HR
            have HYs := Lib.hid hYs; clear hYs
            go_wp2_with (at_builtin; refine wpList_app _ rfl (.tmp 47) (.tmp 48) ty_bytes rfl _ _ _ rfl (own_empty w2 w2.heap.size 5 1 (Nat.le_refl _)) _ 512 c Ys rfl HR.out H1.out (by omega) (by simp [maxLen]) (by simp) ?_; intro v1 w3 h1 h2 h3; simp only [Nat.zero_add, List.nil_append] at h1; obtain ⟨A3, c3, e3, _⟩ := own_form h1; subst e3; have K1 := Lib.hid h1; have K2 := Lib.hid (show (w2.alloc (.cells #[] 5)).grownBy w3 (some w2.heap.size) from h2); clear h1 h2 h3)
            have hb3 : Below w2.heap.size w2 w3 := ((Below.refl w2.heap.size w2).alloc (Nat.le_refl _) (.cells #[] 5)).grown K2.out (by simp) (fun k hk => by injection hk with hk; exact Nat.le_of_eq hk)
            rw [HRE.out]
            refine ⟨_, F1, by rw [HE0.out], (HAT.out.below HB2.out).below hb3, (HF1.out.thenBelow HB2.out).thenBelow hb3, fun h => absurd HE0.out h, fun _ => ?_⟩
            have := K1.out
            rw [HYs.out] at this
            rw [← HYY.out]
            exact RdV.own HYL.out this
  · have hfin := Lib.hid (HNO.out 190 (by unfold RS.readE; rw [if_pos HDD.out.symm]) (by decide))
    clear hd1
    go_wp2_with fail
    exact hfin.out
end
end Go.Proofs.Ytfngadidlmbfdaa
