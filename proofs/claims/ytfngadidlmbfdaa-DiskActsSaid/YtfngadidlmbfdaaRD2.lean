/-
  The document's disk: set.
-/
import Derived.Test.YtfngadidlmbfdaaRD1
import Derived.Test.YtfngadidlmbfdaaTwoApp
import Derived.Laws.OwnMore
namespace Go.Proofs.Ytfngadidlmbfdaa
open Go.RowKit Go.ChangeMaps
set_option linter.unusedVariables false
set_option linter.unusedSimpArgs false
theorem inf_bytess : (Try.prog.info? 33).map (fun i => (i.zero, i.size, i.bytes)) = some (some (.slice none 0 0), 1, 24) := by kernel_rfl
theorem ty_byteses : SlTy Try.prog 40 33 1 24 := SlTy.mk' _ Try.underlying40 inf_bytess rfl (by decide)
theorem rdC_cell1 {w : World} {g e : Nat} {u : Value} {fr : Nat × Nat} (h : w.heap[g]? = some (.cells #[u] e fr)) : RdC 1 w (some ⟨g, 0, none⟩) 1 [u] :=
  ⟨rfl, fun _ => ⟨g, 0, rfl, fun j v hv => by rw [Nat.zero_add, cell_of_row w g j _ e fr h]; simpa using hv⟩⟩
/-- A sector's bytes put in its place, or behind. -/
def setL (i : Int) (b : List Int) : List (Int × List Int) → List (Int × List Int)
  | [] => [(i, b)]
  | p :: r => if p.1 = i then (i, b) :: r else p :: setL i b r
theorem setL_end (i : Int) (b : List Int) : ∀ l : List (Int × List Int), (∀ j (h : j < l.length), l[j].1 ≠ i) → setL i b l = l ++ [(i, b)]
  | [], _ => rfl
  | p :: r, h => by
    unfold setL
    rw [if_neg (show p.1 ≠ i from h 0 (by simp)), setL_end i b r (fun j hj => by have := h (j + 1) (by simp; omega); simpa using this)]
    rfl
theorem setL_at (i : Int) (b : List Int) : ∀ (l : List (Int × List Int)) (k : Nat) (hk : k < l.length), (∀ j (h : j < l.length), j < k → l[j].1 ≠ i) → l[k].1 = i → setL i b l = l.set k (i, b)
  | [], k, hk, _, _ => absurd hk (by simp)
  | p :: r, 0, _, _, h => by unfold setL; rw [if_pos (show p.1 = i from h)]; rfl
  | p :: r, k + 1, hk, h1, h2 => by
    unfold setL
    rw [if_neg (show p.1 ≠ i from h1 0 (by simp) (by omega)), setL_at i b r k (by simpa using hk) (fun j hj hlt => by have := h1 (j + 1) (by simp; omega) (by omega); simpa using this) (by simpa using h2)]
    rfl
section
variable {w w' : World} {F : Nat → Prop} {r : Nat} {R : RS} {av bv tv wv : Value} {bs ws : List Value}
theorem RefP.hit (h : RefP w F r R av bv tv wv bs ws) {v : Value} {xs : List Int} (hv : RSec w F v xs) {g c : Nat} (hb : bv = .slice (some ⟨g, 0, none⟩) R.fs.length c) {k : Nat} (hk : k < R.fs.length) {i : Int} (hi : R.fs[k].1 = i) :
    RetRef w F r (.tuple #[]) { R with fs := R.fs.set k (i, xs) } (.returned (.tuple #[])) (w.setCell ⟨g, k, none⟩ v) := by
  subst hb
  have hgF : F g := h.fb g rfl
  have hst : ∀ j, j ≠ g → (w.setCell ⟨g, k, none⟩ v).heap[j]? = w.heap[j]? := fun j hj => set_other w g k v hj
  have hrg : r ≠ g := fun e => own_ne_cells h.cells h.rb (by decide) (by rw [e]; rfl)
  have hsec : ∀ u ys, RSec w F u ys → RSec (w.setCell ⟨g, k, none⟩ v) F u ys := fun u ys x => ⟨own_at x.row (fun j hj => hst j (fun e => own_ne x.row h.rb (by decide) j hj (by rw [e]; rfl))), x.foot⟩
  have hints : ints (R.fs.set k (i, xs)) = ints R.fs := by
    unfold ints
    rw [List.map_set]
    apply List.ext_getElem (by simp)
    intro j h1 h2
    rw [List.getElem_set]
    split
    · rename_i e; subst e; simp [hi]
    · rfl
  refine ⟨rfl, F, ⟨av, _, tv, wv, bs.set k v, ws, (hst r hrg).trans h.cells, ?_, ?_, own_at h.rt (fun j hj => hst j (fun e => own_ne h.rt h.rb (by decide) j hj (by rw [e]; rfl))), own_at h.rw (fun j hj => hst j (fun e => h.ne2 g rfl (e ▸ hj))), ?_, h.sw.map hsec, h.ne1, h.ne2, h.fr, h.fa, h.fb, h.ft, h.fw, fun j hj => by simpa [World.setCell] using h.lt j hj, ⟨h.ok.n, by simpa using h.ok.fs, h.ok.since, h.ok.left⟩⟩, Fr.setCell _ _ hgF⟩
  · have := own_at (w' := w.setCell ⟨g, k, none⟩ v) h.ra (fun j hj => hst j (fun e => own_ne h.ra h.rb (by decide) j hj (by rw [e]; rfl)))
    show World.ownsRow _ 0 3 1 av (R.fs.set k (i, xs)).length (ints (R.fs.set k (i, xs)))
    rw [hints, List.length_set]
    exact this
  · show World.ownsRow _ 0 33 1 _ (R.fs.set k (i, xs)).length _
    rw [List.length_set]
    exact (h.rb.stored k v).1
  · refine ⟨by rw [List.length_set]; show _ = (R.fs.set k (i, xs)).length; rw [List.length_set]; exact h.sb.1, fun j u p h1 h2 => ?_⟩
    replace h2 : (R.fs.set k (i, xs))[j]? = some p := h2
    rw [List.getElem?_set] at h1 h2
    by_cases e : k = j
    · have hkb : k < bs.length := by rw [h.sb.1]; exact hk
      rw [if_pos e, if_pos hkb] at h1
      rw [if_pos e, if_pos hk] at h2
      cases h1; cases h2
      exact hsec _ _ hv
    · rw [if_neg e] at h1 h2
      exact hsec _ _ (h.sb.2 j u p h1 h2)
theorem RefP.put (h : RefP w F r R av bv tv wv bs ws) {v : Value} {xs : List Int} (hv : RSec w F v xs) {i : Int} {d : Nat → Bool} {x : Nat → Value} {i7 i8 i14 i15 : Nat} {vf : (Nat → Value) → Value} (hvf : vf x = v) (hG : AG w 3 33 av bv R.fs.length R.fs.length (ints R.fs) bs (.int .i64 i) vf i7 i8 i14 i15 d x w')
    (h8 : d i8 = true) (h15 : d i15 = true) (hos : w'.os = w.os ∧ w'.tape = w.tape ∧ w'.output = w.output) (hroom : R.fs.length < 1000000000) :
    RetRef w F r (.tuple #[]) { R with fs := R.fs ++ [(i, xs)] } (.returned (.tuple #[])) ((w'.setCell ⟨r, 1, none⟩ (x i8)).setCell ⟨r, 2, none⟩ (x i15)) := by
  obtain ⟨a1, a2⟩ := hG.a8 h8
  obtain ⟨b1, b2⟩ := hG.a15 h15
  rw [hvf] at b1
  obtain ⟨W, hW⟩ : ∃ W, W = (w'.setCell ⟨r, 1, none⟩ (x i8)).setCell ⟨r, 2, none⟩ (x i15) := ⟨_, rfl⟩
  rw [← hW]
  have hst : ∀ j, j ≠ r → W.heap[j]? = w'.heap[j]? := fun j hj => by rw [hW]; exact (set_other _ r 2 _ hj).trans (set_other w' r 1 _ hj)
  have hra := own_ne_cells h.cells h.ra (by decide)
  have hrb := own_ne_cells h.cells h.rb (by decide)
  have hr' : w'.heap[r]? = w.heap[r]? := hG.keep r (h.lt r h.fr) (fun _ => hra) (fun _ => hrb)
  have hold : ∀ j, j < w.heap.size → j ≠ r → av.ownBlock ≠ some j → bv.ownBlock ≠ some j → W.heap[j]? = w.heap[j]? := fun j h1 h2 h3 h4 => (hst j h2).trans (hG.keep j h1 (fun _ => h3) (fun _ => h4))
  have hWs : W.heap.size = w'.heap.size := by rw [hW]; simp [World.setCell]
  have hcell : w'.heap[r]? = some (.cells #[.int .i64 R.n, av, bv, tv, wv, .int .i64 R.left, .bool R.armed, .bool R.dead] 42 (0, 0)) := hr'.trans h.cells
  have hsec : ∀ u ys, RSec w F u ys → RSec W (fun k => F k ∨ (w.heap.size ≤ k ∧ k < w'.heap.size)) u ys := fun u ys z =>
    ⟨own_at z.row (fun j hj => hold j (own_base z.row j hj).2 (fun e => own_ne_cells h.cells z.row (by decide) (e ▸ hj)) (own_ne z.row h.ra (by decide) j hj) (own_ne z.row h.rb (by decide) j hj)), fun k hk => .inl (z.foot k hk)⟩
  refine ⟨rfl, fun k => F k ∨ (w.heap.size ≤ k ∧ k < w'.heap.size), ⟨x i8, x i15, tv, wv, bs ++ [v], ws, ?_, ?_, ?_, ?_, ?_, ?_, h.sw.map hsec, ?_, ?_, .inl h.fr, ?_, ?_, fun k hk => .inl (h.ft k hk), fun k hk => .inl (h.fw k hk), ?_, ?_⟩, ?_⟩
  · rw [hW]
    have := set_same (i := 2) (v := x i15) (set_same (i := 1) (v := x i8) hcell)
    exact this
  · have := own_at (w' := W) a1 (fun j hj => hst j (fun e => own_ne_cells hcell a1 (by decide) (e ▸ hj)))
    simpa [ints] using this
  · have := own_at (w' := W) b1 (fun j hj => hst j (fun e => own_ne_cells hcell b1 (by decide) (e ▸ hj)))
    simpa using this
  · exact own_at h.rt (fun j hj => hold j (own_base h.rt j hj).2 (fun e => own_ne_cells h.cells h.rt (by decide) (e ▸ hj)) (fun e => h.ne1 j e hj) (own_ne h.rt h.rb (by decide) j hj))
  · exact own_at h.rw (fun j hj => hold j (own_base h.rw j hj).2 (fun e => own_ne_cells h.cells h.rw (by decide) (e ▸ hj)) (own_ne h.rw h.ra (by decide) j hj) (fun e => h.ne2 j e hj))
  · exact (h.sb.map hsec).snoc (p := (i, xs)) (hsec v xs hv)
  · intro k hk hk'
    rcases a2 with e | ⟨k', e, hle⟩
    · exact h.ne1 k (e ▸ hk) hk'
    · have : k' = k := by rw [e] at hk; injection hk
      have := h.lt k (h.ft k hk')
      omega
  · intro k hk hk'
    rcases b2 with e | ⟨k', e, hle⟩
    · exact h.ne2 k (e ▸ hk) hk'
    · have : k' = k := by rw [e] at hk; injection hk
      have := h.lt k (h.fw k hk')
      omega
  · intro k hk
    rcases a2 with e | ⟨k', e, hle⟩
    · exact .inl (h.fa k (e ▸ hk))
    · have : k' = k := by rw [e] at hk; injection hk
      exact .inr ⟨by omega, (own_base a1 k hk).2⟩
  · intro k hk
    rcases b2 with e | ⟨k', e, hle⟩
    · exact .inl (h.fb k (e ▸ hk))
    · have : k' = k := by rw [e] at hk; injection hk
      exact .inr ⟨by omega, (own_base b1 k hk).2⟩
  · rintro k (hk | ⟨_, hk⟩)
    · have := h.lt k hk
      have := hG.size
      omega
    · omega
  · exact ⟨h.ok.n, by simp; omega, h.ok.since, h.ok.left⟩
  · refine ⟨by rw [hW]; exact hos.1, by rw [hW]; exact hos.2.1, by rw [hW]; exact hos.2.2, by have := hG.size; omega, fun j hj hF => hold j hj (fun e => hF (e ▸ h.fr)) (fun e => hF (h.fa j e)) (fun e => hF (h.fb j e)), ?_⟩
    rintro k (hk | ⟨hk, _⟩)
    · exact .inl hk
    · exact .inr hk
end
section
variable {w w' : World} {F : Nat → Prop} {r : Nat} {R : RS} {av bv tv wv : Value} {bs ws : List Value}
theorem own_cell {B e n c g k : Nat} {cs : List Value} (h : w.ownsRow B e 1 (.slice (some ⟨g, 0, none⟩) n c) n cs) (hk : k < cs.length) : w.cell? ⟨g, k, none⟩ = some cs[k] := by
  have := h.cells (g := g) rfl k _ (List.getElem?_eq_getElem hk)
  have e : (⟨g, 0, none⟩ : Addr).add k = ⟨g, k, none⟩ := by unfold Addr.add; split <;> simp_all
  rwa [e] at this
theorem own_frozen {B e sz n c g : Nat} {cs : List Value} (h : w.ownsRow B e sz (.slice (some ⟨g, 0, none⟩) n c) n cs) (k : Nat) : w.frozen? ⟨g, k, none⟩ = false := by
  rcases h.2 with ⟨hv, _⟩ | ⟨g', cap, cur, hv, _, hh, _⟩
  · cases hv
  · injection hv with hA _ _
    injection hA with hA
    injection hA with hA
    subst hA
    exact frozen_of_row w g k _ _ hh
theorem ints_at (l : List (Int × List Int)) {k : Nat} (hk : k < l.length) : (ints l)[k]? = some (.int .i64 l[k].1) := by simp [ints, hk]
theorem RefP.intA (h : RefP w F r R av bv tv wv bs ws) {g c k : Nat} (hav : av = .slice (some ⟨g, 0, none⟩) R.fs.length c) (hk : k < R.fs.length) : w.cell? ⟨g, k, none⟩ = some (.int .i64 R.fs[k].1) := by
  subst hav
  have := h.ra.cells (g := g) rfl k _ (ints_at R.fs hk)
  have e : (⟨g, 0, none⟩ : Addr).add k = ⟨g, k, none⟩ := by unfold Addr.add; split <;> simp_all
  rwa [e] at this
set_option maxRecDepth 100000 in
set_option maxHeartbeats 2000000 in
theorem ref_set (h : RefAt w F r R) (si : Int) {v : Value} {xs : List Int} (hv : RSec w F v xs) (hroom : R.fs.length < 1000000000) : Calls Try.prog 81 #[.pointer (some ⟨r, 0, none⟩), .int .i64 si, v] w (RetRef w F r (.tuple #[]) { R with fs := setL si xs R.fs }) := by
  obtain ⟨A, c, hve, _⟩ := own_form hv.row
  obtain ⟨av, bv, tv, wv, bs, ws, hp⟩ := h
  obtain ⟨Aa, ca, hav, hca1, hca2⟩ := own_form hp.ra
  obtain ⟨Ab, cb, hbv, hcb1, hcb2⟩ := own_form hp.rb
  have HV := Lib.hid hv; clear hv
  subst hve
  have HP := Lib.hid hp; clear hp
  have HC := Lib.hid (show RCells w r _ _ _ _ _ _ _ _ from HP.out.cells)
  have hr0 : r < w.heap.size := HP.out.lt r HP.out.fr
  have HNA := Lib.hid (own_ne_cells HP.out.cells HP.out.ra (by decide))
  have HNB := Lib.hid (own_ne_cells HP.out.cells HP.out.rb (by decide))
  have HKR := Lib.hid (fun (w' : World) (hk : w'.heap[r]? = w.heap[r]?) => RCells.cells (show RCells w' r _ _ _ _ _ _ _ _ from hk.trans HC.out))
  obtain ⟨n, hn⟩ : ∃ n, n = R.fs.length := ⟨_, rfl⟩
  have hnl : n ≤ 1000000000 := by omega
  obtain ⟨RE, hRE⟩ : ∃ RE, RE = RetRef w F r (.tuple #[]) { R with fs := setL si xs R.fs } := ⟨_, rfl⟩
  rw [← hRE]
  have HRE := Lib.hid hRE; clear hRE
  have HN := Lib.hid hn; clear hn
  have HAV := Lib.hid hav
  have HBV := Lib.hid hbv
  obtain ⟨⟨c0, c1, c2, c3, c4, c5, c6, c7⟩, _⟩ := HC.out.cells
  rw [hav, ← HN.out] at c1
  rw [hbv, ← HN.out] at c2
  rw [← HN.out] at hca1 hcb1
  clear hav hbv
  go_enter Try.func81, Try.ntmps81
  go_wp2_with fail
  go_loop [6] (fun i => ∃ k : Nat, k ≤ n ∧ i = .int .i64 k ∧ Hid (∀ j (h : j < R.fs.length), j < k → R.fs[j].1 ≠ si)) (fun i => n - (intOf i).toNat)
  case atStart => exact ⟨0, Nat.zero_le _, rfl, Lib.hid (fun j _ h => absurd h (by omega))⟩
  case round =>
    obtain ⟨k, hk, rfl, HJ⟩ := hrel
    by_cases hlt : k < n
    · have hkl : k < R.fs.length := by rw [← HN.out]; exact hlt
      obtain ⟨g, hg⟩ := own_addr (by have := HP.out.ra; rw [HAV.out] at this; exact this) (by omega : 0 < R.fs.length)
      subst hg
      have hck := HP.out.intA HAV.out hkl
      obtain ⟨z, hz⟩ : ∃ z, z = R.fs[k].1 := ⟨_, rfl⟩
      rw [← hz] at hck
      have HZ := Lib.hid hz; clear hz
      by_cases heq : z = si
      · have hbq : (z == si) = true := by simp [heq]
        have HEQ : Hid (R.fs[k].1 = si) := HZ.out.symm.trans heq
        clear heq
        obtain ⟨gb, hgb⟩ := own_addr (by have := HP.out.rb; rw [HBV.out] at this; exact this) (by omega : 0 < R.fs.length)
        subst hgb
        have hfin : Hid (RE (.returned (.tuple #[])) (w.setCell ⟨gb, k, none⟩ (.slice A 512 c))) := by
          show RE _ _
          rw [HRE.out, setL_at si xs R.fs k hkl HJ.out HEQ.out]
          exact HP.out.hit HV.out HBV.out hkl HEQ.out
        have hkb : k < bs.length := by rw [HP.out.sb.1]; exact hkl
        have hcb := own_cell (by have := HP.out.rb; rw [HBV.out] at this; exact this) hkb
        have hfb := own_frozen (by have := HP.out.rb; rw [HBV.out] at this; exact this) k
        obtain ⟨zb, hzb⟩ : ∃ zb, zb = bs[k] := ⟨_, rfl⟩
        rw [← hzb] at hcb
        clear hzb hkb
        go_wp2
        refine ⟨rfl, .tuple #[], by simp [results, Try.results81], hfin.out⟩
      · have hbq : (z == si) = false := by simp [heq]
        have HNE : Hid (R.fs[k].1 ≠ si) := by show _ ≠ _; rw [← HZ.out]; exact heq
        clear heq
        go_wp2
        go_round
        case rel => exact ⟨k + 1, by omega, by go_num, Lib.hid (fun j hj hjk => by
          by_cases e : j = k
          · subst e; exact HNE.out
          · exact HJ.out j hj (by omega))⟩
        case measure => simp [intOf]; omega
    · go_wp2_with fail
      have hend : Hid (setL si xs R.fs = R.fs ++ [(si, xs)]) := setL_end si xs R.fs (fun j hj => HJ.out j hj (by have := HN.out; omega))
      clear c0 c1 c2 c3 c4 c5 c6 c7
      refine region_frontJ (by kernel_rfl) (fun W => W.os = w.os ∧ W.tape = w.tape ∧ W.output = w.output) ⟨rfl, rfl, rfl⟩ (fun | 0 => some (.pointer (some ⟨r, 0, none⟩)) | 1 => some (.pointer (some ⟨r, 0, none⟩)) | 2 => some (.pointer (some ⟨r, 0, none⟩)) | 3 => some (.pointer (some ⟨r, 0, none⟩)) | 4 => some (.pointer (some ⟨r, 1, none⟩)) | 5 => some av | 6 => some (.int .i64 si) | 9 => some (.pointer (some ⟨r, 0, none⟩)) | 10 => some (.pointer (some ⟨r, 0, none⟩)) | 11 => some (.pointer (some ⟨r, 2, none⟩)) | 12 => some bv | 13 => some (.slice A 512 c) | 16 => some (.pointer (some ⟨r, 0, none⟩)) | 17 => some (.pointer (some ⟨r, 1, none⟩)) | _ => none)
        (AGS (AG w 3 33 av bv R.fs.length R.fs.length (ints R.fs) bs (.int .i64 si) (fun _ => .slice A 512 c) 7 8 14 15) (fun W => W.os = w.os ∧ W.tape = w.tape ∧ W.output = w.output) r 8 18 1) 19 52 (by decide) rfl (by kernel_rfl) (by kernel_rfl) (by kernel_rfl) (by kernel_rfl) ?_ ?_ ?_
      · intro w' hw'; exact AGS.init (AG.init hw')
      · intro i hi d x a w' hb hsame hanc hdi hdesc hG
        have b0 : a.tmps.getD 0 undef = .pointer (some ⟨r, 0, none⟩) := by rw [Array.getD_eq_getD_getElem?, hsame 0 (by decide +kernel)]; rfl
        have e0 := (Array.getD_eq_getD_getElem? (xs := a.tmps) (i := 0) (d := undef)).symm.trans b0
        have b1 : a.tmps.getD 1 undef = .int .i64 si := by rw [Array.getD_eq_getD_getElem?, hsame 1 (by decide +kernel)]; rfl
        have e1 := (Array.getD_eq_getD_getElem? (xs := a.tmps) (i := 1) (d := undef)).symm.trans b1
        have b2 : a.tmps.getD 2 undef = .slice A 512 c := by rw [Array.getD_eq_getD_getElem?, hsame 2 (by decide +kernel)]; rfl
        have e2 := (Array.getD_eq_getD_getElem? (xs := a.tmps) (i := 2) (d := undef)).symm.trans b2
        match i, hi with
        | 0, _ =>
          exact rstepJ_det rfl rfl rfl rfl (by simp [go_sem, b0, e0]) (hG.keep (by decide) (fun _ z => z.other (by decide) (.inl rfl))) hb
        | 1, _ =>
          exact rstepJ_det rfl rfl rfl rfl (by simp [go_sem, b0, e0]) (hG.keep (by decide) (fun _ z => z.other (by decide) (.inl rfl))) hb
        | 2, _ =>
          exact rstepJ_det rfl rfl rfl rfl (by simp [go_sem, b0, e0]) (hG.keep (by decide) (fun _ z => z.other (by decide) (.inl rfl))) hb
        | 3, _ =>
          have t34 : a.tmps.getD 34 undef = .pointer (some ⟨r, 0, none⟩) := (show a.tmps.getD 34 undef = x 2 from (hanc 2 (by decide +kernel)).2.1).trans ((hanc 2 (by decide +kernel)).2.2 _ rfl)
          have u34 := (Array.getD_eq_getD_getElem? (xs := a.tmps) (i := 34) (d := undef)).symm.trans t34
          exact rstepJ_det rfl rfl rfl rfl (by simp [go_sem, t34, u34]) (hG.keep (by decide) (fun _ z => z.other (by decide) (.inl rfl))) hb
        | 4, _ =>
          have t35 : a.tmps.getD 35 undef = .pointer (some ⟨r, 0, none⟩) := (show a.tmps.getD 35 undef = x 3 from (hanc 3 (by decide +kernel)).2.1).trans ((hanc 3 (by decide +kernel)).2.2 _ rfl)
          have u35 := (Array.getD_eq_getD_getElem? (xs := a.tmps) (i := 35) (d := undef)).symm.trans t35
          exact rstepJ_det rfl rfl rfl rfl (by simp [go_sem, t35, u35]) (hG.keep (by decide) (fun _ z => z.other (by decide) (.inl rfl))) hb
        | 5, _ =>
          have t36 : a.tmps.getD 36 undef = .pointer (some ⟨r, 1, none⟩) := (show a.tmps.getD 36 undef = x 4 from (hanc 4 (by decide +kernel)).2.1).trans ((hanc 4 (by decide +kernel)).2.2 _ rfl)
          have u36 := (Array.getD_eq_getD_getElem? (xs := a.tmps) (i := 36) (d := undef)).symm.trans t36
          have h18 := hdesc 18 (by decide) (by decide +kernel)
          have hA := hG.1 h18
          have hc := (HKR.out w' (hA.keep r hr0 (fun _ => HNA.out) (fun _ => HNB.out))).1.2.1
          exact rstepJ_det rfl rfl rfl rfl (by simp [go_sem, t36, u36, hc]) (AGS.step (by decide) h18 (hA.other (by decide) (.inl rfl))) hb
        | 6, _ =>
          exact rstepJ_det rfl rfl rfl rfl (by simp [go_sem, b1, e1]) (hG.keep (by decide) (fun _ z => z.other (by decide) (.inl rfl))) hb
        | 7, _ =>
          have t38 : a.tmps.getD 38 undef = .int .i64 si := (show a.tmps.getD 38 undef = x 6 from (hanc 6 (by decide +kernel)).2.1).trans ((hanc 6 (by decide +kernel)).2.2 _ rfl)
          have u38 := (Array.getD_eq_getD_getElem? (xs := a.tmps) (i := 38) (d := undef)).symm.trans t38
          have h18 := hdesc 18 (by decide) (by decide +kernel)
          have hA := hG.1 h18
          exact rstepJ_run (v := .slice (some ⟨w'.heap.size, 0, none⟩) 1 1) (w' := w'.alloc (.cells #[.int .i64 si] 3)) rfl rfl rfl rfl (by simp [go_sem, t38, u38]) (AGS.step (by decide) h18 (hA.build7 (by decide) (hdesc 8 (by decide) (by decide +kernel)) (fun _ => rfl))) hb
        | 8, _ =>
          have t37 : a.tmps.getD 37 undef = av := (show a.tmps.getD 37 undef = x 5 from (hanc 5 (by decide +kernel)).2.1).trans ((hanc 5 (by decide +kernel)).2.2 _ rfl)
          have u37 := (Array.getD_eq_getD_getElem? (xs := a.tmps) (i := 37) (d := undef)).symm.trans t37
          have t39 : a.tmps.getD 39 undef = x 7 := (hanc 7 (by decide +kernel)).2.1
          have d7 : d 7 = true := (hanc 7 (by decide +kernel)).1
          have u39 := (Array.getD_eq_getD_getElem? (xs := a.tmps) (i := 39) (d := undef)).symm.trans t39
          have h18 := hdesc 18 (by decide) (by decide +kernel)
          have hA := hG.1 h18
          obtain ⟨g7, e7, hg7, hc7⟩ := hA.l7 d7
          have h15 := hdesc 15 (by decide) (by decide +kernel)
          obtain ⟨v8, w8, hrun, ho8, hgr, hbk⟩ := run_app w' (ty := 23) ty_ints (hA.row8 HP.out.ra hdi h15) (c := 1) (rdC_cell1 (hc7 hdi)) (by simp [Value.oneCell']) (by have := HP.out.ok.fs; omega) (by have := HP.out.ok.fs; unfold maxLen; omega) (Nat.zero_le _)
          exact rstepJ_run (v := v8) (w' := w8) rfl rfl rfl rfl (exec_app rfl t37 (t39.trans e7) hrun) (AGS.step (by decide) h18 (hA.app8 HP.out.ra (by decide) (by decide) h15 (fun _ => rfl) hgr ho8 hbk)) ⟨hgr.os.trans hb.1, hgr.tape.trans hb.2.1, hgr.output.trans hb.2.2⟩
        | 9, _ =>
          exact rstepJ_det rfl rfl rfl rfl (by simp [go_sem, b0, e0]) (hG.keep (by decide) (fun _ z => z.other (by decide) (.inl rfl))) hb
        | 10, _ =>
          have t41 : a.tmps.getD 41 undef = .pointer (some ⟨r, 0, none⟩) := (show a.tmps.getD 41 undef = x 9 from (hanc 9 (by decide +kernel)).2.1).trans ((hanc 9 (by decide +kernel)).2.2 _ rfl)
          have u41 := (Array.getD_eq_getD_getElem? (xs := a.tmps) (i := 41) (d := undef)).symm.trans t41
          exact rstepJ_det rfl rfl rfl rfl (by simp [go_sem, t41, u41]) (hG.keep (by decide) (fun _ z => z.other (by decide) (.inl rfl))) hb
        | 11, _ =>
          have t42 : a.tmps.getD 42 undef = .pointer (some ⟨r, 0, none⟩) := (show a.tmps.getD 42 undef = x 10 from (hanc 10 (by decide +kernel)).2.1).trans ((hanc 10 (by decide +kernel)).2.2 _ rfl)
          have u42 := (Array.getD_eq_getD_getElem? (xs := a.tmps) (i := 42) (d := undef)).symm.trans t42
          exact rstepJ_det rfl rfl rfl rfl (by simp [go_sem, t42, u42]) (hG.keep (by decide) (fun _ z => z.other (by decide) (.inl rfl))) hb
        | 12, _ =>
          have t43 : a.tmps.getD 43 undef = .pointer (some ⟨r, 2, none⟩) := (show a.tmps.getD 43 undef = x 11 from (hanc 11 (by decide +kernel)).2.1).trans ((hanc 11 (by decide +kernel)).2.2 _ rfl)
          have u43 := (Array.getD_eq_getD_getElem? (xs := a.tmps) (i := 43) (d := undef)).symm.trans t43
          have h18 := hdesc 18 (by decide) (by decide +kernel)
          have hA := hG.1 h18
          have hc := (HKR.out w' (hA.keep r hr0 (fun _ => HNA.out) (fun _ => HNB.out))).1.2.2.1
          exact rstepJ_det rfl rfl rfl rfl (by simp [go_sem, t43, u43, hc]) (AGS.step (by decide) h18 (hA.other (by decide) (.inl rfl))) hb
        | 13, _ =>
          exact rstepJ_det rfl rfl rfl rfl (by simp [go_sem, b2, e2]) (hG.keep (by decide) (fun _ z => z.other (by decide) (.inl rfl))) hb
        | 14, _ =>
          have t45 : a.tmps.getD 45 undef = .slice A 512 c := (show a.tmps.getD 45 undef = x 13 from (hanc 13 (by decide +kernel)).2.1).trans ((hanc 13 (by decide +kernel)).2.2 _ rfl)
          have u45 := (Array.getD_eq_getD_getElem? (xs := a.tmps) (i := 45) (d := undef)).symm.trans t45
          have h18 := hdesc 18 (by decide) (by decide +kernel)
          have hA := hG.1 h18
          exact rstepJ_run (v := .slice (some ⟨w'.heap.size, 0, none⟩) 1 1) (w' := w'.alloc (.cells #[.slice A 512 c] 33)) rfl rfl rfl rfl (by simp [go_sem, t45, u45]) (AGS.step (by decide) h18 (hA.build14 (by decide) (hdesc 15 (by decide) (by decide +kernel)) (fun _ => rfl))) hb
        | 15, _ =>
          have t44 : a.tmps.getD 44 undef = bv := (show a.tmps.getD 44 undef = x 12 from (hanc 12 (by decide +kernel)).2.1).trans ((hanc 12 (by decide +kernel)).2.2 _ rfl)
          have u44 := (Array.getD_eq_getD_getElem? (xs := a.tmps) (i := 44) (d := undef)).symm.trans t44
          have t46 : a.tmps.getD 46 undef = x 14 := (hanc 14 (by decide +kernel)).2.1
          have d14 : d 14 = true := (hanc 14 (by decide +kernel)).1
          have u46 := (Array.getD_eq_getD_getElem? (xs := a.tmps) (i := 46) (d := undef)).symm.trans t46
          have h18 := hdesc 18 (by decide) (by decide +kernel)
          have hA := hG.1 h18
          obtain ⟨g14, e14, hg14, hc14⟩ := hA.l14 d14
          obtain ⟨v8, w8, hrun, ho8, hgr, hbk⟩ := run_app w' (ty := 40) ty_byteses (hA.row15 HP.out.ra HP.out.rb (by decide) hdi) (c := 1) (rdC_cell1 (hc14 hdi)) (by simp [Value.oneCell']) (by have := HP.out.ok.fs; omega) (by have := HP.out.ok.fs; unfold maxLen; omega) (Nat.zero_le _)
          exact rstepJ_run (v := v8) (w' := w8) rfl rfl rfl rfl (exec_app rfl t44 (t46.trans e14) hrun) (AGS.step (by decide) h18 (hA.app15 HP.out.rb HP.out.ra (by decide) (by decide) (fun _ => rfl) hgr ho8 hbk (hanc 8 (by decide +kernel)).1)) ⟨hgr.os.trans hb.1, hgr.tape.trans hb.2.1, hgr.output.trans hb.2.2⟩
        | 16, _ =>
          have t32 : a.tmps.getD 32 undef = .pointer (some ⟨r, 0, none⟩) := (show a.tmps.getD 32 undef = x 0 from (hanc 0 (by decide +kernel)).2.1).trans ((hanc 0 (by decide +kernel)).2.2 _ rfl)
          have u32 := (Array.getD_eq_getD_getElem? (xs := a.tmps) (i := 32) (d := undef)).symm.trans t32
          exact rstepJ_det rfl rfl rfl rfl (by simp [go_sem, t32, u32]) (hG.keep (by decide) (fun _ z => z.other (by decide) (.inl rfl))) hb
        | 17, _ =>
          have t48 : a.tmps.getD 48 undef = .pointer (some ⟨r, 0, none⟩) := (show a.tmps.getD 48 undef = x 16 from (hanc 16 (by decide +kernel)).2.1).trans ((hanc 16 (by decide +kernel)).2.2 _ rfl)
          have u48 := (Array.getD_eq_getD_getElem? (xs := a.tmps) (i := 48) (d := undef)).symm.trans t48
          exact rstepJ_det rfl rfl rfl rfl (by simp [go_sem, t48, u48]) (hG.keep (by decide) (fun _ z => z.other (by decide) (.inl rfl))) hb
        | 18, _ =>
          have t49 : a.tmps.getD 49 undef = .pointer (some ⟨r, 1, none⟩) := (show a.tmps.getD 49 undef = x 17 from (hanc 17 (by decide +kernel)).2.1).trans ((hanc 17 (by decide +kernel)).2.2 _ rfl)
          have u49 := (Array.getD_eq_getD_getElem? (xs := a.tmps) (i := 49) (d := undef)).symm.trans t49
          have t40 : a.tmps.getD 40 undef = x 8 := (hanc 8 (by decide +kernel)).2.1
          have d8 : d 8 = true := (hanc 8 (by decide +kernel)).1
          have u40 := (Array.getD_eq_getD_getElem? (xs := a.tmps) (i := 40) (d := undef)).symm.trans t40
          have hA := hG.1 hdi
          obtain ⟨A8, c8, e8, _⟩ := own_form (hA.a8 d8).1
          obtain ⟨hc, hfz⟩ := HKR.out w' (hA.keep r hr0 (fun _ => HNA.out) (fun _ => HNB.out))
          have hc1 := hc.2.1
          have f1 := hfz 1
          have hst := hG.store (by decide) hdi hb (fun _ z => z.other (by decide) (.inl rfl))
          rw [e8] at t40 u40 hst
          exact rstepJ_skip rfl rfl rfl rfl (by simp [go_sem, t49, u49, t40, u40, hc1, f1]) hst hb
        | (m + 19), h => exact absurd h (by omega)
      · intro d x W hos0 hall hGG
        have d8 := (hall 8 (by omega)).1
        have d15 := (hall 15 (by omega)).1
        obtain ⟨w', hG, hos, hWe⟩ := hGG.2 (hall 18 (by omega)).1
        subst hWe
        have hfin : Hid (RE (.returned (.tuple #[])) ((w'.setCell ⟨r, 1, none⟩ (x 8)).setCell ⟨r, 2, none⟩ (x 15))) := by
          show RE _ _
          rw [HRE.out, hend.out]
          exact HP.out.put HV.out rfl hG d8 d15 hos hroom
        have hr' := hG.keep r hr0 (fun _ => HNA.out) (fun _ => HNB.out)
        obtain ⟨⟨c0, c1, c2, c3, c4, c5, c6, c7⟩, hfz⟩ := HKR.out w' hr'
        have f2 := hfz 2
        obtain ⟨A8, c8, e8, _⟩ := own_form (hG.a8 d8).1
        obtain ⟨A9, c9, e9, _⟩ := own_form (hG.a15 d15).1
        have e1 := (hall 1 (by omega)).2 _ rfl
        simp only [rfill, rdst, List.getElem?_toArray, List.getElem?_cons_zero, List.getElem?_cons_succ, Option.bind_some, Act.put, List.setIfInBounds_toArray, List.set_cons_zero, List.set_cons_succ, List.drop_succ_cons, List.drop_zero]
        rw [e8, e9] at hfin
        rw [e1, e8, e9]
        clear e1 e8 e9 hall hG hGG hr' hfz
        go_wp2_with fail
        refine ⟨rfl, .tuple #[], by simp [results, Try.results81], hfin.out⟩
end
end Go.Proofs.Ytfngadidlmbfdaa
