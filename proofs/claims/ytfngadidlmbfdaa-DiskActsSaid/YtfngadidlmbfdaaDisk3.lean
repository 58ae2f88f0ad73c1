/-
  A disk's Write.
-/
import Derived.Test.YtfngadidlmbfdaaDisk2
import Derived.Test.YtfngadidlmbfdaaRegJ
import Derived.Test.YtfngadidlmbfdaaBuild1
import Derived.Laws.CopyOwn
namespace Go.Proofs.Ytfngadidlmbfdaa
open Go.RowKit Go.ChangeMaps
set_option linter.unusedVariables false
set_option linter.unusedSimpArgs false
def DS.writeE (S : DS) (i : Int) (b : List Int) : Int := if S.callE ≠ 0 then S.callE else if S.thereE i ≠ 0 then S.thereE i else if 512 < b.length then 2 else 0
def pad512 (b : List Int) : List Int := b ++ List.replicate (512 - b.length) 0
def DS.write (S : DS) (i : Int) (b : List Int) : DS := if S.writeE i b = 0 then { S.call with since := S.since ++ [(i, pad512 b)] } else S.call
theorem zc_write : Try.zeroCells173 = (wrCells (0, zeroSec)).toArray := by kernel_rfl
theorem sz_write : (Try.prog.info? 173).map (·.size) = some 513 := by kernel_rfl
theorem inf_write : (Try.prog.info? 173).map (fun i => (i.zero, i.size, i.bytes)) = some (some (.agg (wrCells (0, zeroSec)).toArray), 513, 520) := by kernel_rfl
theorem ty_writes : SlTy Try.prog 130 173 513 520 := SlTy.mk' _ Try.underlying130 inf_write (by kernel_rfl) (by decide)
theorem sz_byte : (Try.prog.info? 5).map (·.size) = some 1 := by kernel_rfl
theorem zeroSec_len : zeroSec.length = 512 := List.length_replicate
theorem wrCells_len {p : Int × List Int} (h : p.2.length = 512) : (wrCells p).length = 513 := by simp [wrCells, h]
theorem wrCells_one (p : Int × List Int) : ∀ v ∈ wrCells p, v.oneCell' = true := by
  intro v hv
  simp only [wrCells, List.mem_cons, List.mem_map] at hv
  rcases hv with rfl | ⟨x, _, rfl⟩ <;> rfl
theorem wr_start (i : Int) : Array.setIfInBounds Try.zeroCells173 0 (.int .i64 i) = (wrCells (i, zeroSec)).toArray := by rw [zc_write]; simp [wrCells]
theorem splice_zeros (N : Nat) (v z : Value) (bc : List Value) : splice (v :: List.replicate N z) 1 bc = v :: (bc ++ List.replicate (N - bc.length) z) := by
  unfold splice
  rw [show 1 + bc.length = bc.length + 1 by omega, List.drop_succ_cons, List.drop_replicate]
  rfl
theorem wr_splice (i : Int) (b : List Int) : splice (wrCells (i, zeroSec)) 1 (b.map (Value.int .u8)) = wrCells (i, pad512 b) := by
  unfold wrCells pad512 zeroSec
  rw [List.map_replicate, splice_zeros, List.map_append, List.map_replicate, List.length_map]
/-- Nothing old is touched. -/
def Old (w w' : World) : Prop := w.heap.size ≤ w'.heap.size ∧ ∀ k, k < w.heap.size → w'.heap[k]? = w.heap[k]?
def wrG (w3 : World) (sv : Value) (n : Nat) (cs wc : List Value) (d : Nat → Bool) (x : Nat → Value) (w : World) : Prop :=
  (d 7 = false → Old w3 w) ∧ (d 6 = true → ∃ g1, x 6 = .slice (some ⟨g1, 0, none⟩) 1 1 ∧ (d 7 = false → RdC 513 w (some ⟨g1, 0, none⟩) 1 wc)) ∧
  (d 7 = true → ∃ w4, Old w3 w4 ∧ w4.grownBy w sv.ownBlock ∧ w.ownsRow 0 173 513 (x 7) (n + 1) (cs ++ wc) ∧ ((x 7).ownBlock = sv.ownBlock ∨ ∃ k, (x 7).ownBlock = some k ∧ w3.heap.size ≤ k))
theorem own_ne_cells {w : World} {q t B e sz n : Nat} {cs : Array Value} {fr : Nat × Nat} {v : Value} {xs : List Value} (hq : w.heap[q]? = some (.cells cs t fr)) (h : w.ownsRow B e sz v n xs) (hne : t ≠ e) : v.ownBlock ≠ some q := by
  intro hk
  rcases h.2 with ⟨rfl, _⟩ | ⟨g, cap, cur, rfl, _, hh, _⟩
  · simp [Value.ownBlock] at hk
  · have : g = q := by simpa [Value.ownBlock] using hk
    subst this
    rw [hq] at hh
    injection hh with hh
    injection hh with _ ht
    exact hne ht
theorem own_ne_map {w : World} {m B e sz n : Nat} {f : Int → Option Value} {v : Value} {xs : List Value} (hm : MapI w m f) (h : w.ownsRow B e sz v n xs) : v.ownBlock ≠ some m := by
  intro hk
  obtain ⟨es, clock, ms, hb, _⟩ := hm
  rcases h.2 with ⟨rfl, _⟩ | ⟨g, cap, cur, rfl, _, hh, _⟩
  · simp [Value.ownBlock] at hk
  · have : g = m := by simpa [Value.ownBlock] using hk
    subst this
    rw [hb] at hh
    cases hh
theorem DS.there_call (S : DS) (i : Int) : S.call.thereE i = S.thereE i := by
  have h : S.call.n = S.n := by unfold DS.call; split <;> rfl
  unfold DS.thereE
  rw [h]
theorem DS.since_call (S : DS) : S.call.since = S.since := by unfold DS.call; split <;> rfl
theorem DS.write_ok {S : DS} {i : Int} {b : List Int} (h1 : 0 = S.callE) (h2 : 0 = S.call.thereE i) (h3 : ¬ 512 < b.length) : S.writeE i b = 0 ∧ S.write i b = { S.call with since := S.call.since ++ [(i, pad512 b)] } := by
  rw [DS.there_call] at h2
  have h : S.writeE i b = 0 := by unfold DS.writeE; rw [← h1, ← h2, if_neg (by simp), if_neg (by simp), if_neg h3]
  exact ⟨h, by unfold DS.write; rw [if_pos h, DS.since_call]⟩
theorem DS.write_no1 {S : DS} {i : Int} {b : List Int} (h1 : S.callE ≠ 0) : S.writeE i b = S.callE ∧ S.write i b = S.call := by
  have h : S.writeE i b = S.callE := by unfold DS.writeE; rw [if_pos h1]
  exact ⟨h, by unfold DS.write; rw [if_neg (by rw [h]; exact h1)]⟩
theorem DS.write_no2 {S : DS} {i : Int} {b : List Int} (h1 : 0 = S.callE) (h2 : S.call.thereE i ≠ 0) : S.writeE i b = S.call.thereE i ∧ S.write i b = S.call := by
  rw [DS.there_call] at h2 ⊢
  have h : S.writeE i b = S.thereE i := by unfold DS.writeE; rw [← h1, if_neg (by simp), if_pos h2]
  exact ⟨h, by unfold DS.write; rw [if_neg (by rw [h]; exact h2)]⟩
theorem DS.write_no3 {S : DS} {i : Int} {b : List Int} (h1 : 0 = S.callE) (h2 : 0 = S.call.thereE i) (h3 : 512 < b.length) : S.writeE i b = 2 ∧ S.write i b = S.call := by
  rw [DS.there_call] at h2
  have h : S.writeE i b = 2 := by unfold DS.writeE; rw [← h1, ← h2, if_neg (by simp), if_neg (by simp), if_pos h3]
  exact ⟨h, by unfold DS.write; rw [if_neg (by rw [h]; simp)]⟩
theorem rd_src {α : Type} {enc : α → Value} {w : World} {A : Option Addr} {xs : List α} (h : Rd enc w A xs) (hp : 0 < xs.length) : ∃ ad, A = some ad ∧ ∀ (j : Nat) (v : Value), (xs.map enc)[j]? = some v → w.cell? (ad.add j) = some v := by
  obtain ⟨g, o, rfl, hc⟩ := h hp
  refine ⟨_, rfl, fun j v hv => ?_⟩
  rw [List.getElem?_map] at hv
  obtain ⟨y, hy, rfl⟩ := Option.map_eq_some_iff.1 hv
  obtain ⟨hj, rfl⟩ := List.getElem?_eq_some_iff.1 hy
  have := hc j hj
  unfold Addr.add
  split
  · rename_i h0; subst h0; simpa using this
  · exact this
theorem pad512_len {b : List Int} (h : b.length ≤ 512) : (pad512 b).length = 512 := by simp [pad512]; omega
theorem lenI (i : Int) : (wrCells (i, zeroSec)).length = 513 := wrCells_len (p := (i, zeroSec)) zeroSec_len
set_option maxRecDepth 100000 in
set_option maxHeartbeats 1000000 in
theorem disk_write {w : World} {F : Nat → Prop} {q : Nat} {S : DS} (h : DiskAt w F q S) (si : Int) (A : Option Addr) (b : List Int) (c : Nat) (hb : Rd (Value.int .u8) w A b) (hl : b.length ≤ 140737488355328)
    (hF : ∀ a, A = some a → ¬ F a.block) (hroom : S.since.length < 1000000000) : Calls Try.prog 83 #[.pointer (some ⟨q, 0, none⟩), .int .i64 si, .slice A b.length c] w (RetDisk w F q (.int .i64 (S.writeE si b)) (S.write si b)) := by
  have H1 := Lib.hid (disk_call h)
  have H := Lib.hid h; clear h
  have HB := Lib.hid hb; clear hb
  obtain ⟨E, hE⟩ : ∃ E, E = S.callE := ⟨_, rfl⟩
  rw [← hE] at H1
  have EE := Lib.hid hE; clear hE
  obtain ⟨T, hT⟩ : ∃ T, T = S.thereE si := ⟨_, rfl⟩
  have ET := Lib.hid hT; clear hT
  obtain ⟨We, hWe⟩ : ∃ We, We = S.writeE si b := ⟨_, rfl⟩
  obtain ⟨Ws, hWs⟩ : ∃ Ws, Ws = S.write si b := ⟨_, rfl⟩
  rw [← hWe, ← hWs]
  have EWe := Lib.hid hWe; clear hWe
  have EWs := Lib.hid hWs; clear hWs
  go_enter Try.func83, Try.ntmps83
  go_wp2_with fail
  refine H1.out.mono ?_
  rintro e w1 ⟨rfl, F1, hd1, hf1⟩
  have HD1 := Lib.hid hd1; clear hd1
  have HF1 := Lib.hid hf1; clear hf1
  by_cases h0 : E = 0
  · subst h0
    go_wp2_with fail
    refine (disk_there HD1.out si).mono ?_
    rintro e w2 ⟨rfl, F2, hd2, hf2⟩
    have HD2 := Lib.hid hd2; clear hd2
    have HF2 := Lib.hid (HF1.out.trans hf2); clear hf2
    obtain ⟨T2, hT2⟩ : ∃ T2, T2 = S.call.thereE si := ⟨_, rfl⟩
    rw [← hT2]
    have ET2 := Lib.hid hT2; clear hT2
    by_cases ht : T2 = 0
    · subst ht
      by_cases hlen : 512 < b.length
      · have hw := DS.write_no3 (i := si) EE.out ET2.out hlen
        have HW1 : Hid (We = 2) := EWe.out.trans hw.1
        have HW2 : Hid (Ws = S.call) := EWs.out.trans hw.2
        clear hw
        go_wp2_with fail
        go_ret
        exact ⟨by rw [HW1.out]; rfl, F2, by rw [HW2.out]; exact HD2.out, HF2.out⟩
      · have hB2 : Rd (Value.int .u8) w2 A b := fun hn => by
          obtain ⟨g, o, rfl, hc⟩ := HB.out hn
          refine ⟨g, o, rfl, fun j hj => ?_⟩
          have h1 := hc j hj
          rw [← h1]
          exact World.cell?_of_block (w := w) (HF2.out.block g (block_lt_of_cell h1) (hF _ rfl))
        have HB2 := Lib.hid hB2; clear hB2
        obtain ⟨C0, hC0⟩ : ∃ C0, C0 = Array.setIfInBounds Try.zeroCells173 0 (.int .i64 si) := ⟨_, rfl⟩
        have HZ : Hid (C0 = (wrCells (si, zeroSec)).toArray) := by show C0 = _; rw [hC0, wr_start]
        have hz : C0.size = 513 := by rw [HZ.out, List.size_toArray]; exact lenI _
        have hz' : Array.size Try.zeroCells173 = 513 := by rw [zc_write, List.size_toArray]; exact lenI _
        have h1c : C0.all (·.oneCell') = true := by rw [HZ.out]; simp only [Array.all_eq_true_iff_forall_mem]; intro v hv; exact wrCells_one _ v (by simpa using hv)
        have HS : Hid (((Try.prog.info? 173).map (·.size) = some C0.size) ∧ Array.size Try.zeroCells173 = C0.size ∧ C0.all (·.oneCell') = true) := Lib.hid ⟨by rw [hz]; exact sz_write, by rw [hz, hz'], h1c⟩
        have HC0 := Lib.hid hC0
        obtain ⟨bc, hbc⟩ : ∃ bc, bc = b.map (Value.int .u8) := ⟨_, rfl⟩
        have HBC := Lib.hid hbc
        have hbl : bc.length = b.length := by rw [hbc]; simp
        have HBW : Hid (Below w2.heap.size w2 ((w2.alloc (.cells Try.zeroCells173 173)).setRow w2.heap.size C0)) := ((Below.refl w2.heap.size w2).alloc (Nat.le_refl _) _).trans ⟨rfl, rfl, rfl, by simp, fun k hk => setRow_other _ _ _ _ (by omega)⟩
        have HSRC : Hid (0 < bc.length → ∃ ad, A = some ad ∧ ∀ (j : Nat) (v : Value), bc[j]? = some v → ((w2.alloc (.cells Try.zeroCells173 173)).setRow w2.heap.size C0).cell? (ad.add j) = some v) := by
          intro hp
          rw [hbc] at hp ⊢
          exact rd_src (HB2.out.below HBW.out) (by simpa using hp)
        clear hz hz' h1c hbc hC0
        go_wp2_with (first
          | (rw [← HC0.out]; refine wpList_store_row rfl 173 (.tmp 8) (.tmp 25) rfl w2.heap.size C0 rfl rfl 173 Try.zeroCells173 (heap_alloc_new w2 _) HS.out.1 HS.out.2.1 HS.out.2.2 ?_)
          | (refine wpList_copy_splice rfl (.tmp 27) (.tmp 28) 33 33 rfl 5 Try.underlying33 sz_byte _ _ _ _ _ _ rfl rfl w2.heap.size 1 (wrCells (si, zeroSec)) 173 (by rw [← HZ.out]; exact setRow_heap _ _ _ _ _ _ (heap_alloc_new w2 _)) bc (by rw [hbl]; exact (Nat.min_eq_left (by omega)).symm) (fun hp => ⟨rfl, HSRC.out hp⟩) (by rw [lenI]; omega) (fun v hv => by rw [HBC.out] at hv; obtain ⟨x, _, rfl⟩ := List.mem_map.1 hv; rfl) w2.heap.size w2 HBW.out (Nat.le_refl _) ?_; intro w3 hg3 hb3; have HB3 := Lib.hid hb3; clear hb3))
        have hg4 : w3.heap[w2.heap.size]? = some (.cells (wrCells (si, pad512 b)).toArray 173 (0, 0)) := by have := hg3.out; rw [HBC.out, wr_splice] at this; exact this
        clear hg3
        obtain ⟨wc, hwc⟩ : ∃ wc, wc = wrCells (si, pad512 b) := ⟨_, rfl⟩
        rw [← hwc] at hg4
        have HWC := Lib.hid hwc
        have hwl : wc.length = 513 := by rw [hwc]; exact wrCells_len (by simp [pad512]; omega)
        have HWO := Lib.hid (show ∀ v ∈ wc, v.oneCell' = true by rw [hwc]; exact wrCells_one _)
        clear hwc
        have hsl : S.call.since.length ≤ 1000000000 := by obtain ⟨_, _, _, _, _, _, _, _, h5⟩ := HD2.out; exact h5.len
        have HD3 := Lib.hid (HD2.out.below HB3.out)
        obtain ⟨m, sv, f, hc3, hm3, hf3, ho3, hFe, hok⟩ := HD3.out
        have HC3 := Lib.hid hc3; clear hc3
        have HM3 := Lib.hid (And.intro hm3 (And.intro hf3 (And.intro hFe hok))); clear hm3 hf3 hFe hok
        have HO3 := Lib.hid ho3; clear ho3
        have HG4 := Lib.hid hg4; clear hg4
        have hs3 := HB3.out.size
        have hg3 : w2.heap.size < w3.heap.size := (Array.getElem?_eq_some_iff.1 HG4.out).1
        have hq3 : q < w3.heap.size := (Array.getElem?_eq_some_iff.1 HC3.out).1
        refine region_frontJ (by kernel_rfl) (fun W => W.os = w3.os ∧ W.tape = w3.tape ∧ W.output = w3.output) ⟨rfl, rfl, rfl⟩ (fun | 0 => some (.pointer (some ⟨q, 0, none⟩)) | 1 => some (.pointer (some ⟨q, 0, none⟩)) | 2 => some (.pointer (some ⟨q, 0, none⟩)) | 3 => some (.pointer (some ⟨q, 2, none⟩)) | 4 => some sv | 5 => some (.agg wc.toArray) | _ => none)
          (wrG w3 sv S.call.since.length (S.call.since.flatMap wrCells) wc) 8 40 (by decide) rfl (by kernel_rfl) (by kernel_rfl) (by kernel_rfl) (by kernel_rfl) ?_ ?_ ?_
        · intro w' hw'
          exact ⟨fun _ => ⟨by rw [hw']; exact Nat.le_refl _, fun k _ => by rw [hw']⟩, fun h => by simp at h, fun h => by simp at h⟩
        · intro i hi d x a w' hb hsame hanc hdi hdesc hG
          have b0 : a.tmps.getD 0 undef = .pointer (some ⟨q, 0, none⟩) := by rw [Array.getD_eq_getD_getElem?, hsame 0 (by decide +kernel)]; rfl
          have e0 := (Array.getD_eq_getD_getElem? (xs := a.tmps) (i := 0) (d := undef)).symm.trans b0
          have b8 : a.tmps.getD 8 undef = .pointer (some ⟨w2.heap.size, 0, none⟩) := by rw [Array.getD_eq_getD_getElem?, hsame 8 (by decide +kernel)]; rfl
          have e8 := (Array.getD_eq_getD_getElem? (xs := a.tmps) (i := 8) (d := undef)).symm.trans b8
          match i, hi with
          | 0, _ =>
            exact rstepJ_det rfl rfl rfl rfl (by simp [go_sem, b0, e0]) (by simpa [wrG, updB, updV] using hG) hb
          | 1, _ =>
            exact rstepJ_det rfl rfl rfl rfl (by simp [go_sem, b0, e0]) (by simpa [wrG, updB, updV] using hG) hb
          | 2, _ =>
            have t31 : a.tmps.getD 31 undef = .pointer (some ⟨q, 0, none⟩) := (show a.tmps.getD 31 undef = x 1 from (hanc 1 (by decide +kernel)).2.1).trans ((hanc 1 (by decide +kernel)).2.2 _ rfl)
            have u31 := (Array.getD_eq_getD_getElem? (xs := a.tmps) (i := 31) (d := undef)).symm.trans t31
            exact rstepJ_det rfl rfl rfl rfl (by simp [go_sem, t31, u31]) (by simpa [wrG, updB, updV] using hG) hb
          | 3, _ =>
            have t32 : a.tmps.getD 32 undef = .pointer (some ⟨q, 0, none⟩) := (show a.tmps.getD 32 undef = x 2 from (hanc 2 (by decide +kernel)).2.1).trans ((hanc 2 (by decide +kernel)).2.2 _ rfl)
            have u32 := (Array.getD_eq_getD_getElem? (xs := a.tmps) (i := 32) (d := undef)).symm.trans t32
            exact rstepJ_det rfl rfl rfl rfl (by simp [go_sem, t32, u32]) (by simpa [wrG, updB, updV] using hG) hb
          | 4, _ =>
            have t33 : a.tmps.getD 33 undef = .pointer (some ⟨q, 2, none⟩) := (show a.tmps.getD 33 undef = x 3 from (hanc 3 (by decide +kernel)).2.1).trans ((hanc 3 (by decide +kernel)).2.2 _ rfl)
            have u33 := (Array.getD_eq_getD_getElem? (xs := a.tmps) (i := 33) (d := undef)).symm.trans t33
            have h7 : d 7 = false := hdesc 7 (by decide) (by decide +kernel)
            have hOld := hG.1 h7
            obtain ⟨⟨c0, c1, c2, c3, c4⟩, _⟩ := DCells.cells ((hOld.2 q hq3).trans HC3.out)
            exact rstepJ_det rfl rfl rfl rfl (by simp [go_sem, t33, u33, c2]) (by simpa [wrG, updB, updV] using hG) hb
          | 5, _ =>
            have h7 : d 7 = false := hdesc 7 (by decide) (by decide +kernel)
            have hOld := hG.1 h7
            have hl := run_loadVar_row (P := Try.prog) w' w2.heap.size 173 173 wc.toArray (0, 0) _ ((hOld.2 _ hg3).trans HG4.out) Try.underlying173 rfl (by rw [List.size_toArray, hwl]; exact sz_write)
            have ha : a.eval (.tmp 8) = .pointer (some ⟨w2.heap.size, 0, none⟩) := b8
            exact rstepJ_det rfl rfl rfl rfl (by simp [execOp, ha, Instr.loadAt, Instr.sureAddr, hl, Result.andThen]) (by simpa [wrG, updB, updV] using hG) hb
          | 6, _ =>
            have t35 : a.tmps.getD 35 undef = .agg wc.toArray := (show a.tmps.getD 35 undef = x 5 from (hanc 5 (by decide +kernel)).2.1).trans ((hanc 5 (by decide +kernel)).2.2 _ rfl)
            have u35 := (Array.getD_eq_getD_getElem? (xs := a.tmps) (i := 35) (d := undef)).symm.trans t35
            have h7 : d 7 = false := hdesc 7 (by decide) (by decide +kernel)
            have hOld := hG.1 h7
            have hb1 := run_buildSlice1 ty_writes (by decide) w' wc hwl
            have ha : a.eval (.tmp 35) = .agg wc.toArray := t35
            have hn := rdC_new w' 513 173 1 wc (by omega)
            exact rstepJ_run (v := .slice (some ⟨w'.heap.size, 0, none⟩) 1 1) (w' := w'.alloc (.cells wc.toArray 173)) rfl rfl rfl rfl (by simp [execOp, ha, hb1, Result.andThen]) ⟨fun _ => ⟨by have := hOld.1; simp; omega, fun k hk => by rw [heap_alloc_old w' _ (Nat.lt_of_lt_of_le hk hOld.1)]; exact hOld.2 k hk⟩, fun _ => ⟨w'.heap.size, by simp [updV], fun _ => hn⟩, fun h => by simp [updB, h7] at h⟩ hb
          | 7, _ =>
            have t34 : a.tmps.getD 34 undef = sv := (show a.tmps.getD 34 undef = x 4 from (hanc 4 (by decide +kernel)).2.1).trans ((hanc 4 (by decide +kernel)).2.2 _ rfl)
            have u34 := (Array.getD_eq_getD_getElem? (xs := a.tmps) (i := 34) (d := undef)).symm.trans t34
            have t36 : a.tmps.getD 36 undef = x 6 := (hanc 6 (by decide +kernel)).2.1
            have d6 : d 6 = true := (hanc 6 (by decide +kernel)).1
            have u36 := (Array.getD_eq_getD_getElem? (xs := a.tmps) (i := 36) (d := undef)).symm.trans t36
            have hOld := hG.1 hdi
            obtain ⟨g1, e6, hr⟩ := hG.2.1 d6
            have hr := hr hdi
            have ho := own_at (w' := w') HO3.out (fun k hk => hOld.2 k (own_base HO3.out k hk).2)
            obtain ⟨v1, w5, hrun, ho5, hg5, hbk⟩ := run_app w' (ty := 130) ty_writes ho (c := 1) hr HWO.out (by omega) (by unfold maxLen; omega) (Nat.zero_le _)
            exact rstepJ_run (v := v1) (w' := w5) rfl rfl rfl rfl (exec_app rfl t34 (t36.trans e6) hrun) ⟨fun h => by simp [updB] at h, fun h => by obtain ⟨g2, e2, _⟩ := hG.2.1 d6; exact ⟨g2, by simpa [updV] using e2, fun h => by simp [updB] at h⟩, fun _ => ⟨w', hOld, hg5, by simpa [updV] using ho5, by rcases hbk with h | h; exact .inl (by simpa [updV] using h); exact .inr ⟨w'.heap.size, by simpa [updV] using h, hOld.1⟩⟩⟩ ⟨hg5.os.trans hb.1, hg5.tape.trans hb.2.1, hg5.output.trans hb.2.2⟩
          | (m + 8), h => exact absurd h (by omega)
        · intro d x w' hb hall hG
          obtain ⟨w4, hOld, hgr, ho7, hbk⟩ := hG.2.2 (hall 7 (by omega)).1
          have e0 := (hall 0 (by omega)).2 _ rfl
          simp only [rfill, rdst, List.getElem?_toArray, List.getElem?_cons_zero, List.getElem?_cons_succ, Option.bind_some, Act.put, List.setIfInBounds_toArray, List.set_cons_zero, List.set_cons_succ, List.drop_succ_cons, List.drop_zero]
          obtain ⟨A7, c7, e7, _⟩ := own_form ho7
          rw [e0, e7]
          rw [e7] at ho7 hbk
          clear e0 e7 hall hG
          have hqs := own_ne_cells HC3.out HO3.out (by decide)
          have hq' : DCells w' q (.int .i64 S.call.n) (.map (some m)) sv (.int .i64 S.call.left) (.bool S.call.dead) := (hgr.block q (Nat.lt_of_lt_of_le hq3 hOld.1) (fun e => hqs e.symm)).trans ((hOld.2 q hq3).trans HC3.out)
          obtain ⟨⟨c0, c1, c2, c3, c4⟩, hfz⟩ := hq'.cells
          have f2 := hfz 2
          have HQ := Lib.hid hq'
          have HH := Lib.hid (And.intro hOld (And.intro hgr (And.intro ho7 hbk)))
          clear hq' hOld hgr ho7 hbk hfz
          have hwok := DS.write_ok EE.out ET2.out hlen
          have hW0 : We = 0 := EWe.out.trans hwok.1
          have hWs : Hid (Ws = { S.call with since := S.call.since ++ [(si, pad512 b)] }) := EWs.out.trans hwok.2
          clear hwok
          have HW0 := Lib.hid hW0; clear hW0
          go_wp2_with fail
          go_ret
          refine ⟨by rw [HW0.out]; rfl, fun k => k = q ∨ k = m ∨ (Value.slice A7 (S.call.since.length + 1) c7).ownBlock = some k, ?_, ?_⟩
          · rw [hWs.out]
            have hmq : m ≠ q := by
              rintro rfl
              obtain ⟨es, clock, ms, hb', _⟩ := HM3.out.1
              have := HC3.out
              rw [hb'] at this; cases this
            have hsm := own_ne_map HM3.out.1 HO3.out
            have hm3 : m < w3.heap.size := HM3.out.1.lt
            have hm' : (w'.setCell ⟨q, 2, none⟩ (.slice A7 (S.call.since.length + 1) c7)).heap[m]? = w3.heap[m]? :=
              (set_other w' q 2 _ hmq).trans ((HH.out.2.1.block m (Nat.lt_of_lt_of_le hm3 HH.out.1.1) (fun e => hsm e.symm)).trans (HH.out.1.2 m hm3))
            have hvq : (Value.slice A7 (S.call.since.length + 1) c7).ownBlock ≠ some q := own_ne_cells HQ.out HH.out.2.2.1 (by decide)
            refine ⟨m, _, f, set_same HQ.out, HM3.out.1.kept hm', HM3.out.2.1, ?_, rfl, ?_⟩
            · have := own_at (w' := w'.setCell ⟨q, 2, none⟩ (.slice A7 (S.call.since.length + 1) c7)) HH.out.2.2.1 (fun k hk => set_other w' q 2 _ (fun e => hvq (e ▸ hk)))
              rw [HWC.out] at this
              simpa using this
            · have ho := HM3.out.2.2.2
              refine ⟨ho.n, ho.fast, ?_, ?_, ho.left⟩
              · intro p hp
                rcases List.mem_append.1 hp with h | h
                · exact ho.since p h
                · rw [List.mem_singleton.1 h]; exact pad512_len (by omega)
              · have := DS.since_call S
                simp [this]; omega
          · refine HF2.out.trans ?_
            have hFe := HM3.out.2.2.1
            have hqF : F2 q := by rw [hFe]; exact .inl rfl
            have hsF : ∀ k, sv.ownBlock = some k → F2 k := fun k hk => by rw [hFe]; exact .inr (.inr hk)
            refine ⟨hb.1.trans HB3.out.os, hb.2.1.trans HB3.out.tape, hb.2.2.trans HB3.out.output, ?_, ?_, ?_⟩
            · have h1 := HH.out.1.1
              have h2 := HH.out.2.1.size
              simp [World.setCell]
              omega
            · intro k hk hF2
              have hk3 : k < w3.heap.size := by omega
              refine (set_other w' q 2 _ (show k ≠ q from fun e => hF2 (by rw [e]; exact hqF))).trans ?_
              refine (HH.out.2.1.block k (Nat.lt_of_lt_of_le hk3 HH.out.1.1) (fun e => hF2 (hsF k e.symm))).trans ?_
              exact (HH.out.1.2 k hk3).trans (HB3.out.block k hk)
            · rintro k (rfl | rfl | hk)
              · exact .inl hqF
              · exact .inl (by rw [hFe]; exact .inr (.inl rfl))
              · rcases HH.out.2.2.2 with h | ⟨k', h, hle⟩
                · exact .inl (hsF k (h ▸ hk))
                · have : k' = k := by rw [h] at hk; injection hk
                  exact .inr (by omega)
    · have hw := DS.write_no2 (i := si) (b := b) EE.out (by rw [← ET2.out]; exact ht)
      have HW1 : Hid (We = T2) := EWe.out.trans (hw.1.trans ET2.out.symm)
      have HW2 : Hid (Ws = S.call) := EWs.out.trans hw.2
      clear hw
      go_wp2_with fail
      go_ret
      exact ⟨by rw [HW1.out]; rfl, F2, by rw [HW2.out]; exact HD2.out, HF2.out⟩
  · have hw := DS.write_no1 (i := si) (b := b) (by rw [← EE.out]; exact h0)
    have HW1 : Hid (We = E) := EWe.out.trans (hw.1.trans EE.out.symm)
    have HW2 : Hid (Ws = S.call) := EWs.out.trans hw.2
    clear hw
    go_wp2_with fail
    go_ret
    exact ⟨by rw [HW1.out]; rfl, F1, by rw [HW2.out]; exact HD1.out, HF1.out⟩
end Go.Proofs.Ytfngadidlmbfdaa
