/-
  A disk out of bytes: Load.
-/
import Derived.Test.YtfngadidlmbfdaaDisk7
namespace Go.Proofs.Ytfngadidlmbfdaa
open Go.RowKit Go.ChangeMaps
set_option linter.unusedVariables false
set_option linter.unusedSimpArgs false
/-- What a sector has of an image. -/
def imgSec (b : List Int) (z : Int) : List Int := if 0 ≤ z then pad512 ((b.drop (512 * z.toNat)).take 512) else zeroSec
def loadF (b : List Int) (k : Nat) (z : Int) : List Int := if z < k then imgSec b z else zeroSec
def DS.load (n : Int) (b : List Int) : DS := { DS.new n with fast := fun z => if z < (DS.new n).n then imgSec b z else zeroSec }
/-- Between two rounds: the sectors before k are laid. -/
structure LSt (w : World) (q m : Nat) (n : Nat) (sv : Value) (b : List Int) (k : Nat) (f : Int → Option Value) (W : World) : Prop where
  cells : DCells W q (.int .i64 n) (.map (some m)) sv (.int .i64 (-1)) (.bool false)
  row : W.ownsRow 0 173 513 sv 0 []
  map : MapI W m f
  val : ∀ z, (f z).getD (secV zeroSec) = secV (loadF b k z)
  fr : Fr (fun k => k = m) (fun k => k = m) w W
theorem loadF_zero (b : List Int) (z : Int) : loadF b 0 z = zeroSec := by
  unfold loadF imgSec
  split
  · rw [if_neg (by omega)]
  · rfl
theorem rd_drop {α : Type} {enc : α → Value} {w : World} {A : Option Addr} {xs : List α} (h : Rd enc w A xs) (j : Nat) : Rd enc w (Option.map (fun x => x.add j) A) (xs.drop j) := fun hn => by
  rw [List.length_drop] at hn
  obtain ⟨g, o, rfl, hc⟩ := h (by omega)
  refine ⟨g, o + j, ?_, fun i hi => ?_⟩
  · show some ((⟨g, o, none⟩ : Addr).add j) = _
    unfold Addr.add
    split <;> simp_all
  · rw [List.length_drop] at hi
    rw [Nat.add_assoc, hc (j + i) (by omega), List.getElem_drop]
theorem rd_nil {α : Type} {enc : α → Value} {w : World} {A : Option Addr} {xs : List α} (h : xs = []) : Rd enc w A xs := by rw [h]; exact Rd.nil
theorem imgSec_at (b : List Int) (k : Nat) : imgSec b k = pad512 ((b.drop (512 * k)).take 512) := by
  unfold imgSec
  rw [if_pos (by omega), Int.toNat_natCast]
theorem imgSec_len (b : List Int) (z : Int) : (imgSec b z).length = 512 := by
  unfold imgSec
  split
  · exact pad512_len (by rw [List.length_take]; omega)
  · exact zeroSec_len
theorem imgSec_over (b : List Int) (k : Nat) (z : Int) (h : b.drop (512 * k) = []) (hz : (k : Int) ≤ z) : imgSec b z = zeroSec := by
  unfold imgSec
  split
  · have h1 := congrArg List.length h
    rw [List.length_drop] at h1
    rw [List.drop_eq_nil_of_le (by simp at h1; omega)]
    rfl
  · rfl
theorem loadF_succ (b : List Int) (k : Nat) (z : Int) : loadF b (k + 1) z = if z = k then imgSec b k else loadF b k z := by
  unfold loadF
  by_cases h : z = k
  · subst h; rw [if_pos (by omega), if_pos rfl]
  · rw [if_neg h]
    by_cases h2 : z < k
    · rw [if_pos (by omega), if_pos h2]
    · rw [if_neg (by omega), if_neg h2]
theorem splice_head (b : List Int) (h : b.length ≤ 512) : splice (zeroSec.map (Value.int .u8)) 0 (b.map (Value.int .u8)) = (pad512 b).map (Value.int .u8) := by
  unfold splice pad512 zeroSec
  rw [List.take_zero, List.nil_append, List.map_replicate, List.drop_replicate, List.map_append, List.map_replicate, List.length_map, Nat.zero_add]
section
variable {w W W1 W' : World} {q m n k : Nat} {sv : Value} {b : List Int} {f : Int → Option Value}
theorem LSt.put (h : LSt w q m n sv b k f W) (hb : Below W.heap.size W W1) (hW : ∃ ob, W' = setBlock W1 m ob)
    (hM : MapI W' m (fun z => if z = (k : Int) then some (secV (imgSec b k)) else f z)) : LSt w q m n sv b (k + 1) (fun z => if z = (k : Int) then some (secV (imgSec b k)) else f z) W' := by
  obtain ⟨h1, h2, h3, h4, h7⟩ := h
  obtain ⟨ob, rfl⟩ := hW
  have hqm : q ≠ m := (map_ne_cells h1 h3).symm
  have hsm := own_ne_map h3 h2
  have hset : ∀ j, j ≠ m → (setBlock W1 m ob).heap[j]? = W1.heap[j]? := fun j hj => by simp [setBlock, Array.getElem?_setIfInBounds, Ne.symm hj]
  refine ⟨(hset q hqm).trans ((hb.block q (Array.getElem?_eq_some_iff.1 h1).1).trans h1), own_at (own_below h2 hb) (fun j hj => hset j (fun e => hsm (e ▸ hj))), hM, ?_, ?_⟩
  · intro z
    rw [loadF_succ]
    by_cases hz : z = k
    · simp [hz]
    · simp only [if_neg hz]; exact h4 z
  · refine (h7.thenBelow hb).trans ⟨rfl, rfl, rfl, by simp [setBlock], fun j _ hj => hset j hj, fun j hj => .inl hj⟩
theorem LSt.fin {z : Int} {w0 : World} {F : Nat → Prop} (h : LSt w q m n sv b k f W) (hn : n = (DS.new z).n) (hF : F = fun k => k = q ∨ k = m ∨ sv.ownBlock = some k) (h2 : (∀ k, F k → w0.heap.size ≤ k) ∧ Below w0.heap.size w0 w) (hend : k = n ∨ b.drop (512 * k) = []) (hk : k ≤ n) :
    RetNew w0 (DS.load z b) (.returned (.pointer (some ⟨q, 0, none⟩))) W := by
  obtain ⟨h3, h4, h5, h6, h7⟩ := h
  have hok := DS.new_ok z
  refine ⟨q, F, rfl, ⟨m, sv, f, by rw [hn] at h3; exact h3, h5, fun y => ?_, h4, hF, ⟨hok.n, fun y => ?_, hok.since, hok.len, hok.left⟩⟩, h2.1, h2.2.trans (h7.toBelow ?_ h2.2.size)⟩
  · rw [h6 y]
    congr 1
    show loadF b k y = if y < ((DS.new z).n : Int) then imgSec b y else zeroSec
    rw [← hn]
    unfold loadF
    rcases hend with rfl | he
    · rfl
    · by_cases h1 : y < k
      · rw [if_pos h1, if_pos (by omega)]
      · rw [if_neg h1]
        split
        · exact (imgSec_over b k y he (by omega)).symm
        · rfl
  · show (if y < ((DS.new z).n : Int) then imgSec b y else zeroSec).length = 512
    split
    · exact imgSec_len b y
    · exact zeroSec_len
  · rintro j rfl
    exact h2.1 j (by rw [hF]; exact .inr (.inl rfl))
end
set_option maxRecDepth 100000 in
set_option maxHeartbeats 1000000 in
theorem disk_load (n : Int) (A : Option Addr) (b : List Int) (c : Nat) (w : World) (hn : -9223372036854775808 ≤ n ∧ n ≤ 9223372036854775807) (hb : Rd (Value.int .u8) w A b) (hl : b.length ≤ 1000000) (hc : b.length ≤ c ∧ c ≤ maxLen) :
    Calls Try.prog 22 #[.int .i64 n, .slice A b.length c] w (RetNew w (DS.load n b)) := by
  have HB := Lib.hid hb; clear hb
  go_enter Try.func22, Try.ntmps22
  go_wp2_with fail
  refine (disk_made n w hn).mono ?_
  rintro e w1 ⟨q, F, rfl, h1, h2, h3⟩
  obtain ⟨m, sv, f0, hd, hm, hv, ho, hF, hok⟩ := h1
  obtain ⟨N, hN⟩ : ∃ N, N = (DS.new n).n := ⟨_, rfl⟩
  rw [← hN] at hd
  have h0 : LSt w1 q m N sv b 0 f0 w1 := ⟨hd, ho, hm, fun z => by rw [hv z, loadF_zero]; rfl, Fr.refl _ _⟩
  have H0 := Lib.hid h0; clear h0 hm hv ho
  have HF := Lib.hid hF; clear hF
  have HN := Lib.hid hN; clear hN
  have HM : Hid (w.heap.size ≤ m) := by show _ ≤ _; exact h2 m (by rw [HF.out]; exact .inr (.inl rfl))
  have H2 := Lib.hid (And.intro h2 h3); clear h2 h3
  have HOK := Lib.hid hok; clear hok
  clear hd
  have hNl : N ≤ 4096 := by rw [HN.out]; exact HOK.out.n
  have hcl : c ≤ 9223372036854775807 := by have := hc.2; unfold maxLen at this; omega
  obtain ⟨hc1, hc2⟩ := hc
  unfold maxLen at hc2
  go_wp2_with fail
  go_loopw [1, 6] (fun s i W => ∃ (k : Nat) (A' : Option Addr) (b' : List Int) (c' : Nat), k ≤ N ∧ i = .int .i64 k ∧ s = .slice A' b'.length c' ∧ b'.length ≤ c' ∧ c' ≤ c ∧ Hid (Rd (Value.int .u8) w A' b' ∧ b' = b.drop (512 * k)) ∧ Hid (∃ f, LSt w1 q m N sv b k f W)) (fun _ i _ => N - (intOf i).toNat)
  case atStart => exact ⟨0, A, b, c, Nat.zero_le _, rfl, rfl, hc1, Nat.le_refl _, Lib.hid ⟨HB.out, by simp⟩, Lib.hid ⟨_, H0.out⟩⟩
  case round =>
    obtain ⟨k, A', b', c', hk, rfl, rfl, hb1, hb2, HB', HK0⟩ := hrel
    obtain ⟨f, hk0⟩ := HK0.out
    have HK := Lib.hid hk0; clear hk0 HK0
    have HC := Lib.hid HK.out.cells
    have HBW : Hid (Below w.heap.size w wr) := H2.out.2.trans (HK.out.fr.toBelow (fun j hj => by rw [hj]; exact HM.out) H2.out.2.size)
    obtain ⟨⟨c0, c1, c2, c3, c4⟩, _⟩ := HC.out.cells
    by_cases hlt : k < N
    · have hg : decide ((k : Int) < (N : Int)) = true := by simp; omega
      by_cases hbl : 0 < b'.length
      · obtain ⟨cs, hcs⟩ : ∃ cs, cs = (b'.take 512).map (Value.int .u8) := ⟨_, rfl⟩
        have hcl1 : cs.length = Nat.min b'.length 512 := by rw [hcs, List.length_map, List.length_take, Nat.min_comm]
        have hcl2 : cs.length ≤ 512 := by rw [hcl1]; exact Nat.min_le_right _ _
        have hcl3 : cs.length ≤ b'.length := by rw [hcl1]; exact Nat.min_le_left _ _
        have hmin : cs.length = min b'.length 512 := hcl1
        have HMIN := Lib.hid hmin; clear hmin
        have HCL := Lib.hid hcl1; clear hcl1
        have HCS := Lib.hid hcs; clear hcs
        have HZS : Hid (Try.zeroCells134 = (zeroSec.map (Value.int .u8)).toArray) := by show _ = _; kernel_rfl
        have HSRC : Hid (0 < cs.length → ∃ ad, A' = some ad ∧ ∀ (j : Nat) (v : Value), cs[j]? = some v → (wr.alloc (.cells Try.zeroCells134 134)).cell? (ad.add j) = some v) := by
          intro hp
          obtain ⟨ad, rfl, hh⟩ := rd_src ((HB'.out.1.below HBW.out).below ((Below.refl wr.heap.size wr).alloc (Nat.le_refl _) (.cells Try.zeroCells134 134))) (by omega)
          refine ⟨ad, rfl, fun j v hv => hh j v ?_⟩
          rw [HCS.out, List.map_take, List.getElem?_take] at hv
          split at hv
          · exact hv
          · cases hv
        have hNext : Hid (b'.drop cs.length = b.drop (512 * (k + 1))) := by
          show _ = _
          rw [HMIN.out, HB'.out.2, List.drop_drop]
          by_cases h5 : 512 ≤ (b.drop (512 * k)).length
          · rw [Nat.min_eq_right h5]; congr 1
          · rw [Nat.min_eq_left (by omega), List.drop_eq_nil_of_le (by rw [List.length_drop]; omega), List.drop_eq_nil_of_le]
            rw [List.length_drop] at h5
            omega
        have HSEC : Hid (splice (zeroSec.map (Value.int .u8)) 0 cs = (imgSec b k).map (Value.int .u8)) := by
          show _ = _
          rw [HCS.out, splice_head _ (by rw [List.length_take]; omega), imgSec_at, HB'.out.2]
        by_cases hcap : cs.length = c'
        · go_wp2_with (refine wpList_copy_splice rfl (.tmp 24) (.tmp 25) 33 33 rfl 5 Try.underlying33 sz_byte _ _ _ _ _ _ rfl rfl wr.heap.size 0 (zeroSec.map (Value.int .u8)) 134 (by rw [← HZS.out]; exact heap_alloc_new wr _) cs HCL.out (fun hp => ⟨rfl, HSRC.out hp⟩) (by rw [List.length_map, zeroSec_len]; omega) (fun v hv => by rw [HCS.out] at hv; obtain ⟨x, _, rfl⟩ := List.mem_map.1 hv; rfl) wr.heap.size wr ((Below.refl wr.heap.size wr).alloc (Nat.le_refl _) _) (Nat.le_refl _) ?_; intro w3 hg3 hb3; have HB3 := Lib.hid hb3; clear hb3)
          obtain ⟨Bs, hBs⟩ : ∃ Bs : Array Value, Bs = ((imgSec b k).map (Value.int .u8)).toArray := ⟨_, rfl⟩
          have HG3 : Hid (w3.heap[wr.heap.size]? = some (.cells Bs 134 (0, 0))) := by show _ = _; rw [hBs, ← HSEC.out]; exact hg3.out
          clear hg3
          have HBz : Hid ((Try.prog.info? 134).map (·.size) = some Bs.size) := by show _ = some _; rw [hBs, List.size_toArray, List.length_map, imgSec_len]; exact sz_sector
          have HBs := Lib.hid hBs; clear hBs
          have hq3 := (HB3.out.block q (Array.getElem?_eq_some_iff.1 HC.out).1).trans HC.out
          clear c0 c1 c2 c3 c4
          obtain ⟨⟨c0, c1, c2, c3, c4⟩, _⟩ := DCells.cells hq3
          clear hq3
          refine wp_region_still_tail 6 (by kernel_rfl) (by kernel_rfl) ?_
          simp only [List.take_succ_cons, List.take_zero, List.drop_succ_cons, List.drop_zero]
          iterate 5 still_step
          refine wpStill_load_at rfl 134 (.tmp 7) rfl _ rfl Bs Try.underlying134 rfl HBz.out (fun j v hv => ?_) ?_
          · have e : (⟨wr.heap.size, 0, none⟩ : Addr).add j = ⟨wr.heap.size, j, none⟩ := by unfold Addr.add; split <;> simp_all
            rw [e]
            exact (cell_of_row w3 _ j _ _ _ HG3.out).trans (by simpa using hv)
          refine wpStill_nil ?_
          refine wpList_update_I rfl 129 (.tmp 31) (.tmp 32) (.tmp 33) rfl m k (.agg Bs) rfl rfl rfl (f := f) (HK.out.map.kept (HB3.out.block m HK.out.map.lt)) Try.underlying129 Try.underlying3 ?_
          rintro W2 hW2 hM2
          have HW2 := Lib.hid hW2; clear hW2
          have HM2 := Lib.hid hM2; clear hM2
          clear c0 c1 c2 c3 c4
          go_wp2_with fail
          go_roundw
          case rel =>
            refine ⟨k + 1, A', b'.drop cs.length, c' - cs.length, by omega, by go_num, by first | (rw [List.length_drop]; done) | rw [List.length_drop, show b'.length - cs.length = 0 by omega, show c' - cs.length = 0 by omega], by rw [List.length_drop]; omega, by omega, Lib.hid ⟨(rd_nil (List.drop_eq_nil_of_le (by omega))), hNext.out⟩, Lib.hid ⟨_, HK.out.put ?_ HW2.out (by rw [show secV (imgSec b k) = .agg Bs by rw [HBs.out]; rfl]; exact HM2.out)⟩⟩
            exact HB3.out.trans ⟨rfl, rfl, rfl, Nat.le_refl _, fun _ _ => rfl⟩
          case measure => simp [intOf]; omega
        · go_wp2_with (refine wpList_copy_splice rfl (.tmp 24) (.tmp 25) 33 33 rfl 5 Try.underlying33 sz_byte _ _ _ _ _ _ rfl rfl wr.heap.size 0 (zeroSec.map (Value.int .u8)) 134 (by rw [← HZS.out]; exact heap_alloc_new wr _) cs HCL.out (fun hp => ⟨rfl, HSRC.out hp⟩) (by rw [List.length_map, zeroSec_len]; omega) (fun v hv => by rw [HCS.out] at hv; obtain ⟨x, _, rfl⟩ := List.mem_map.1 hv; rfl) wr.heap.size wr ((Below.refl wr.heap.size wr).alloc (Nat.le_refl _) _) (Nat.le_refl _) ?_; intro w3 hg3 hb3; have HB3 := Lib.hid hb3; clear hb3)
          obtain ⟨Bs, hBs⟩ : ∃ Bs : Array Value, Bs = ((imgSec b k).map (Value.int .u8)).toArray := ⟨_, rfl⟩
          have HG3 : Hid (w3.heap[wr.heap.size]? = some (.cells Bs 134 (0, 0))) := by show _ = _; rw [hBs, ← HSEC.out]; exact hg3.out
          clear hg3
          have HBz : Hid ((Try.prog.info? 134).map (·.size) = some Bs.size) := by show _ = some _; rw [hBs, List.size_toArray, List.length_map, imgSec_len]; exact sz_sector
          have HBs := Lib.hid hBs; clear hBs
          have hq3 := (HB3.out.block q (Array.getElem?_eq_some_iff.1 HC.out).1).trans HC.out
          clear c0 c1 c2 c3 c4
          obtain ⟨⟨c0, c1, c2, c3, c4⟩, _⟩ := DCells.cells hq3
          clear hq3
          refine wp_region_still_tail 6 (by kernel_rfl) (by kernel_rfl) ?_
          simp only [List.take_succ_cons, List.take_zero, List.drop_succ_cons, List.drop_zero]
          iterate 5 still_step
          refine wpStill_load_at rfl 134 (.tmp 7) rfl _ rfl Bs Try.underlying134 rfl HBz.out (fun j v hv => ?_) ?_
          · have e : (⟨wr.heap.size, 0, none⟩ : Addr).add j = ⟨wr.heap.size, j, none⟩ := by unfold Addr.add; split <;> simp_all
            rw [e]
            exact (cell_of_row w3 _ j _ _ _ HG3.out).trans (by simpa using hv)
          refine wpStill_nil ?_
          refine wpList_update_I rfl 129 (.tmp 31) (.tmp 32) (.tmp 33) rfl m k (.agg Bs) rfl rfl rfl (f := f) (HK.out.map.kept (HB3.out.block m HK.out.map.lt)) Try.underlying129 Try.underlying3 ?_
          rintro W2 hW2 hM2
          have HW2 := Lib.hid hW2; clear hW2
          have HM2 := Lib.hid hM2; clear hM2
          clear c0 c1 c2 c3 c4
          go_wp2_with fail
          go_roundw
          case rel =>
            refine ⟨k + 1, Option.map (fun x => x.add cs.length) A', b'.drop cs.length, c' - cs.length, by omega, by go_num, by first | (rw [List.length_drop]; done) | rw [List.length_drop, show b'.length - cs.length = 0 by omega, show c' - cs.length = 0 by omega], by rw [List.length_drop]; omega, by omega, Lib.hid ⟨(rd_drop HB'.out.1 _), hNext.out⟩, Lib.hid ⟨_, HK.out.put ?_ HW2.out (by rw [show secV (imgSec b k) = .agg Bs by rw [HBs.out]; rfl]; exact HM2.out)⟩⟩
            exact HB3.out.trans ⟨rfl, rfl, rfl, Nat.le_refl _, fun _ _ => rfl⟩
          case measure => simp [intOf]; omega
      · go_wp2_with fail
        go_ret
        exact HK.out.fin HN.out HF.out H2.out (.inr (by rw [← HB'.out.2]; exact List.eq_nil_of_length_eq_zero (by omega))) hk
    · have hg : decide ((k : Int) < (N : Int)) = false := by simp; omega
      go_wp2_with fail
      go_ret
      exact HK.out.fin HN.out HF.out H2.out (.inl (by omega)) hk
end Go.Proofs.Ytfngadidlmbfdaa
