/-
  Contracts of Go's slices.Grow at nil, and slices.Concat, at []string, []int, []byte.
-/
import Derived.Test.YtfngadidlmbfdaaBase
namespace Go.Proofs.Ytfngadidlmbfdaa
open Go.RowKit

theorem zeros_size (z : Value) (n : Nat) : (Builtin.zeroCells #[z] n).size = n := by simp [Builtin.zeroCells]

set_option maxHeartbeats 400000 in
theorem growS_any (n : Nat) (w : World) (hn : n * 16 ≤ 140737488355328) :
    Calls Try.prog 129 #[.slice none 0 0, .int .i64 (n : Int)] w (RetOwn w 9 1 0 []) := by
  obtain ⟨i, hi, hz, hs, hby⟩ := info_parts inf_strs
  rcases Nat.eq_zero_or_pos n with h0 | h0
  · subst h0
    go_enter Try.func129, Try.ntmps129
    go_wp2_with fail
    go_ret
    exact ⟨_, rfl, own_nil _ _ _ _, Below.refl _ _⟩
  · have H := Lib.hid (fun W : World => Lib.run_append_nil_zeros (P := Try.prog) W 22 3 22 9 i _ .i64 .i64 Try.underlying22 Try.underlying3 hi hz n h0 (by omega) (by omega) (by rw [hby]; omega))
    clear hi hz hs hby
    go_enter Try.func129, Try.ntmps129
    go_wp2_with (at_builtin; refine Lib.wpList_append_run _ rfl _ _ _ _ rfl _ _ rfl rfl _ _ (H.out _) ?_)
    go_ret
    refine ⟨_, rfl, ?_, ((Below.refl _ _).alloc (Nat.le_refl _) _).drew⟩
    refine World.ownsRow.drew ?_
    refine World.ownsRow_made w _ _ (Nat.le_refl _) (grownCap_le_maxLen _ _ _ _ (by unfold maxLen; omega)) ?_
    have := grownCap_ge w n 0 9
    rw [Array.size_append, zeros_size, zeros_size]
    omega
set_option maxHeartbeats 400000 in
theorem growI_any (n : Nat) (w : World) (hn : n * 8 ≤ 140737488355328) :
    Calls Try.prog 130 #[.slice none 0 0, .int .i64 (n : Int)] w (RetOwn w 3 1 0 []) := by
  obtain ⟨i, hi, hz, hs, hby⟩ := info_parts inf_ints
  rcases Nat.eq_zero_or_pos n with h0 | h0
  · subst h0
    go_enter Try.func130, Try.ntmps130
    go_wp2_with fail
    go_ret
    exact ⟨_, rfl, own_nil _ _ _ _, Below.refl _ _⟩
  · have H := Lib.hid (fun W : World => Lib.run_append_nil_zeros (P := Try.prog) W 23 3 23 3 i _ .i64 .i64 Try.underlying23 Try.underlying3 hi hz n h0 (by omega) (by omega) (by rw [hby]; omega))
    clear hi hz hs hby
    go_enter Try.func130, Try.ntmps130
    go_wp2_with (at_builtin; refine Lib.wpList_append_run _ rfl _ _ _ _ rfl _ _ rfl rfl _ _ (H.out _) ?_)
    go_ret
    refine ⟨_, rfl, ?_, ((Below.refl _ _).alloc (Nat.le_refl _) _).drew⟩
    refine World.ownsRow.drew ?_
    refine World.ownsRow_made w _ _ (Nat.le_refl _) (grownCap_le_maxLen _ _ _ _ (by unfold maxLen; omega)) ?_
    have := grownCap_ge w n 0 3
    rw [Array.size_append, zeros_size, zeros_size]
    omega
set_option maxHeartbeats 400000 in
theorem growB_any (n : Nat) (w : World) (hn : n * 1 ≤ 140737488355328) :
    Calls Try.prog 153 #[.slice none 0 0, .int .i64 (n : Int)] w (RetOwn w 5 1 0 []) := by
  obtain ⟨i, hi, hz, hs, hby⟩ := info_parts inf_bytes
  rcases Nat.eq_zero_or_pos n with h0 | h0
  · subst h0
    go_enter Try.func153, Try.ntmps153
    go_wp2_with fail
    go_ret
    exact ⟨_, rfl, own_nil _ _ _ _, Below.refl _ _⟩
  · have H := Lib.hid (fun W : World => Lib.run_append_nil_zeros (P := Try.prog) W 33 3 33 5 i _ .i64 .i64 Try.underlying33 Try.underlying3 hi hz n h0 (by omega) (by omega) (by rw [hby]; omega))
    clear hi hz hs hby
    go_enter Try.func153, Try.ntmps153
    go_wp2_with (at_builtin; refine Lib.wpList_append_run _ rfl _ _ _ _ rfl _ _ rfl rfl _ _ (H.out _) ?_)
    go_ret
    refine ⟨_, rfl, ?_, ((Below.refl _ _).alloc (Nat.le_refl _) _).drew⟩
    refine World.ownsRow.drew ?_
    refine World.ownsRow_made w _ _ (Nat.le_refl _) (grownCap_le_maxLen _ _ _ _ (by unfold maxLen; omega)) ?_
    have := grownCap_ge w n 0 5
    rw [Array.size_append, zeros_size, zeros_size]
    omega

/-- A slice as a value: where its cells lie, its elements, its capacity. -/
def slv {α : Type} (p : Option Addr × List α × Nat) : Value := .slice p.1 p.2.1.length p.2.2
/-- The lengths of the first n lists, added up. -/
def lsum {α : Type} (L : List (Option Addr × List α × Nat)) (n : Nat) : Nat := ((L.take n).map (·.2.1.length)).sum
theorem lsum_succ {α : Type} (L : List (Option Addr × List α × Nat)) (n : Nat) (h : n < L.length) : lsum L (n + 1) = lsum L n + L[n].2.1.length := by
  unfold lsum
  rw [List.take_succ_eq_append_getElem h, List.map_append, List.sum_append]
  simp
theorem lsum_le {α : Type} (L : List (Option Addr × List α × Nat)) (n : Nat) : lsum L n ≤ lsum L L.length := by
  unfold lsum
  conv => rhs; rw [List.take_length, ← List.take_append_drop n L]
  rw [List.map_append, List.sum_append]
  omega
theorem lflat_succ {α : Type} (L : List (Option Addr × List α × Nat)) (n : Nat) (h : n < L.length) : (L.take (n + 1)).flatMap (·.2.1) = (L.take n).flatMap (·.2.1) ++ L[n].2.1 := by
  rw [List.take_succ_eq_append_getElem h, List.flatMap_append]
  simp
theorem lflat_len {α : Type} (L : List (Option Addr × List α × Nat)) (n : Nat) : ((L.take n).flatMap (·.2.1)).length = lsum L n := by
  unfold lsum
  rw [List.length_flatMap]

set_option maxRecDepth 100000 in
set_option maxHeartbeats 800000 in
theorem concatS_any (L : List (Option Addr × List ByteArray × Nat)) (A : Option Addr) (c : Nat) (w : World) (hr : Rd slv w A L) (hx : ∀ p ∈ L, Rd Value.string w p.1 p.2.1) (hL : L.length ≤ 1000) (hs : lsum L L.length * 16 ≤ 140737488355328) :
    Calls Try.prog 73 #[.slice A L.length c] w (RetOwn w 9 1 (L.flatMap (·.2.1)).length ((L.flatMap (·.2.1)).map Value.string)) := by
  obtain ⟨N, hN⟩ : ∃ N, N = (L.flatMap (·.2.1)).length := ⟨_, rfl⟩
  obtain ⟨cs, hcs⟩ : ∃ cs, cs = (L.flatMap (·.2.1)).map Value.string := ⟨_, rfl⟩
  rw [← hN, ← hcs]
  have HN := Lib.hid hN; clear hN
  have HCS := Lib.hid hcs; clear hcs
  have HR := Lib.hid hr; clear hr
  have HX := Lib.hid hx; clear hx
  go_enter Try.func73, Try.ntmps73
  go_wp2_with fail
  go_loop [3, 11] (fun s i => ∃ n : Nat, n ≤ L.length ∧ i = .int .i64 n ∧ s = .int .i64 (lsum L n)) (fun _ i => L.length - (intOf i).toNat)
  case atStart => exact ⟨0, Nat.zero_le _, rfl, rfl⟩
  case round =>
    obtain ⟨n, hn, rfl, rfl⟩ := hrel
    by_cases hlt : n < L.length
    · obtain ⟨b, o, rfl, hc⟩ := HR.out.at_ hlt
      have h1 := lsum_succ L n hlt
      have h2 := lsum_le L (n + 1)
      have H1 := Lib.hid h1
      have h3 : lsum L n + L[n].2.1.length ≤ 140737488355328 := by omega
      clear h1 h2
      generalize hp : L[n] = p at *
      clear hp
      unfold slv at hc
      go_wp2_with fail
      go_round
      case rel => exact ⟨n + 1, by omega, by go_num, by rw [H1.out]; go_num⟩
      case measure => simp [intOf]; omega
    · obtain rfl : n = L.length := by omega
      have hz : lsum L L.length ≤ 140737488355328 := by omega
      go_wp2_with fail
      refine (growS_any _ _ hs).mono ?_
      rintro e w1 ⟨v0, rfl, hown0, hb0⟩
      have HO := Lib.hid hown0; clear hown0
      have HB := Lib.hid hb0; clear hb0
      go_wp2_with fail
      go_loopw [6, 27] (fun v i wr => ∃ n : Nat, n ≤ L.length ∧ i = .int .i64 n ∧ Hid (wr.ownsRow w.heap.size 9 1 v ((L.take n).flatMap (·.2.1)).length (((L.take n).flatMap (·.2.1)).map Value.string) ∧ Below w.heap.size w wr)) (fun _ i _ => L.length - (intOf i).toNat)
      case atStart => exact ⟨0, Nat.zero_le _, rfl, HO.out, HB.out⟩
      case round =>
        obtain ⟨n, hn, rfl, hown, hb⟩ := hrel
        by_cases hlt : n < L.length
        · obtain ⟨b, o, rfl, hc⟩ := (HR.out.below hb).at_ hlt
          have hrd := (HX.out _ (List.getElem_mem hlt)).below hb
          have h1 := lsum_succ L n hlt
          have h2 := lsum_le L (n + 1)
          have h4 := lflat_len L n
          have h5 := lflat_succ L n hlt
          have H5 := Lib.hid h5
          have h3 : ((L.take n).flatMap (·.2.1)).length + L[n].2.1.length ≤ 140737488355328 / 16 := by omega
          clear h1 h2 h4 h5
          generalize hp : L[n] = p at *
          generalize hxs : (L.take n).flatMap (·.2.1) = xs at *
          clear hp hxs hz
          unfold slv at hc
          have HOW := Lib.hid hown; clear hown
          have HBB := Lib.hid hb; clear hb
          have HRD := Lib.hid hrd.cells; clear hrd
          have H1 := Lib.hid (fun u (hu : u ∈ p.2.1.map Value.string) => (show u.oneCell' = true by obtain ⟨x, _, rfl⟩ := List.mem_map.1 hu; rfl))
          go_wp2_with (at_builtin; refine wpList_app _ rfl (.tmp 31) (.tmp 32) ty_strs rfl _ _ _ rfl HOW.out _ _ _ _ rfl HRD.out H1.out (by omega) (by unfold maxLen; omega) HBB.out.size ?_; intro v1 w2 hown1 hg hat; have HO1 := Lib.hid (And.intro hown1 (HBB.out.grown hg HBB.out.size (fun k hk => (own_base HOW.out k hk).1))); clear hown1 hg hat)
          go_roundw
          case rel => exact ⟨n + 1, by omega, by go_num, by rw [H5.out, List.length_append, List.map_append]; exact HO1.out.1, HO1.out.2⟩
          case measure => simp [intOf]; omega
        · obtain rfl : n = L.length := by omega
          rw [List.take_length, ← HN.out, ← HCS.out] at hown
          have HOW := Lib.hid hown; clear hown
          have HBB := Lib.hid hb; clear hb
          go_wp2_with fail
          go_ret
          exact ⟨_, rfl, HOW.out, HBB.out⟩
set_option maxRecDepth 100000 in
set_option maxHeartbeats 800000 in
theorem concatI_any (L : List (Option Addr × List Int × Nat)) (A : Option Addr) (c : Nat) (w : World) (hr : Rd slv w A L) (hx : ∀ p ∈ L, Rd (Value.int .i64) w p.1 p.2.1) (hL : L.length ≤ 1000) (hs : lsum L L.length * 8 ≤ 140737488355328) :
    Calls Try.prog 74 #[.slice A L.length c] w (RetOwn w 3 1 (L.flatMap (·.2.1)).length ((L.flatMap (·.2.1)).map (Value.int .i64))) := by
  obtain ⟨N, hN⟩ : ∃ N, N = (L.flatMap (·.2.1)).length := ⟨_, rfl⟩
  obtain ⟨cs, hcs⟩ : ∃ cs, cs = (L.flatMap (·.2.1)).map (Value.int .i64) := ⟨_, rfl⟩
  rw [← hN, ← hcs]
  have HN := Lib.hid hN; clear hN
  have HCS := Lib.hid hcs; clear hcs
  have HR := Lib.hid hr; clear hr
  have HX := Lib.hid hx; clear hx
  go_enter Try.func74, Try.ntmps74
  go_wp2_with fail
  go_loop [3, 11] (fun s i => ∃ n : Nat, n ≤ L.length ∧ i = .int .i64 n ∧ s = .int .i64 (lsum L n)) (fun _ i => L.length - (intOf i).toNat)
  case atStart => exact ⟨0, Nat.zero_le _, rfl, rfl⟩
  case round =>
    obtain ⟨n, hn, rfl, rfl⟩ := hrel
    by_cases hlt : n < L.length
    · obtain ⟨b, o, rfl, hc⟩ := HR.out.at_ hlt
      have h1 := lsum_succ L n hlt
      have h2 := lsum_le L (n + 1)
      have H1 := Lib.hid h1
      have h3 : lsum L n + L[n].2.1.length ≤ 140737488355328 := by omega
      clear h1 h2
      generalize hp : L[n] = p at *
      clear hp
      unfold slv at hc
      go_wp2_with fail
      go_round
      case rel => exact ⟨n + 1, by omega, by go_num, by rw [H1.out]; go_num⟩
      case measure => simp [intOf]; omega
    · obtain rfl : n = L.length := by omega
      have hz : lsum L L.length ≤ 140737488355328 := by omega
      go_wp2_with fail
      refine (growI_any _ _ hs).mono ?_
      rintro e w1 ⟨v0, rfl, hown0, hb0⟩
      have HO := Lib.hid hown0; clear hown0
      have HB := Lib.hid hb0; clear hb0
      go_wp2_with fail
      go_loopw [6, 27] (fun v i wr => ∃ n : Nat, n ≤ L.length ∧ i = .int .i64 n ∧ Hid (wr.ownsRow w.heap.size 3 1 v ((L.take n).flatMap (·.2.1)).length (((L.take n).flatMap (·.2.1)).map (Value.int .i64)) ∧ Below w.heap.size w wr)) (fun _ i _ => L.length - (intOf i).toNat)
      case atStart => exact ⟨0, Nat.zero_le _, rfl, HO.out, HB.out⟩
      case round =>
        obtain ⟨n, hn, rfl, hown, hb⟩ := hrel
        by_cases hlt : n < L.length
        · obtain ⟨b, o, rfl, hc⟩ := (HR.out.below hb).at_ hlt
          have hrd := (HX.out _ (List.getElem_mem hlt)).below hb
          have h1 := lsum_succ L n hlt
          have h2 := lsum_le L (n + 1)
          have h4 := lflat_len L n
          have h5 := lflat_succ L n hlt
          have H5 := Lib.hid h5
          have h3 : ((L.take n).flatMap (·.2.1)).length + L[n].2.1.length ≤ 140737488355328 / 8 := by omega
          clear h1 h2 h4 h5
          generalize hp : L[n] = p at *
          generalize hxs : (L.take n).flatMap (·.2.1) = xs at *
          clear hp hxs hz
          unfold slv at hc
          have HOW := Lib.hid hown; clear hown
          have HBB := Lib.hid hb; clear hb
          have HRD := Lib.hid hrd.cells; clear hrd
          have H1 := Lib.hid (fun u (hu : u ∈ p.2.1.map (Value.int .i64)) => (show u.oneCell' = true by obtain ⟨x, _, rfl⟩ := List.mem_map.1 hu; rfl))
          go_wp2_with (at_builtin; refine wpList_app _ rfl (.tmp 31) (.tmp 32) ty_ints rfl _ _ _ rfl HOW.out _ _ _ _ rfl HRD.out H1.out (by omega) (by unfold maxLen; omega) HBB.out.size ?_; intro v1 w2 hown1 hg hat; have HO1 := Lib.hid (And.intro hown1 (HBB.out.grown hg HBB.out.size (fun k hk => (own_base HOW.out k hk).1))); clear hown1 hg hat)
          go_roundw
          case rel => exact ⟨n + 1, by omega, by go_num, by rw [H5.out, List.length_append, List.map_append]; exact HO1.out.1, HO1.out.2⟩
          case measure => simp [intOf]; omega
        · obtain rfl : n = L.length := by omega
          rw [List.take_length, ← HN.out, ← HCS.out] at hown
          have HOW := Lib.hid hown; clear hown
          have HBB := Lib.hid hb; clear hb
          go_wp2_with fail
          go_ret
          exact ⟨_, rfl, HOW.out, HBB.out⟩

end Go.Proofs.Ytfngadidlmbfdaa
