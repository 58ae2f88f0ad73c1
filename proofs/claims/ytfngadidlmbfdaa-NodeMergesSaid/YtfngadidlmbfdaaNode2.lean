/-
  Contracts of node.need, of the reference's Need, of the law's few.
-/
import Derived.Test.YtfngadidlmbfdaaNode1
namespace Go.Proofs.Ytfngadidlmbfdaa
open Go.RowKit

theorem needB_succ_leaf {ks vs : List ByteArray} {n : Nat} (h : n < ks.length) (h' : n < vs.length) : needB true ks vs (n + 1) = needB true ks vs n + (2 + ks[n].size + vs[n].size) := by
  simp [needB, needAt, h, h']
theorem needB_succ_short {ks vs : List ByteArray} {n : Nat} (h : n < ks.length) (h' : ¬ n < vs.length) : needB true ks vs (n + 1) = needB true ks vs n + (2 + ks[n].size) := by
  simp [needB, needAt, h, List.getElem?_eq_none (show vs.length ≤ n by omega)]
theorem needB_succ_branch {ks vs : List ByteArray} {n : Nat} (h : n < ks.length) : needB false ks vs (n + 1) = needB false ks vs n + (5 + ks[n].size) := by
  simp [needB, needAt, h]

set_option maxRecDepth 100000 in
set_option maxHeartbeats 1000000 in
theorem need_any (lf : Bool) (K V C : Option Addr) (ks vs : List ByteArray) (cs : List Int) (kc vc cc n : Nat) (w : World)
    (hk : Rd Value.string w K ks) (hv : Rd Value.string w V vs) (hkc : ks.length ≤ kc) (hn : n ≤ ks.length) (hnv : lf = true → n ≤ vs.length) (ln : n ≤ 100000)
    (sk : ∀ s ∈ ks, s.size ≤ 1000) (sv : ∀ s ∈ vs, s.size ≤ 1000) :
    Calls Try.prog 75 #[.agg #[.bool lf, .slice K ks.length kc, .slice V vs.length vc, .slice C cs.length cc], .int .i64 (n : Int)] w (RetV w (.int .i64 (needB lf ks vs n))) := by
  obtain ⟨R, hR⟩ : ∃ R, R = needB lf ks vs n := ⟨_, rfl⟩
  rw [← hR]
  have HR := Lib.hid hR; clear hR
  have HK := Lib.hid hk; clear hk
  have HV := Lib.hid hv; clear hv
  have HL := Lib.hid (needB_le (lf := lf) sk sv); clear sk sv
  cases lf with
  | true =>
    have hnv' := hnv rfl
    clear hnv
    go_enter Try.func75, Try.ntmps75
    go_wp2_with fail
    go_loop [5, 16] (fun s i => ∃ k : Nat, k ≤ n ∧ i = .int .i64 k ∧ s = .int .i64 (needB true ks vs k)) (fun _ i => n - (intOf i).toNat)
    case atStart => exact ⟨0, Nat.zero_le _, rfl, rfl⟩
    case round =>
      obtain ⟨k, hkn, rfl, rfl⟩ := hrel
      by_cases hlt : k < n
      · have hlk : k < ks.length := by omega
        have hlv : k < vs.length := by omega
        have H1 := Lib.hid (needB_succ_leaf hlk hlv)
        have hb := HL.out (k + 1)
        rw [H1.out] at hb
        obtain ⟨b, o, rfl, hc⟩ := (HK.out.below (below_box w (.cells #[.bool true, .slice K ks.length kc, .slice V vs.length vc, .slice C cs.length cc] 25))).at_ hlk
        obtain ⟨b', o', rfl, hc'⟩ := (HV.out.below (below_box w (.cells #[.bool true, .slice (some ⟨b, o, none⟩) ks.length kc, .slice V vs.length vc, .slice C cs.length cc] 25))).at_ hlv
        generalize ks[k] = x at *
        generalize vs[k] = y at *
        go_wp2_with fail
        go_round
        case rel => exact ⟨k + 1, by omega, by go_num, by rw [H1.out]; go_num⟩
        case measure => simp [intOf]; omega
      · obtain rfl : k = n := by omega
        go_wp2_with fail
        go_ret
        exact ⟨by rw [HR.out]; rfl, below_box _ _⟩
  | false =>
    clear hnv
    go_enter Try.func75, Try.ntmps75
    go_wp2_with fail
    go_loop [5, 16] (fun s i => ∃ k : Nat, k ≤ n ∧ i = .int .i64 k ∧ s = .int .i64 (needB false ks vs k)) (fun _ i => n - (intOf i).toNat)
    case atStart => exact ⟨0, Nat.zero_le _, rfl, rfl⟩
    case round =>
      obtain ⟨k, hkn, rfl, rfl⟩ := hrel
      by_cases hlt : k < n
      · have hlk : k < ks.length := by omega
        have H1 := Lib.hid (needB_succ_branch (vs := vs) hlk)
        have hb := HL.out (k + 1)
        rw [H1.out] at hb
        obtain ⟨b, o, rfl, hc⟩ := (HK.out.below (below_box w (.cells #[.bool false, .slice K ks.length kc, .slice V vs.length vc, .slice C cs.length cc] 25))).at_ hlk
        generalize ks[k] = x at *
        go_wp2_with fail
        go_round
        case rel => exact ⟨k + 1, by omega, by go_num, by rw [H1.out]; go_num⟩
        case measure => simp [intOf]; omega
      · obtain rfl : k = n := by omega
        go_wp2_with fail
        go_ret
        exact ⟨by rw [HR.out]; rfl, below_box _ _⟩

set_option maxRecDepth 100000 in
set_option maxHeartbeats 1000000 in
theorem rneed_any (lf : Bool) (K V C : Option Addr) (ks vs : List ByteArray) (cs : List Int) (kc vc cc n : Nat) (w : World)
    (hk : Rd Value.string w K ks) (hv : Rd Value.string w V vs) (hn : n ≤ ks.length) (ln : n ≤ 100000) (lv : vs.length ≤ 100000)
    (sk : ∀ s ∈ ks, s.size ≤ 1000) (sv : ∀ s ∈ vs, s.size ≤ 1000) :
    Calls Try.prog 77 #[.agg #[.bool lf, .slice K ks.length kc, .slice V vs.length vc, .slice C cs.length cc], .int .i64 (n : Int)] w (RetV w (.int .i64 (needB lf ks vs n))) := by
  obtain ⟨R, hR⟩ : ∃ R, R = needB lf ks vs n := ⟨_, rfl⟩
  rw [← hR]
  have HR := Lib.hid hR; clear hR
  have HK := Lib.hid hk; clear hk
  have HV := Lib.hid hv; clear hv
  have HL := Lib.hid (needB_le (lf := lf) sk sv); clear sk sv
  cases lf with
  | true =>
    go_enter Try.func77, Try.ntmps77
    go_wp2_with fail
    go_loop [5, 6] (fun s i => ∃ k : Nat, k ≤ n ∧ i = .int .i64 k ∧ s = .int .i64 (needB true ks vs k)) (fun _ i => n - (intOf i).toNat)
    case atStart => exact ⟨0, Nat.zero_le _, rfl, rfl⟩
    case round =>
      obtain ⟨k, hkn, rfl, rfl⟩ := hrel
      by_cases hlt : k < n
      · have hlk : k < ks.length := by omega
        obtain ⟨b, o, rfl, hc⟩ := (HK.out.below (below_box w (.cells #[.bool true, .slice K ks.length kc, .slice V vs.length vc, .slice C cs.length cc] 25))).at_ hlk
        by_cases hlv : k < vs.length
        · have H1 := Lib.hid (needB_succ_leaf hlk hlv)
          have hb := HL.out (k + 1)
          rw [H1.out] at hb
          obtain ⟨b', o', rfl, hc'⟩ := (HV.out.below (below_box w (.cells #[.bool true, .slice (some ⟨b, o, none⟩) ks.length kc, .slice V vs.length vc, .slice C cs.length cc] 25))).at_ hlv
          generalize ks[k] = x at *
          generalize vs[k] = y at *
          go_wp2_with fail
          go_round
          case rel => exact ⟨k + 1, by omega, by go_num, by rw [H1.out]; go_num⟩
          case measure => simp [intOf]; omega
        · have H1 := Lib.hid (needB_succ_short hlk hlv)
          have hb := HL.out (k + 1)
          rw [H1.out] at hb
          generalize ks[k] = x at *
          go_wp2_with fail
          go_round
          case rel => exact ⟨k + 1, by omega, by go_num, by rw [H1.out]; go_num⟩
          case measure => simp [intOf]; omega
      · obtain rfl : k = n := by omega
        go_wp2_with fail
        go_ret
        exact ⟨by rw [HR.out]; rfl, below_box _ _⟩
  | false =>
    go_enter Try.func77, Try.ntmps77
    go_wp2_with fail
    go_loop [5, 6] (fun s i => ∃ k : Nat, k ≤ n ∧ i = .int .i64 k ∧ s = .int .i64 (needB false ks vs k)) (fun _ i => n - (intOf i).toNat)
    case atStart => exact ⟨0, Nat.zero_le _, rfl, rfl⟩
    case round =>
      obtain ⟨k, hkn, rfl, rfl⟩ := hrel
      by_cases hlt : k < n
      · have hlk : k < ks.length := by omega
        have H1 := Lib.hid (needB_succ_branch (vs := vs) hlk)
        have hb := HL.out (k + 1)
        rw [H1.out] at hb
        obtain ⟨b, o, rfl, hc⟩ := (HK.out.below (below_box w (.cells #[.bool false, .slice K ks.length kc, .slice V vs.length vc, .slice C cs.length cc] 25))).at_ hlk
        generalize ks[k] = x at *
        go_wp2_with fail
        go_round
        case rel => exact ⟨k + 1, by omega, by go_num, by rw [H1.out]; go_num⟩
        case measure => simp [intOf]; omega
      · obtain rfl : k = n := by omega
        go_wp2_with fail
        go_ret
        exact ⟨by rw [HR.out]; rfl, below_box _ _⟩
end Go.Proofs.Ytfngadidlmbfdaa
