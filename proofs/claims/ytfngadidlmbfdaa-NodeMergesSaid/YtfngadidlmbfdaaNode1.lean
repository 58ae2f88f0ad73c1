/-
  Contracts of package node's can and need.
-/
import Derived.Test.YtfngadidlmbfdaaLib1
import Derived.Test.YtfngadidlmbfdaaNodeSpec
namespace Go.Proofs.Ytfngadidlmbfdaa
open Go.RowKit

theorem called_can1 : Called Try.prog 126 := fun _ _ => by kernel_rfl
theorem called_can2 : Called Try.prog 128 := fun _ _ => by kernel_rfl

set_option maxHeartbeats 400000 in
theorem can1_any (s : ByteArray) (w : World) : Calls Try.prog 126 #[.string s] w fun e w' => e = .returned (.bool (badVal s)) ∧ w = w' := by
  go_enter Try.func126, Try.ntmps126
  go_wp2
  go_ret
  exact ⟨rfl, rfl⟩

set_option maxHeartbeats 400000 in
theorem can2_any (n : Int) (w : World) : Calls Try.prog 128 #[.int .i64 n] w fun e w' => e = .returned (.bool (badKid n)) ∧ w = w' := by
  by_cases h : n < 1
  · have hf : badKid n = true := by simp [badKid, h]
    have HF := Lib.hid hf; clear hf
    go_enter Try.func128, Try.ntmps128
    go_wp2
    go_ret
    exact ⟨by rw [HF.out]; rfl, rfl⟩
  · have hf : badKid n = decide (2147483647 < n) := by simp [badKid, h]
    have HF := Lib.hid hf; clear hf
    go_enter Try.func128, Try.ntmps128
    go_wp2
    go_ret
    exact ⟨by rw [HF.out]; rfl, rfl⟩

/-- What a call hands back that turns nothing. -/
def RetV (w : World) (v : Value) (e : Ending) (w' : World) : Prop := e = .returned v ∧ Below w.heap.size w w'
theorem below_box (w : World) (o : Obj) : Below w.heap.size w (w.alloc o) := (Below.refl _ _).alloc (Nat.le_refl _) o
theorem getD_of_lt {α : Type} {xs : List α} {d : α} {n : Nat} (h : n < xs.length) : xs.getD n d = xs[n] := by simp [h]

set_option maxRecDepth 100000 in
set_option maxHeartbeats 1000000 in
theorem can_any (lf : Bool) (K V C : Option Addr) (ks vs : List ByteArray) (cs : List Int) (kc vc cc : Nat) (w : World)
    (hk : Rd Value.string w K ks) (hv : Rd Value.string w V vs) (hc : Rd (Value.int .i64) w C cs) (lk : ks.length ≤ 100000) (lv : vs.length ≤ 100000) (lc : cs.length ≤ 100000) :
    Calls Try.prog 72 #[.agg #[.bool lf, .slice K ks.length kc, .slice V vs.length vc, .slice C cs.length cc]] w (RetV w (.bool (canB lf ks vs cs))) := by
  obtain ⟨B, hB⟩ : ∃ B, B = canB lf ks vs cs := ⟨_, rfl⟩
  rw [← hB]
  have HB := Lib.hid hB; clear hB
  have HK := Lib.hid hk; clear hk
  have HV := Lib.hid hv; clear hv
  have HC := Lib.hid hc; clear hc
  go_enter Try.func72, Try.ntmps72
  go_wp2_with fail
  go_loop [8] (fun i => ∃ n : Nat, n ≤ ks.length ∧ i = .int .i64 n ∧ Hid (∀ j, j < n → okAt ks j = true)) (fun i => ks.length - (intOf i).toNat)
  case atStart => exact ⟨0, Nat.zero_le _, rfl, fun j h => absurd h (by omega)⟩
  case round =>
    obtain ⟨n, hn, rfl, HN⟩ := hrel
    by_cases hlt : n < ks.length
    · obtain ⟨b, o, rfl, hcell⟩ := ((HK.out).below (below_box w (.cells #[.bool lf, .slice K ks.length kc, .slice V vs.length vc, .slice C cs.length cc] 25))).at_ hlt
      have HX := Lib.hid (getD_of_lt (d := ByteArray.empty) hlt)
      generalize ks[n] = x at *
      by_cases hx : 200 < x.size
      · have HF := Lib.hid (canB_keys (lf := lf) (vs := vs) (cs := cs) (okKeys_false hlt (okAt_long (by rw [HX.out]; exact hx))))
        go_wp2_with fail
        go_ret
        exact ⟨by rw [HB.out, HF.out]; rfl, below_box _ _⟩
      · rcases Nat.eq_zero_or_pos n with h0 | h0
        · subst h0
          rw [Nat.add_zero] at hcell
          have H0 := Lib.hid (okAt_first (by rw [HX.out]; exact hx))
          go_wp2_with fail
          go_round
          case rel => exact ⟨1, by omega, by go_num, fun j hj => by (obtain rfl : j = 0 := by omega); exact H0.out⟩
          case measure => simp [intOf]; omega
        · obtain ⟨m, rfl⟩ : ∃ m, n = m + 1 := ⟨n - 1, by omega⟩
          have HP := Lib.hid (okAt_next (ks := ks) (i := m) (by rw [HX.out]; exact hx))
          obtain ⟨b', o', he, hcell'⟩ := ((HK.out).below (below_box w (.cells #[.bool lf, .slice (some ⟨b, o, none⟩) ks.length kc, .slice V vs.length vc, .slice C cs.length cc] 25))).at_ (show m < ks.length by omega)
          injection he with he
          injection he with he1 he2
          subst he1 he2
          have HY := Lib.hid (getD_of_lt (d := ByteArray.empty) (show m < ks.length by omega))
          generalize ks[m]'(by omega) = y at *
          cases hle : leS x y with
          | true =>
            have HF := Lib.hid (canB_keys (lf := lf) (vs := vs) (cs := cs) (okKeys_false hlt (by rw [HP.out, HX.out, HY.out, hle]; rfl)))
            have hle' : (Op.bytesLess x.toList y.toList || x.toList == y.toList) = true := hle
            clear hle
            go_wp2_with fail
            go_ret
            exact ⟨by rw [HB.out, HF.out]; rfl, below_box _ _⟩
          | false =>
            have H1 : Hid (okAt ks (m + 1) = true) := by show okAt ks (m + 1) = true; rw [HP.out, HX.out, HY.out, hle]; rfl
            have hle' : (Op.bytesLess x.toList y.toList || x.toList == y.toList) = false := hle
            clear hle
            go_wp2_with fail
            go_round
            case rel =>
              exact ⟨m + 2, by omega, by go_num, fun j hj => by
                by_cases e : j < m + 1
                · exact HN.out j e
                · obtain rfl : j = m + 1 := by omega
                  exact H1.out⟩
            case measure => simp [intOf]; omega
    · have HOK := Lib.hid (okKeys_true (ks := ks) (fun j hj => HN.out j (by omega)))
      cases lf with
      | true =>
        have HF := Lib.hid (canB_leaf (vs := vs) (cs := cs) HOK.out)
        by_cases h1 : cs.length = 0
        · by_cases h2 : vs.length = ks.length
          · have h1' : ((cs.length : Int) == 0) = true := by rw [h1]; rfl
            have h2' : ((vs.length : Int) == ks.length) = true := by rw [h2]; exact beq_self_eq_true _
            have HFF : Hid (B = !(vs.any badVal)) := by show B = _; rw [HB.out, HF.out, decide_eq_true h1, decide_eq_true h2]; rfl
            clear h1 h2
            go_wp2_with fail
            refine (contS_any 126 badVal vs called_can1 (fun s w _ => can1_any s w) _ _ _ (HV.out.below (below_box _ _)) (by unfold maxLen; omega)).mono ?_
            rintro e w' ⟨rfl, rfl⟩
            generalize vs.any badVal = r at *
            go_wp2_with fail
            go_ret
            exact ⟨by rw [HFF.out]; rfl, below_box _ _⟩
          · have h1' : ((cs.length : Int) == 0) = true := by rw [h1]; rfl
            have h2' : ((vs.length : Int) == ks.length) = false := beq_eq_false_iff_ne.2 (by omega)
            have HFF : Hid (B = false) := by show B = _; rw [HB.out, HF.out, decide_eq_true h1, decide_eq_false h2]; rfl
            clear h1 h2
            go_wp2_with fail
            go_ret
            exact ⟨by rw [HFF.out]; rfl, below_box _ _⟩
        · have h1' : ((cs.length : Int) == 0) = false := beq_eq_false_iff_ne.2 (by omega)
          have HFF : Hid (B = false) := by show B = _; rw [HB.out, HF.out, decide_eq_false h1]; rfl
          clear h1
          go_wp2_with fail
          go_ret
          exact ⟨by rw [HFF.out]; rfl, below_box _ _⟩
      | false =>
        have HF := Lib.hid (canB_branch (vs := vs) (cs := cs) HOK.out)
        by_cases h1 : vs.length = 0
        · by_cases h2 : cs.length = ks.length + 1
          · have h1' : ((vs.length : Int) == 0) = true := by rw [h1]; rfl
            have h2' : ((cs.length : Int) == (ks.length : Int) + 1) = true := by rw [h2]; simp
            have HFF : Hid (B = !(cs.any badKid)) := by show B = _; rw [HB.out, HF.out, decide_eq_true h1, decide_eq_true h2]; rfl
            clear h1 h2
            go_wp2_with fail
            refine (contI_any 128 badKid cs called_can2 (fun s w _ => can2_any s w) _ _ _ (HC.out.below (below_box _ _)) (by unfold maxLen; omega)).mono ?_
            rintro e w' ⟨rfl, rfl⟩
            generalize cs.any badKid = r at *
            go_wp2_with fail
            go_ret
            exact ⟨by rw [HFF.out]; rfl, below_box _ _⟩
          · have h1' : ((vs.length : Int) == 0) = true := by rw [h1]; rfl
            have h2' : ((cs.length : Int) == (ks.length : Int) + 1) = false := beq_eq_false_iff_ne.2 (by omega)
            have HFF : Hid (B = false) := by show B = _; rw [HB.out, HF.out, decide_eq_true h1, decide_eq_false h2]; rfl
            clear h1 h2
            go_wp2_with fail
            go_ret
            exact ⟨by rw [HFF.out]; rfl, below_box _ _⟩
        · have h1' : ((vs.length : Int) == 0) = false := beq_eq_false_iff_ne.2 (by omega)
          have HFF : Hid (B = false) := by show B = _; rw [HB.out, HF.out, decide_eq_false h1]; rfl
          clear h1
          go_wp2_with fail
          go_ret
          exact ⟨by rw [HFF.out]; rfl, below_box _ _⟩
end Go.Proofs.Ytfngadidlmbfdaa
