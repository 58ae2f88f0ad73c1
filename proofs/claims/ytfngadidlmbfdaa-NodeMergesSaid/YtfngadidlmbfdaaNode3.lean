/-
  Contract of the reference's Can: the same blocks as the program's.
-/
import Derived.Test.YtfngadidlmbfdaaNode1
import Derived.Test.YtfngadidlmbfdaaFew
namespace Go.Proofs.Ytfngadidlmbfdaa
open Go.RowKit

theorem canB_badVal {ks vs : List ByteArray} {cs : List Int} {j : Nat} (hj : j < vs.length) (h : badVal vs[j] = true) : canB true ks vs cs = false := by
  have : vs.any badVal = true := List.any_eq_true.2 ⟨_, List.getElem_mem hj, h⟩
  simp [canB, this]
theorem canB_badKid {ks vs : List ByteArray} {cs : List Int} {j : Nat} (hj : j < cs.length) (h : badKid cs[j] = true) : canB false ks vs cs = false := by
  have : cs.any badKid = true := List.any_eq_true.2 ⟨_, List.getElem_mem hj, h⟩
  simp [canB, this]
theorem any_false_of {α : Type} {p : α → Bool} {xs : List α} (h : ∀ j (h : j < xs.length), p xs[j] = false) : xs.any p = false := by
  rw [Bool.eq_false_iff]
  intro ha
  obtain ⟨x, hx, hp⟩ := List.any_eq_true.1 ha
  obtain ⟨j, hj, rfl⟩ := List.getElem_of_mem hx
  rw [h j hj] at hp
  cases hp
theorem canB_leaf' {ks vs : List ByteArray} {cs : List Int} (h : okKeys ks = true) (hv : vs.any badVal = false) : canB true ks vs cs = (decide (vs.length = ks.length) && decide (cs.length = 0)) := by
  simp [canB, h, hv, Bool.and_comm]
theorem canB_branch' {ks vs : List ByteArray} {cs : List Int} (h : okKeys ks = true) (hv : cs.any badKid = false) : canB false ks vs cs = (decide (cs.length = ks.length + 1) && decide (vs.length = 0)) := by
  simp [canB, h, hv, Bool.and_comm]

set_option maxRecDepth 100000 in
set_option maxHeartbeats 2000000 in
theorem rcan_any (lf : Bool) (K V C : Option Addr) (ks vs : List ByteArray) (cs : List Int) (kc vc cc : Nat) (w : World)
    (hk : Rd Value.string w K ks) (hv : Rd Value.string w V vs) (hc : Rd (Value.int .i64) w C cs) (lk : ks.length ≤ 100000) (lv : vs.length ≤ 100000) (lc : cs.length ≤ 100000) :
    Calls Try.prog 76 #[.agg #[.bool lf, .slice K ks.length kc, .slice V vs.length vc, .slice C cs.length cc]] w (RetV w (.bool (canB lf ks vs cs))) := by
  obtain ⟨B, hB⟩ : ∃ B, B = canB lf ks vs cs := ⟨_, rfl⟩
  rw [← hB]
  have HB := Lib.hid hB; clear hB
  have HK := Lib.hid hk; clear hk
  have HV := Lib.hid hv; clear hv
  have HC := Lib.hid hc; clear hc
  go_enter Try.func76, Try.ntmps76
  go_wp2_with fail
  go_loopw [4] (fun i wr => ∃ n : Nat, n ≤ ks.length ∧ i = .int .i64 n ∧ Hid (Drawn (w.alloc (.cells #[.bool lf, .slice K ks.length kc, .slice V vs.length vc, .slice C cs.length cc] 25)) wr ∧ ∀ j, j < n → okAt ks j = true)) (fun i _ => ks.length - (intOf i).toNat)
  case atStart => exact ⟨0, Nat.zero_le _, rfl, Drawn.refl _, fun j h => absurd h (by omega)⟩
  case round =>
    obtain ⟨n, hn, rfl, HN⟩ := hrel
    obtain ⟨q, rfl⟩ := HN.1
    have hbw := Lib.hid (below_box w (.cells #[.bool lf, .slice K ks.length kc, .slice V vs.length vc, .slice C cs.length cc] 25))
    by_cases hlt : n < ks.length
    · obtain ⟨b, o, rfl, hcell⟩ := ((HK.out).below hbw.out).at_ hlt
      have HX := Lib.hid (getD_of_lt (d := ByteArray.empty) hlt)
      generalize ks[n] = x at *
      by_cases hx : 200 < x.size
      · have HF := Lib.hid (canB_keys (lf := lf) (vs := vs) (cs := cs) (okKeys_false hlt (okAt_long (by rw [HX.out]; exact hx))))
        have hd : decide (200 < (x.size : Int)) = true := by simp; omega
        go_wp2_with fail
        go_quiet (fail)
        go_wp2_with fail
        go_ret
        exact ⟨by rw [HB.out, HF.out]; rfl, below_drawn (below_box w _) (by first | exact HN.1.step _ | exact ⟨_, rfl⟩)⟩
      · have hd : decide (200 < (x.size : Int)) = false := by simp; omega
        rcases Nat.eq_zero_or_pos n with h0 | h0
        · subst h0
          rw [Nat.add_zero] at hcell
          have H0 := Lib.hid (okAt_first (by rw [HX.out]; exact hx))
          go_wp2_with fail
          go_quiet (fail)
          go_wp2_with fail
          go_roundw
          case rel => exact ⟨1, by omega, by go_num, (by first | exact HN.1.step _ | exact ⟨_, rfl⟩), fun j hj => by (obtain rfl : j = 0 := by omega); exact H0.out⟩
          case measure => simp [intOf]; omega
        · obtain ⟨m, rfl⟩ : ∃ m, n = m + 1 := ⟨n - 1, by omega⟩
          have HP := Lib.hid (okAt_next (ks := ks) (i := m) (by rw [HX.out]; exact hx))
          obtain ⟨b', o', he, hcell'⟩ := ((HK.out).below hbw.out).at_ (show m < ks.length by omega)
          injection he with he
          injection he with he1 he2
          subst he1 he2
          have HY := Lib.hid (getD_of_lt (d := ByteArray.empty) (show m < ks.length by omega))
          generalize ks[m]'(by omega) = y at *
          have hd1 : decide ((0 : Int) < (m : Int) + 1) = true := decide_eq_true (by omega)
          cases hle : leS x y with
          | true =>
            have HF := Lib.hid (canB_keys (lf := lf) (vs := vs) (cs := cs) (okKeys_false hlt (by rw [HP.out, HX.out, HY.out, hle]; rfl)))
            have hle' : (Op.bytesLess x.toList y.toList || x.toList == y.toList) = true := hle
            clear hle
            go_wp2_with fail
            go_quiet (fail)
            go_wp2_with fail
            go_ret
            exact ⟨by rw [HB.out, HF.out]; rfl, below_drawn (below_box w _) (by first | exact HN.1.step _ | exact ⟨_, rfl⟩)⟩
          | false =>
            have H1 : Hid (okAt ks (m + 1) = true) := by show okAt ks (m + 1) = true; rw [HP.out, HX.out, HY.out, hle]; rfl
            have hle' : (Op.bytesLess x.toList y.toList || x.toList == y.toList) = false := hle
            clear hle
            go_wp2_with fail
            go_quiet (fail)
            go_wp2_with fail
            go_roundw
            case rel =>
              exact ⟨m + 2, by omega, by go_num, (by first | exact HN.1.step _ | exact ⟨_, rfl⟩), fun j hj => by
                by_cases e : j < m + 1
                · exact HN.2 j e
                · obtain rfl : j = m + 1 := by omega
                  exact H1.out⟩
            case measure => simp [intOf]; omega
    · have HOK := Lib.hid (okKeys_true (ks := ks) (fun j hj => HN.2 j (by omega)))
      have HW := Lib.hid (HN.1)
      cases lf with
      | true =>
        go_wp2_with fail
        go_loop [5] (fun i => ∃ n : Nat, n ≤ vs.length ∧ i = .int .i64 n ∧ Hid (∀ j (h : j < vs.length), j < n → badVal vs[j] = false)) (fun i => vs.length - (intOf i).toNat)
        case atStart => exact ⟨0, Nat.zero_le _, rfl, fun j _ h => absurd h (by omega)⟩
        case round =>
          obtain ⟨m, hm, rfl, HM⟩ := hrel
          by_cases hlt' : m < vs.length
          · obtain ⟨b, o, rfl, hcell⟩ := ((HV.out).below hbw.out).at_ hlt'
            obtain ⟨x, hx⟩ : ∃ x, x = vs[m] := ⟨_, rfl⟩
            rw [← hx] at hcell
            have HX := Lib.hid hx; clear hx
            by_cases hbig : 40 < x.size
            · have HF := Lib.hid (canB_badVal (ks := ks) (cs := cs) hlt' (by rw [← HX.out]; simp [badVal]; omega))
              go_wp2_with fail
              go_ret
              exact ⟨by rw [HB.out, HF.out]; rfl, below_drawn (below_box w _) HW.out⟩
            · have HS : Hid (badVal x = false) := by show badVal x = false; simp [badVal]; omega
              go_wp2_with fail
              go_round
              case rel =>
                exact ⟨m + 1, by omega, by go_num, fun j h hj => by
                  by_cases e : j < m
                  · exact HM j h e
                  · obtain rfl : j = m := by omega
                    rw [← HX.out]; exact HS.out⟩
              case measure => simp [intOf]; omega
          · have HF := Lib.hid (canB_leaf' (cs := cs) HOK.out (any_false_of (fun j h => HM j h (by omega))))
            by_cases h2 : vs.length = ks.length
            · have h2' : ((vs.length : Int) == ks.length) = true := by rw [h2]; exact beq_self_eq_true _
              by_cases h1 : cs.length = 0
              · have h1' : ((cs.length : Int) == 0) = true := by rw [h1]; rfl
                have HFF : Hid (B = true) := by show B = _; rw [HB.out, HF.out, decide_eq_true h1, decide_eq_true h2]; rfl
                clear h1 h2
                go_wp2_with fail
                go_ret
                exact ⟨by rw [HFF.out]; rfl, below_drawn (below_box w _) HW.out⟩
              · have h1' : ((cs.length : Int) == 0) = false := beq_eq_false_iff_ne.2 (by omega)
                have HFF : Hid (B = false) := by show B = _; rw [HB.out, HF.out, decide_eq_false h1, Bool.and_false]
                clear h1 h2
                go_wp2_with fail
                go_ret
                exact ⟨by rw [HFF.out]; rfl, below_drawn (below_box w _) HW.out⟩
            · have h2' : ((vs.length : Int) == ks.length) = false := beq_eq_false_iff_ne.2 (by omega)
              have HFF : Hid (B = false) := by show B = _; rw [HB.out, HF.out, decide_eq_false h2]; rfl
              clear h2
              go_wp2_with fail
              go_ret
              exact ⟨by rw [HFF.out]; rfl, below_drawn (below_box w _) HW.out⟩
      | false =>
        go_wp2_with fail
        go_loop [6] (fun i => ∃ n : Nat, n ≤ cs.length ∧ i = .int .i64 n ∧ Hid (∀ j (h : j < cs.length), j < n → badKid cs[j] = false)) (fun i => cs.length - (intOf i).toNat)
        case atStart => exact ⟨0, Nat.zero_le _, rfl, fun j _ h => absurd h (by omega)⟩
        case round =>
          obtain ⟨m, hm, rfl, HM⟩ := hrel
          by_cases hlt' : m < cs.length
          · obtain ⟨b, o, rfl, hcell⟩ := ((HC.out).below hbw.out).at_ hlt'
            obtain ⟨x, hx⟩ : ∃ x, x = cs[m] := ⟨_, rfl⟩
            rw [← hx] at hcell
            have HX := Lib.hid hx; clear hx
            by_cases hbig : x < 1
            · have HF := Lib.hid (canB_badKid (ks := ks) (vs := vs) hlt' (by rw [← HX.out]; simp [badKid, hbig]))
              go_wp2_with fail
              go_ret
              exact ⟨by rw [HB.out, HF.out]; rfl, below_drawn (below_box w _) HW.out⟩
            · by_cases hbig2 : 2147483647 < x
              · have HF := Lib.hid (canB_badKid (ks := ks) (vs := vs) hlt' (by rw [← HX.out]; simp [badKid, hbig2]))
                go_wp2_with fail
                go_ret
                exact ⟨by rw [HB.out, HF.out]; rfl, below_drawn (below_box w _) HW.out⟩
              · have HS : Hid (badKid x = false) := by show badKid x = false; simp [badKid]; omega
                go_wp2_with fail
                go_round
                case rel =>
                  exact ⟨m + 1, by omega, by go_num, fun j h hj => by
                    by_cases e : j < m
                    · exact HM j h e
                    · obtain rfl : j = m := by omega
                      rw [← HX.out]; exact HS.out⟩
                case measure => simp [intOf]; omega
          · have HF := Lib.hid (canB_branch' (vs := vs) HOK.out (any_false_of (fun j h => HM j h (by omega))))
            by_cases h2 : cs.length = ks.length + 1
            · have h2' : ((cs.length : Int) == (ks.length : Int) + 1) = true := by rw [h2]; simp
              by_cases h1 : vs.length = 0
              · have h1' : ((vs.length : Int) == 0) = true := by rw [h1]; rfl
                have HFF : Hid (B = true) := by show B = _; rw [HB.out, HF.out, decide_eq_true h1, decide_eq_true h2]; rfl
                clear h1 h2
                go_wp2_with fail
                go_ret
                exact ⟨by rw [HFF.out]; rfl, below_drawn (below_box w _) HW.out⟩
              · have h1' : ((vs.length : Int) == 0) = false := beq_eq_false_iff_ne.2 (by omega)
                have HFF : Hid (B = false) := by show B = _; rw [HB.out, HF.out, decide_eq_false h1, Bool.and_false]
                clear h1 h2
                go_wp2_with fail
                go_ret
                exact ⟨by rw [HFF.out]; rfl, below_drawn (below_box w _) HW.out⟩
            · have h2' : ((cs.length : Int) == (ks.length : Int) + 1) = false := beq_eq_false_iff_ne.2 (by omega)
              have HFF : Hid (B = false) := by show B = _; rw [HB.out, HF.out, decide_eq_false h2]; rfl
              clear h2
              go_wp2_with fail
              go_ret
              exact ⟨by rw [HFF.out]; rfl, below_drawn (below_box w _) HW.out⟩
end Go.Proofs.Ytfngadidlmbfdaa
