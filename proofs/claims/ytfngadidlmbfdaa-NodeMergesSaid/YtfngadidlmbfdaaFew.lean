/-
  Contracts of the law's few and of the reference's Same on blocks.
-/
import Derived.Test.YtfngadidlmbfdaaOwn22
import Derived.Test.YtfngadidlmbfdaaSame
namespace Go.Proofs.Ytfngadidlmbfdaa
open Go.RowKit

theorem below_drawn {w w1 w2 : World} (h : Below w.heap.size w w1) (hd : Drawn w1 w2) : Below w.heap.size w w2 := h.trans (hd.below.mono h.size)
theorem below_dn {B : Nat} {w w1 : World} (h : Below B w w1) (n : Nat) : Below B w (w1.drewN n) := ⟨h.os, h.tape, h.output, h.size, h.block⟩
def shorts (n : Nat) (ss : List ByteArray) : Bool := ss.all fun s => decide (s.size ≤ n)
def fewB (ks vs : List ByteArray) (cs : List Int) : Bool := decide (ks.length ≤ 300) && (decide (vs.length ≤ 300) && (decide (cs.length ≤ 300) && (shorts 1000 ks && shorts 1000 vs)))
theorem fewB_parts {ks vs : List ByteArray} {cs : List Int} (h : fewB ks vs cs = true) : ks.length ≤ 300 ∧ vs.length ≤ 300 ∧ cs.length ≤ 300 ∧ (∀ s ∈ ks, s.size ≤ 1000) ∧ (∀ s ∈ vs, s.size ≤ 1000) := by
  simpa [fewB, shorts] using h
theorem shorts_false {n j : Nat} {ss : List ByteArray} (hj : j < ss.length) (h : n < ss[j].size) : shorts n ss = false := by
  rw [Bool.eq_false_iff]
  intro ha
  have := List.all_eq_true.1 ha _ (List.getElem_mem hj)
  simp at this
  omega
theorem shorts_true {n : Nat} {ss : List ByteArray} (h : ∀ j (h : j < ss.length), ss[j].size ≤ n) : shorts n ss = true := by
  refine List.all_eq_true.2 fun s hs => ?_
  obtain ⟨j, hj, rfl⟩ := List.getElem_of_mem hs
  simpa using h j hj

set_option maxRecDepth 100000 in
set_option maxHeartbeats 1000000 in
theorem few_any (lf : Bool) (K V C : Option Addr) (ks vs : List ByteArray) (cs : List Int) (kc vc cc : Nat) (w : World)
    (hk : Rd Value.string w K ks) (hv : Rd Value.string w V vs) :
    Calls Try.prog 16 #[.agg #[.bool lf, .slice K ks.length kc, .slice V vs.length vc, .slice C cs.length cc]] w (RetV w (.bool (fewB ks vs cs))) := by
  obtain ⟨B, hB⟩ : ∃ B, B = fewB ks vs cs := ⟨_, rfl⟩
  rw [← hB]
  have HK := Lib.hid hk; clear hk
  have HV := Lib.hid hv; clear hv
  by_cases h1 : ks.length ≤ 300
  · by_cases h2 : vs.length ≤ 300
    · by_cases h3 : cs.length ≤ 300
      · have HB : Hid (B = (shorts 1000 ks && shorts 1000 vs)) := by show B = _; rw [hB]; simp [fewB, h1, h2, h3]
        clear hB
        go_enter Try.func16, Try.ntmps16
        go_wp2_with fail
        go_loop [3] (fun i => ∃ n : Nat, n ≤ ks.length ∧ i = .int .i64 n ∧ Hid (∀ j (h : j < ks.length), j < n → ks[j].size ≤ 1000)) (fun i => ks.length - (intOf i).toNat)
        case atStart => exact ⟨0, Nat.zero_le _, rfl, fun j _ h => absurd h (by omega)⟩
        case round =>
          obtain ⟨n, hn, rfl, HN⟩ := hrel
          by_cases hlt : n < ks.length
          · obtain ⟨b, o, rfl, hcell⟩ := (HK.out.below (below_box w (.cells #[.bool lf, .slice K ks.length kc, .slice V vs.length vc, .slice C cs.length cc] 25))).at_ hlt
            obtain ⟨x, hx⟩ : ∃ x, x = ks[n] := ⟨_, rfl⟩
            rw [← hx] at hcell
            have HX := Lib.hid hx; clear hx
            by_cases hbig : 1000 < x.size
            · have HF := Lib.hid (shorts_false hlt (by rw [← HX.out]; exact hbig))
              go_wp2_with fail
              go_ret
              exact ⟨by rw [HB.out, HF.out]; rfl, below_box _ _⟩
            · go_wp2_with fail
              go_round
              case rel =>
                exact ⟨n + 1, by omega, by go_num, fun j h hj => by
                  by_cases e : j < n
                  · exact HN j h e
                  · obtain rfl : j = n := by omega
                    rw [← HX.out]; omega⟩
              case measure => simp [intOf]; omega
          · have HF := Lib.hid (shorts_true (n := 1000) (fun j h => HN j h (by omega)))
            go_wp2_with fail
            go_loop [4] (fun i => ∃ n : Nat, n ≤ vs.length ∧ i = .int .i64 n ∧ Hid (∀ j (h : j < vs.length), j < n → vs[j].size ≤ 1000)) (fun i => vs.length - (intOf i).toNat)
            case atStart => exact ⟨0, Nat.zero_le _, rfl, fun j _ h => absurd h (by omega)⟩
            case round =>
              obtain ⟨m, hm, rfl, HM⟩ := hrel
              by_cases hlt' : m < vs.length
              · obtain ⟨b, o, rfl, hcell⟩ := (HV.out.below (below_box w (.cells #[.bool lf, .slice K ks.length kc, .slice V vs.length vc, .slice C cs.length cc] 25))).at_ hlt'
                obtain ⟨x, hx⟩ : ∃ x, x = vs[m] := ⟨_, rfl⟩
                rw [← hx] at hcell
                have HX := Lib.hid hx; clear hx
                by_cases hbig : 1000 < x.size
                · have HG := Lib.hid (shorts_false hlt' (by rw [← HX.out]; exact hbig))
                  go_wp2_with fail
                  go_ret
                  exact ⟨by rw [HB.out, HF.out, HG.out]; rfl, below_box _ _⟩
                · go_wp2_with fail
                  go_round
                  case rel =>
                    exact ⟨m + 1, by omega, by go_num, fun j h hj => by
                      by_cases e : j < m
                      · exact HM j h e
                      · obtain rfl : j = m := by omega
                        rw [← HX.out]; omega⟩
                  case measure => simp [intOf]; omega
              · have HG := Lib.hid (shorts_true (n := 1000) (fun j h => HM j h (by omega)))
                go_wp2_with fail
                go_ret
                exact ⟨by rw [HB.out, HF.out, HG.out]; rfl, below_box _ _⟩
      · have HB : Hid (B = false) := by show B = _; rw [hB]; simp [fewB, h3]
        clear hB
        go_enter Try.func16, Try.ntmps16
        go_wp2_with fail
        go_ret
        exact ⟨by rw [HB.out]; rfl, below_box _ _⟩
    · have HB : Hid (B = false) := by show B = _; rw [hB]; simp [fewB, h2]
      clear hB
      go_enter Try.func16, Try.ntmps16
      go_wp2_with fail
      go_ret
      exact ⟨by rw [HB.out]; rfl, below_box _ _⟩
  · have HB : Hid (B = false) := by show B = _; rw [hB]; simp [fewB, h1]
    clear hB
    go_enter Try.func16, Try.ntmps16
    go_wp2_with fail
    go_ret
    exact ⟨by rw [HB.out]; rfl, below_box _ _⟩

set_option maxRecDepth 100000 in
set_option maxHeartbeats 1000000 in
theorem same22_yes (lf : Bool) (K V C K' V' C' : Option Addr) (ks vs : List ByteArray) (cs : List Int) (kc vc cc kc' vc' cc' : Nat) (w : World)
    (hk : Rd Value.string w K ks) (hv : Rd Value.string w V vs) (hc : Rd (Value.int .i64) w C cs) (hk' : Rd Value.string w K' ks) (hv' : Rd Value.string w V' vs) (hc' : Rd (Value.int .i64) w C' cs)
    (lk : ks.length ≤ 100000) (lv : vs.length ≤ 100000) (lc : cs.length ≤ 100000) :
    Calls Try.prog 21 #[.agg #[.bool lf, .slice K ks.length kc, .slice V vs.length vc, .slice C cs.length cc], .agg #[.bool lf, .slice K' ks.length kc', .slice V' vs.length vc', .slice C' cs.length cc']] w (RetV w (.bool true)) := by
  have HB := Lib.hid (below_box2 w (.cells #[.bool lf, .slice K ks.length kc, .slice V vs.length vc, .slice C cs.length cc] 25) (.cells #[.bool lf, .slice K' ks.length kc', .slice V' vs.length vc', .slice C' cs.length cc'] 25))
  have H1 := Lib.hid (fun W (hb : Below w.heap.size w W) => sameS_yes K K' ks kc kc' W (hk.below hb) (hk'.below hb) (by omega))
  have H2 := Lib.hid (fun W (hb : Below w.heap.size w W) => sameS_yes V V' vs vc vc' W (hv.below hb) (hv'.below hb) (by omega))
  have H3 := Lib.hid (fun W (hb : Below w.heap.size w W) => sameI_yes C C' cs cc cc' W (hc.below hb) (hc'.below hb) (by omega))
  clear hk hv hc hk' hv' hc'
  have hlf : (lf == lf) = true := by simp
  go_enter Try.func21, Try.ntmps21
  go_wp2_with fail
  refine (H1.out _ HB.out).mono ?_
  rintro e w1 ⟨rfl, q1, rfl⟩
  go_wp2_with fail
  refine (H2.out _ (by exact below_dn HB.out _)).mono ?_
  rintro e w1 ⟨rfl, q2, rfl⟩
  go_wp2_with fail
  refine (H3.out _ (by exact below_dn HB.out _)).mono ?_
  rintro e w1 ⟨rfl, q3, rfl⟩
  go_wp2_with fail
  go_ret
  exact ⟨rfl, below_dn HB.out _⟩
end Go.Proofs.Ytfngadidlmbfdaa
