/-
  Contracts of the references' Same on two lists of texts, on two lists of numbers.
-/
import Derived.Test.YtfngadidlmbfdaaBase
import Derived.Deep.QuietTactic
import Derived.BigQuiet
namespace Go.Proofs.Ytfngadidlmbfdaa
open Go.RowKit

/-- The world is the old one, some orders having been drawn. -/
def Drawn (w w' : World) : Prop := ∃ n, w' = w.drewN n
theorem Drawn.refl (w : World) : Drawn w w := ⟨0, rfl⟩
theorem Drawn.step {w w' : World} (h : Drawn w w') (n : Nat) : Drawn w (w'.drewN n) := by
  obtain ⟨m, rfl⟩ := h
  exact ⟨m + n, World.drewN_drewN ..⟩
theorem Drawn.below {w w' : World} (h : Drawn w w') : Below w.heap.size w w' := by
  obtain ⟨n, rfl⟩ := h
  exact ⟨rfl, rfl, rfl, Nat.le_refl _, fun _ _ => rfl⟩
/-- What a call hands back that only draws orders. -/
def RetD (w : World) (v : Value) (e : Ending) (w' : World) : Prop := e = .returned v ∧ Drawn w w'

theorem toList_inj {x y : ByteArray} (h : x.toList = y.toList) : x = y := by
  rw [ByteArray.toList_eq, ByteArray.toList_eq] at h
  exact ByteArray.ext (Array.toList_inj.1 h)
set_option maxRecDepth 100000 in
set_option maxHeartbeats 1000000 in
theorem sameS_any (A B : Option Addr) (xs ys : List ByteArray) (c d : Nat) (w : World) (ha : Rd Value.string w A xs) (hb : Rd Value.string w B ys) (lx : xs.length ≤ 1000000) (ly : ys.length ≤ 1000000) :
    Calls Try.prog 78 #[.slice A xs.length c, .slice B ys.length d] w (RetD w (.bool (decide (xs = ys)))) := by
  obtain ⟨R, hR⟩ : ∃ R, R = decide (xs = ys) := ⟨_, rfl⟩
  rw [← hR]
  have HR := Lib.hid hR; clear hR
  have HA := Lib.hid ha; clear ha
  have HB := Lib.hid hb; clear hb
  by_cases hl : xs.length = ys.length
  · have h1 : ((xs.length : Int) != ys.length) = false := by simp [hl]
    have HL := Lib.hid hl; clear hl
    go_enter Try.func78, Try.ntmps78
    go_wp2_with fail
    go_loopw [5] (fun i wr => ∃ k : Nat, k ≤ xs.length ∧ i = .int .i64 k ∧ Hid (Drawn w wr ∧ ∀ j (h : j < xs.length) (h' : j < ys.length), j < k → xs[j] = ys[j])) (fun i _ => xs.length - (intOf i).toNat)
    case atStart => exact ⟨0, Nat.zero_le _, rfl, Drawn.refl _, fun j _ _ h => absurd h (by omega)⟩
    case round =>
      obtain ⟨k, hk, rfl, hrest⟩ := hrel
      by_cases hlt : k < xs.length
      · have hlt' : k < ys.length := by have := HL.out; omega
        obtain ⟨b, o, rfl, hc⟩ := (HA.out.below hrest.1.below).at_ hlt
        obtain ⟨b', o', rfl, hc'⟩ := (HB.out.below hrest.1.below).at_ hlt'
        obtain ⟨x, hx⟩ : ∃ x, x = xs[k] := ⟨_, rfl⟩
        obtain ⟨y, hy⟩ : ∃ y, y = ys[k] := ⟨_, rfl⟩
        rw [← hx] at hc
        rw [← hy] at hc'
        have HX := Lib.hid hx; clear hx
        have HY := Lib.hid hy; clear hy
        by_cases hxy : x = y
        · have e1 : (x.toList == y.toList) = true := by simp [hxy]
          have e2 : (x.toList != y.toList) = false := by simp [hxy]
          have HE := Lib.hid hxy; clear hxy
          go_wp2_with fail
          go_quiet (fail)
          go_wp2_with fail
          go_roundw
          case rel =>
            refine ⟨k + 1, by omega, by go_num, hrest.1.step _, fun j h h' hj => ?_⟩
            by_cases e : j < k
            · exact hrest.2 j h h' e
            · obtain rfl : j = k := by omega
              rw [← HX.out, ← HY.out]
              exact HE.out
          case measure => simp [intOf]; omega
        · have e1 : (x.toList == y.toList) = false := by simpa using fun h => hxy (toList_inj h)
          have e2 : (x.toList != y.toList) = true := by simpa using fun h => hxy (toList_inj h)
          have HF : Hid (R = false) := by
            show R = false
            rw [HR.out]
            refine decide_eq_false fun e => hxy ?_
            subst e
            rw [HX.out, HY.out]
          clear hxy
          go_wp2_with fail
          go_quiet (fail)
          go_wp2_with fail
          go_ret
          exact ⟨by rw [HF.out]; rfl, hrest.1.step _⟩
      · have HF : Hid (R = true) := by
          show R = true
          rw [HR.out]
          exact decide_eq_true (List.ext_getElem HL.out fun j h h' => hrest.2 j h h' (by omega))
        go_wp2_with fail
        go_ret
        exact ⟨by rw [HF.out]; rfl, hrest.1⟩
  · have h1 : ((xs.length : Int) != ys.length) = true := by simp; omega
    have HF : Hid (R = false) := by
      show R = false
      rw [HR.out]
      exact decide_eq_false fun e => hl (by rw [e])
    clear hl
    go_enter Try.func78, Try.ntmps78
    go_wp2_with fail
    go_ret
    exact ⟨by rw [HF.out]; rfl, Drawn.refl _⟩
theorem sameS_yes (A B : Option Addr) (xs : List ByteArray) (c d : Nat) (w : World) (ha : Rd Value.string w A xs) (hb : Rd Value.string w B xs) (lx : xs.length ≤ 1000000) :
    Calls Try.prog 78 #[.slice A xs.length c, .slice B xs.length d] w (RetD w (.bool true)) := by
  have h := sameS_any A B xs xs c d w ha hb lx lx
  rwa [decide_eq_true (rfl : xs = xs)] at h
set_option maxRecDepth 100000 in
set_option maxHeartbeats 1000000 in
theorem sameI_any (A B : Option Addr) (xs ys : List Int) (c d : Nat) (w : World) (ha : Rd (Value.int .i64) w A xs) (hb : Rd (Value.int .i64) w B ys) (lx : xs.length ≤ 1000000) (ly : ys.length ≤ 1000000) :
    Calls Try.prog 79 #[.slice A xs.length c, .slice B ys.length d] w (RetD w (.bool (decide (xs = ys)))) := by
  obtain ⟨R, hR⟩ : ∃ R, R = decide (xs = ys) := ⟨_, rfl⟩
  rw [← hR]
  have HR := Lib.hid hR; clear hR
  have HA := Lib.hid ha; clear ha
  have HB := Lib.hid hb; clear hb
  by_cases hl : xs.length = ys.length
  · have h1 : ((xs.length : Int) != ys.length) = false := by simp [hl]
    have HL := Lib.hid hl; clear hl
    go_enter Try.func79, Try.ntmps79
    go_wp2_with fail
    go_loopw [5] (fun i wr => ∃ k : Nat, k ≤ xs.length ∧ i = .int .i64 k ∧ Hid (Drawn w wr ∧ ∀ j (h : j < xs.length) (h' : j < ys.length), j < k → xs[j] = ys[j])) (fun i _ => xs.length - (intOf i).toNat)
    case atStart => exact ⟨0, Nat.zero_le _, rfl, Drawn.refl _, fun j _ _ h => absurd h (by omega)⟩
    case round =>
      obtain ⟨k, hk, rfl, hrest⟩ := hrel
      by_cases hlt : k < xs.length
      · have hlt' : k < ys.length := by have := HL.out; omega
        obtain ⟨b, o, rfl, hc⟩ := (HA.out.below hrest.1.below).at_ hlt
        obtain ⟨b', o', rfl, hc'⟩ := (HB.out.below hrest.1.below).at_ hlt'
        obtain ⟨x, hx⟩ : ∃ x, x = xs[k] := ⟨_, rfl⟩
        obtain ⟨y, hy⟩ : ∃ y, y = ys[k] := ⟨_, rfl⟩
        rw [← hx] at hc
        rw [← hy] at hc'
        have HX := Lib.hid hx; clear hx
        have HY := Lib.hid hy; clear hy
        by_cases hxy : x = y
        · have e1 : (x == y) = true := by simp [hxy]
          have e2 : (x != y) = false := by simp [hxy]
          have HE := Lib.hid hxy; clear hxy
          go_wp2_with fail
          go_quiet (fail)
          go_wp2_with fail
          go_roundw
          case rel =>
            refine ⟨k + 1, by omega, by go_num, hrest.1.step _, fun j h h' hj => ?_⟩
            by_cases e : j < k
            · exact hrest.2 j h h' e
            · obtain rfl : j = k := by omega
              rw [← HX.out, ← HY.out]
              exact HE.out
          case measure => simp [intOf]; omega
        · have e1 : (x == y) = false := by simpa using hxy
          have e2 : (x != y) = true := by simpa using hxy
          have HF : Hid (R = false) := by
            show R = false
            rw [HR.out]
            refine decide_eq_false fun e => hxy ?_
            subst e
            rw [HX.out, HY.out]
          clear hxy
          go_wp2_with fail
          go_quiet (fail)
          go_wp2_with fail
          go_ret
          exact ⟨by rw [HF.out]; rfl, hrest.1.step _⟩
      · have HF : Hid (R = true) := by
          show R = true
          rw [HR.out]
          exact decide_eq_true (List.ext_getElem HL.out fun j h h' => hrest.2 j h h' (by omega))
        go_wp2_with fail
        go_ret
        exact ⟨by rw [HF.out]; rfl, hrest.1⟩
  · have h1 : ((xs.length : Int) != ys.length) = true := by simp; omega
    have HF : Hid (R = false) := by
      show R = false
      rw [HR.out]
      exact decide_eq_false fun e => hl (by rw [e])
    clear hl
    go_enter Try.func79, Try.ntmps79
    go_wp2_with fail
    go_ret
    exact ⟨by rw [HF.out]; rfl, Drawn.refl _⟩
theorem sameI_yes (A B : Option Addr) (xs : List Int) (c d : Nat) (w : World) (ha : Rd (Value.int .i64) w A xs) (hb : Rd (Value.int .i64) w B xs) (lx : xs.length ≤ 1000000) :
    Calls Try.prog 79 #[.slice A xs.length c, .slice B xs.length d] w (RetD w (.bool true)) := by
  have h := sameI_any A B xs xs c d w ha hb lx lx
  rwa [decide_eq_true (rfl : xs = xs)] at h
end Go.Proofs.Ytfngadidlmbfdaa
