/-
  A disk's keeps: which of the writes stand fast.
-/
import Derived.Test.YtfngadidlmbfdaaDisk4
namespace Go.Proofs.Ytfngadidlmbfdaa
open Go.RowKit Go.ChangeMaps
set_option linter.unusedVariables false
set_option linter.unusedSimpArgs false
def putF (f : Int → List Int) (i : Int) (b : List Int) : Int → List Int := fun z => if z = i then b else f z
def keepF (p : Nat → Bool) : Nat → List (Int × List Int) → (Int → List Int) → (Int → List Int)
  | _, [], f => f
  | k, x :: r, f => keepF p (k + 1) r (if p k = true then putF f x.1 x.2 else f)
def DS.keeps (S : DS) (p : Nat → Bool) : DS := { S with fast := keepF p 0 S.since S.fast, since := [] }
set_option maxRecDepth 100000 in
theorem flush1_any (i : Int) (w : World) : Calls Try.prog 135 #[.int .i64 i] w fun e w' => e = .returned (.bool true) ∧ w = w' := by
  go_enter Try.func135, Try.ntmps135
  go_wp2_with fail
  go_ret
  exact ⟨rfl, rfl⟩
def keepB (ks : List Bool) (k : Nat) : Bool := ks.getD k false
set_option maxRecDepth 100000 in
theorem crash1_any (k : Nat) (h : Nat) (A : Option Addr) (ks : List Bool) (c : Nat) (w : World) (hb : w.cell? ⟨h, 0, none⟩ = some (.slice A ks.length c)) (hr : Rd Value.bool w A ks) :
    Calls Try.prog 103 #[.int .i64 (k : Int), .pointer (some ⟨h, 0, none⟩)] w fun e w' => e = .returned (.bool (keepB ks k)) ∧ w = w' := by
  obtain ⟨R, hR⟩ : ∃ R, R = keepB ks k := ⟨_, rfl⟩
  rw [← hR]
  have HR := Lib.hid hr; clear hr
  by_cases hk : k < ks.length
  · obtain ⟨b, o, rfl, hc⟩ := HR.out.at_ hk
    have e : R = ks[k] := by rw [hR]; simp [keepB, hk]
    rw [← e] at hc
    clear hR e
    go_enter Try.func103, Try.ntmps103
    go_wp2_with fail
    go_ret
    exact ⟨by first | rfl | (cases R <;> rfl), rfl⟩
  · have e : R = false := by rw [hR]; simp [keepB, List.getElem?_eq_none (Nat.le_of_not_lt hk)]
    subst e
    clear hR
    go_enter Try.func103, Try.ntmps103
    go_wp2_with fail
    go_ret
    exact ⟨rfl, rfl⟩
end Go.Proofs.Ytfngadidlmbfdaa
