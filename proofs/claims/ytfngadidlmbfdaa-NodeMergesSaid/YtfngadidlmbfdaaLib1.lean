/-
  Contracts of Go's slices.IndexFunc, slices.ContainsFunc at []string and []int, over a function value that tells a test and turns nothing.
-/
import Derived.Test.YtfngadidlmbfdaaBase
namespace Go.Proofs.Ytfngadidlmbfdaa
open Go.RowKit

/-- The first place where p holds, or -1. -/
def idxf {α : Type} (p : α → Bool) (xs : List α) : Int := match xs.findIdx? p with | some i => i | none => -1
theorem idxf_hit {α : Type} (p : α → Bool) (xs : List α) (n : Nat) (h : n < xs.length) (hp : p xs[n] = true) (hn : ∀ j (h : j < xs.length), j < n → p xs[j] = false) : idxf p xs = n := by
  unfold idxf
  have : xs.findIdx? p = some n := List.findIdx?_eq_some_iff_getElem.2 ⟨h, hp, fun j hj => by simpa using hn j (by omega) hj⟩
  rw [this]
theorem idxf_miss {α : Type} (p : α → Bool) (xs : List α) (hn : ∀ j (h : j < xs.length), p xs[j] = false) : idxf p xs = -1 := by
  unfold idxf
  have : xs.findIdx? p = none := List.findIdx?_eq_none_iff.2 fun x hx => by
    obtain ⟨j, hj, rfl⟩ := List.getElem_of_mem hx
    simpa using hn j hj
  rw [this]
theorem idxf_any {α : Type} (p : α → Bool) (xs : List α) : decide (0 ≤ idxf p xs) = xs.any p := by
  unfold idxf
  cases h : xs.findIdx? p with
  | none =>
    have := List.findIdx?_eq_none_iff.1 h
    have h2 : xs.any p = false := by
      rw [Bool.eq_false_iff]
      intro ha
      obtain ⟨x, hx, hp⟩ := List.any_eq_true.1 ha
      rw [this x hx] at hp
      cases hp
    rw [h2]; decide
  | some i =>
    obtain ⟨hi, hp, _⟩ := List.findIdx?_eq_some_iff_getElem.1 h
    rw [List.any_eq_true.2 ⟨xs[i], List.getElem_mem hi, hp⟩]
    simp
theorem idxf_ge {α : Type} (p : α → Bool) (xs : List α) : -1 ≤ idxf p xs := by
  unfold idxf; split <;> omega

/-- The function value f is called with a function's own code. -/
def Called (P : Program) (k : Nat) : Prop := ∀ (args : Array Value) (w : World), (callFunc k args).run P w = .ok (.enter k args) w

set_option maxRecDepth 100000 in
set_option maxHeartbeats 400000 in
theorem idxS_any (k : Nat) (p : ByteArray → Bool) (xs : List ByteArray) (hcf : Called Try.prog k)
    (hk : ∀ (s : ByteArray) (w : World), s ∈ xs → Calls Try.prog k #[.string s] w fun e w' => e = .returned (.bool (p s)) ∧ w = w')
    (A : Option Addr) (c : Nat) (w : World) (hr : Rd Value.string w A xs) (hl : xs.length ≤ maxLen) :
    Calls Try.prog 150 #[.slice A xs.length c, .func (.func k) #[] #[]] w fun e w' => e = .returned (.int .i64 (idxf p xs)) ∧ w = w' := by
  unfold maxLen at hl
  unfold Called at hcf
  have HK := Lib.hid hk; clear hk
  have HR := Lib.hid hr; clear hr
  go_enter Try.func150, Try.ntmps150
  go_wp2_with fail
  go_loop [8] (fun i => ∃ n : Nat, n ≤ xs.length ∧ i = .int .i64 n ∧ Hid (∀ j (h : j < xs.length), j < n → p xs[j] = false)) (fun i => xs.length - (intOf i).toNat)
  case atStart => exact ⟨0, Nat.zero_le _, rfl, fun j _ h => absurd h (by omega)⟩
  case round =>
    obtain ⟨n, hn, rfl, HN⟩ := hrel
    by_cases hlt : n < xs.length
    · obtain ⟨b, o, rfl, hc⟩ := HR.out.at_ hlt
      have HM := Lib.hid (List.getElem_mem hlt)
      generalize hx : xs[n] = x at *
      have HX := Lib.hid hx; clear hx
      cases hp : p x with
      | true =>
        have HP := Lib.hid hp; clear hp
        have hfin := idxf_hit p xs n hlt (by rw [HX.out]; exact HP.out) HN.out
        have HF := Lib.hid hfin; clear hfin
        go_wp2_with fail
        refine (HK.out _ _ HM.out).mono ?_
        rintro e w' ⟨rfl, rfl⟩
        rw [HP.out]
        go_wp2_with fail
        go_ret
        exact ⟨by rw [HF.out]; rfl, rfl⟩
      | false =>
        have HP := Lib.hid hp; clear hp
        go_wp2_with fail
        refine (HK.out _ _ HM.out).mono ?_
        rintro e w' ⟨rfl, rfl⟩
        rw [HP.out]
        go_wp2_with fail
        go_round
        case rel =>
          refine ⟨n + 1, by omega, by go_num, fun j hj hjn => ?_⟩
          by_cases hjn' : j < n
          · exact HN.out j hj hjn'
          · obtain rfl : j = n := by omega
            rw [HX.out]; exact HP.out
        case measure => simp [intOf]; omega
    · have hfin := idxf_miss p xs (fun j hj => HN.out j hj (by omega))
      have HF := Lib.hid hfin; clear hfin
      go_wp2_with fail
      go_ret
      exact ⟨by rw [HF.out]; rfl, rfl⟩

set_option maxHeartbeats 400000 in
theorem contS_any (k : Nat) (p : ByteArray → Bool) (xs : List ByteArray) (hcf : Called Try.prog k)
    (hk : ∀ (s : ByteArray) (w : World), s ∈ xs → Calls Try.prog k #[.string s] w fun e w' => e = .returned (.bool (p s)) ∧ w = w')
    (A : Option Addr) (c : Nat) (w : World) (hr : Rd Value.string w A xs) (hl : xs.length ≤ maxLen) :
    Calls Try.prog 125 #[.slice A xs.length c, .func (.func k) #[] #[]] w fun e w' => e = .returned (.bool (xs.any p)) ∧ w = w' := by
  have HK := Lib.hid (idxS_any k p xs hcf hk A c w hr hl)
  have HA := Lib.hid (idxf_any p xs)
  clear hk hcf hr
  go_enter Try.func125, Try.ntmps125
  go_wp2_with fail
  refine HK.out.mono ?_
  rintro e w' ⟨rfl, rfl⟩
  generalize idxf p xs = r at *
  go_wp2_with fail
  go_ret
  exact ⟨by rw [← HA.out]; rfl, rfl⟩
set_option maxRecDepth 100000 in
set_option maxHeartbeats 400000 in
theorem idxI_any (k : Nat) (p : Int → Bool) (xs : List Int) (hcf : Called Try.prog k)
    (hk : ∀ (s : Int) (w : World), s ∈ xs → Calls Try.prog k #[.int .i64 s] w fun e w' => e = .returned (.bool (p s)) ∧ w = w')
    (A : Option Addr) (c : Nat) (w : World) (hr : Rd (Value.int .i64) w A xs) (hl : xs.length ≤ maxLen) :
    Calls Try.prog 151 #[.slice A xs.length c, .func (.func k) #[] #[]] w fun e w' => e = .returned (.int .i64 (idxf p xs)) ∧ w = w' := by
  unfold maxLen at hl
  unfold Called at hcf
  have HK := Lib.hid hk; clear hk
  have HR := Lib.hid hr; clear hr
  go_enter Try.func151, Try.ntmps151
  go_wp2_with fail
  go_loop [8] (fun i => ∃ n : Nat, n ≤ xs.length ∧ i = .int .i64 n ∧ Hid (∀ j (h : j < xs.length), j < n → p xs[j] = false)) (fun i => xs.length - (intOf i).toNat)
  case atStart => exact ⟨0, Nat.zero_le _, rfl, fun j _ h => absurd h (by omega)⟩
  case round =>
    obtain ⟨n, hn, rfl, HN⟩ := hrel
    by_cases hlt : n < xs.length
    · obtain ⟨b, o, rfl, hc⟩ := HR.out.at_ hlt
      have HM := Lib.hid (List.getElem_mem hlt)
      generalize hx : xs[n] = x at *
      have HX := Lib.hid hx; clear hx
      cases hp : p x with
      | true =>
        have HP := Lib.hid hp; clear hp
        have hfin := idxf_hit p xs n hlt (by rw [HX.out]; exact HP.out) HN.out
        have HF := Lib.hid hfin; clear hfin
        go_wp2_with fail
        refine (HK.out _ _ HM.out).mono ?_
        rintro e w' ⟨rfl, rfl⟩
        rw [HP.out]
        go_wp2_with fail
        go_ret
        exact ⟨by rw [HF.out]; rfl, rfl⟩
      | false =>
        have HP := Lib.hid hp; clear hp
        go_wp2_with fail
        refine (HK.out _ _ HM.out).mono ?_
        rintro e w' ⟨rfl, rfl⟩
        rw [HP.out]
        go_wp2_with fail
        go_round
        case rel =>
          refine ⟨n + 1, by omega, by go_num, fun j hj hjn => ?_⟩
          by_cases hjn' : j < n
          · exact HN.out j hj hjn'
          · obtain rfl : j = n := by omega
            rw [HX.out]; exact HP.out
        case measure => simp [intOf]; omega
    · have hfin := idxf_miss p xs (fun j hj => HN.out j hj (by omega))
      have HF := Lib.hid hfin; clear hfin
      go_wp2_with fail
      go_ret
      exact ⟨by rw [HF.out]; rfl, rfl⟩

set_option maxHeartbeats 400000 in
theorem contI_any (k : Nat) (p : Int → Bool) (xs : List Int) (hcf : Called Try.prog k)
    (hk : ∀ (s : Int) (w : World), s ∈ xs → Calls Try.prog k #[.int .i64 s] w fun e w' => e = .returned (.bool (p s)) ∧ w = w')
    (A : Option Addr) (c : Nat) (w : World) (hr : Rd (Value.int .i64) w A xs) (hl : xs.length ≤ maxLen) :
    Calls Try.prog 127 #[.slice A xs.length c, .func (.func k) #[] #[]] w fun e w' => e = .returned (.bool (xs.any p)) ∧ w = w' := by
  have HK := Lib.hid (idxI_any k p xs hcf hk A c w hr hl)
  have HA := Lib.hid (idxf_any p xs)
  clear hk hcf hr
  go_enter Try.func127, Try.ntmps127
  go_wp2_with fail
  refine HK.out.mono ?_
  rintro e w' ⟨rfl, rfl⟩
  generalize idxf p xs = r at *
  go_wp2_with fail
  go_ret
  exact ⟨by rw [← HA.out]; rfl, rfl⟩

end Go.Proofs.Ytfngadidlmbfdaa
