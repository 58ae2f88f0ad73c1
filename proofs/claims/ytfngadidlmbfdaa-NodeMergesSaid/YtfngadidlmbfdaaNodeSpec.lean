/-
  What a block of layer 22 is, how much it needs: plain Lean, without the program.
-/
import GoSem.Core.Value
import Derived.Laws.Cover1
namespace Go.Proofs.Ytfngadidlmbfdaa

/-- a <= b on texts, as the walk spells it. -/
def leS (a b : ByteArray) : Bool := Op.bytesLess a.toList b.toList || a.toList == b.toList
/-- The key at place i may stand there. -/
def okAt (ks : List ByteArray) (i : Nat) : Bool := !(decide (200 < (ks.getD i ByteArray.empty).size)) && (decide (i = 0) || !(leS (ks.getD i ByteArray.empty) (ks.getD (i - 1) ByteArray.empty)))
def okKeys (ks : List ByteArray) : Bool := (List.range ks.length).all (okAt ks)
def badVal (s : ByteArray) : Bool := decide (40 < (s.size : Int))
def badKid (n : Int) : Bool := decide (n < 1) || decide (2147483647 < n)
/-- What is a block. -/
def canB (lf : Bool) (ks vs : List ByteArray) (cs : List Int) : Bool :=
  okKeys ks && (if lf then decide (cs.length = 0) && (decide (vs.length = ks.length) && !(vs.any badVal)) else decide (vs.length = 0) && (decide (cs.length = ks.length + 1) && !(cs.any badKid)))
/-- What the key at place i needs. -/
def needAt (lf : Bool) (ks vs : List ByteArray) (i : Nat) : Nat := if lf then 2 + (ks.getD i ByteArray.empty).size + (vs.getD i ByteArray.empty).size else 5 + (ks.getD i ByteArray.empty).size
def needB (lf : Bool) (ks vs : List ByteArray) : Nat → Nat
  | 0 => if lf then 0 else 4
  | n + 1 => needB lf ks vs n + needAt lf ks vs n

theorem okKeys_true {ks : List ByteArray} (h : ∀ j, j < ks.length → okAt ks j = true) : okKeys ks = true :=
  List.all_eq_true.2 fun j hj => h j (List.mem_range.1 hj)
theorem okKeys_false {ks : List ByteArray} {j : Nat} (hj : j < ks.length) (h : okAt ks j = false) : okKeys ks = false := by
  rw [Bool.eq_false_iff]
  intro ha
  have := List.all_eq_true.1 ha j (List.mem_range.2 hj)
  rw [h] at this
  cases this
theorem canB_keys {lf : Bool} {ks vs : List ByteArray} {cs : List Int} (h : okKeys ks = false) : canB lf ks vs cs = false := by simp [canB, h]
theorem okAt_long {ks : List ByteArray} {i : Nat} (h : 200 < (ks.getD i ByteArray.empty).size) : okAt ks i = false := by unfold okAt; rw [decide_eq_true h]; rfl
theorem okAt_first {ks : List ByteArray} (h : ¬ 200 < (ks.getD 0 ByteArray.empty).size) : okAt ks 0 = true := by unfold okAt; rw [decide_eq_false h]; rfl
theorem okAt_next {ks : List ByteArray} {i : Nat} (h : ¬ 200 < (ks.getD (i + 1) ByteArray.empty).size) : okAt ks (i + 1) = !(leS (ks.getD (i + 1) ByteArray.empty) (ks.getD i ByteArray.empty)) := by
  unfold okAt
  rw [decide_eq_false h]
  simp
theorem canB_leaf {ks vs : List ByteArray} {cs : List Int} (h : okKeys ks = true) : canB true ks vs cs = (decide (cs.length = 0) && (decide (vs.length = ks.length) && !(vs.any badVal))) := by simp [canB, h]
theorem canB_branch {ks vs : List ByteArray} {cs : List Int} (h : okKeys ks = true) : canB false ks vs cs = (decide (vs.length = 0) && (decide (cs.length = ks.length + 1) && !(cs.any badKid))) := by simp [canB, h]
theorem needAt_le {lf : Bool} {ks vs : List ByteArray} (hk : ∀ s ∈ ks, s.size ≤ 1000) (hv : ∀ s ∈ vs, s.size ≤ 1000) (i : Nat) : needAt lf ks vs i ≤ 2005 := by
  have h1 : (ks.getD i ByteArray.empty).size ≤ 1000 := by
    rw [List.getD_eq_getElem?_getD]
    cases h : ks[i]? with
    | none => simp
    | some x => exact hk x (List.mem_of_getElem? h)
  have h2 : (vs.getD i ByteArray.empty).size ≤ 1000 := by
    rw [List.getD_eq_getElem?_getD]
    cases h : vs[i]? with
    | none => simp
    | some x => exact hv x (List.mem_of_getElem? h)
  unfold needAt
  split <;> omega
theorem needB_le {lf : Bool} {ks vs : List ByteArray} (hk : ∀ s ∈ ks, s.size ≤ 1000) (hv : ∀ s ∈ vs, s.size ≤ 1000) : ∀ n, needB lf ks vs n ≤ 4 + 2005 * n
  | 0 => by unfold needB; split <;> omega
  | n + 1 => by
    have h1 := needB_le (lf := lf) hk hv n
    have h2 := needAt_le (lf := lf) hk hv n
    unfold needB
    omega
end Go.Proofs.Ytfngadidlmbfdaa
