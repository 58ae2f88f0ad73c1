/-
  Contract of node.put, node.Put at a leaf that has room; that the law's own probe answers yes.
-/
import Derived.Test.YtfngadidlmbfdaaNode4
namespace Go.Proofs.Ytfngadidlmbfdaa
open Go.RowKit

/-- A text's bytes, ahead of them how many. -/
def textL (s : ByteArray) : List Value := [Value.int .u8 s.size] ++ (strBytes s).map (Value.int .u8)
theorem textL_length (s : ByteArray) : (textL s).length = 1 + s.size := by simp [textL, strBytes_length]; omega
/-- A leaf's page, ahead of the noughts at its end: its first n keys. -/
def leafL (ks vs : List ByteArray) (m : Nat) : Nat → List Value
  | 0 => [Value.int .u8 1, Value.int .u8 ((m : Int) / 256), Value.int .u8 m]
  | n + 1 => leafL ks vs m n ++ (textL (ks.getD n ByteArray.empty) ++ textL (vs.getD n ByteArray.empty))
theorem leafL_length (ks vs : List ByteArray) (m : Nat) : ∀ n, (leafL ks vs m n).length = 3 + needB true ks vs n
  | 0 => rfl
  | n + 1 => by
    simp only [leafL, List.length_append, leafL_length ks vs m n, textL_length, needB, needAt]
    simp
    omega
theorem needB_mono (lf : Bool) (ks vs : List ByteArray) (n : Nat) : ∀ d, needB lf ks vs n ≤ needB lf ks vs (n + d)
  | 0 => Nat.le_refl _
  | d + 1 => by
    have := needB_mono lf ks vs n d
    rw [← Nat.add_assoc]
    simp only [needB]
    omega
theorem needB_len (ks vs : List ByteArray) : ∀ n, 2 * n ≤ needB true ks vs n
  | 0 => by simp
  | n + 1 => by have := needB_len ks vs n; simp only [needB, needAt]; simp; omega
theorem okKeys_sizes {ks : List ByteArray} (h : okKeys ks = true) : ∀ s ∈ ks, s.size ≤ 200 := by
  intro s hs
  obtain ⟨j, hj, rfl⟩ := List.getElem_of_mem hs
  have := List.all_eq_true.1 h j (List.mem_range.2 hj)
  unfold okAt at this
  simp [hj] at this
  omega
theorem canB_leaf_parts {ks vs : List ByteArray} {cs : List Int} (h : canB true ks vs cs = true) : (∀ s ∈ ks, s.size ≤ 200) ∧ (∀ s ∈ vs, s.size ≤ 40) ∧ vs.length = ks.length := by
  simp only [canB, Bool.and_eq_true, if_true, decide_eq_true_eq, Bool.not_eq_true'] at h
  refine ⟨okKeys_sizes h.1, fun s hs => ?_, h.2.2.1⟩
  have := List.any_eq_false.1 h.2.2.2 s hs
  unfold badVal at this
  simp at this
  omega
theorem box_cells {w w1 : World} {c0 c1 c2 c3 : Value} {t : Nat} {B : Nat} (hb : Below B (w.alloc (.cells #[c0, c1, c2, c3] t)) w1) (hB : w.heap.size < B) :
    w1.cell? ⟨w.heap.size, 0, none⟩ = some c0 ∧ w1.cell? ⟨w.heap.size, 1, none⟩ = some c1 ∧ w1.cell? ⟨w.heap.size, 2, none⟩ = some c2 ∧ w1.cell? ⟨w.heap.size, 3, none⟩ = some c3 := by
  have h : ∀ i, w1.cell? ⟨w.heap.size, i, none⟩ = (#[c0, c1, c2, c3] : Array Value)[i]? := fun i => by
    rw [hb.cell (p := ⟨w.heap.size, i, none⟩) hB, cell_of_row _ w.heap.size i _ t (0, 0) (heap_alloc_new w _)]
  exact ⟨h 0, h 1, h 2, h 3⟩

/-- What node.put hands back of a leaf with room. -/
def RetPage (w : World) (cs : List Value) (en : Ending) (w' : World) : Prop := ∃ v, en = .returned (.tuple #[v, .int .i64 0]) ∧ w'.ownsRow w.heap.size 5 1 v 512 cs ∧ Below w.heap.size w w'

set_option maxRecDepth 100000 in
set_option maxHeartbeats 2000000 in
theorem put_leaf (K V C : Option Addr) (ks vs : List ByteArray) (cs : List Int) (kc vc cc : Nat) (w : World)
    (hk : Rd Value.string w K ks) (hv : Rd Value.string w V vs) (hc : Rd (Value.int .i64) w C cs) (hkc : ks.length ≤ kc)
    (hcan : canB true ks vs cs = true) (hneed : needB true ks vs ks.length ≤ 509) :
    Calls Try.prog 124 #[.agg #[.bool true, .slice K ks.length kc, .slice V vs.length vc, .slice C cs.length cc]] w
      (RetPage w (leafL ks vs ks.length ks.length ++ List.replicate (512 - (3 + needB true ks vs ks.length)) (.int .u8 0))) := by
  obtain ⟨sk, sv, hvl⟩ := canB_leaf_parts hcan
  have hcl : cs.length = 0 := by
    simp only [canB, Bool.and_eq_true, if_true, decide_eq_true_eq] at hcan
    exact hcan.2.1
  have hlen := needB_len ks vs ks.length
  have hl3 := leafL_length ks vs ks.length ks.length
  obtain ⟨L, hL⟩ : ∃ L, L = leafL ks vs ks.length ks.length ++ List.replicate (512 - (3 + needB true ks vs ks.length)) (.int .u8 0) := ⟨_, rfl⟩
  rw [← hL]
  have HL := Lib.hid hL; clear hL
  obtain ⟨N, hN⟩ : ∃ N, N = needB true ks vs ks.length := ⟨_, rfl⟩
  rw [← hN] at hneed hlen
  have H1 := Lib.hid (can_any true K V C ks vs cs kc vc cc _ (hk.below (below_box w (.cells #[.bool true, .slice K ks.length kc, .slice V vs.length vc, .slice C cs.length cc] 25))) (hv.below (below_box w _)) (hc.below (below_box w _)) (by omega) (by omega) (by omega))
  rw [hcan] at H1
  have HK := Lib.hid hk; clear hk
  have HV := Lib.hid hv; clear hv
  have HC := Lib.hid hc; clear hc
  have HSK := Lib.hid sk; clear sk
  have HSV := Lib.hid sv; clear sv
  have HVL := Lib.hid hvl; clear hvl
  have HNN := Lib.hid hN; clear hN
  clear hcan hcl hl3
  go_enter Try.func124, Try.ntmps124
  go_wp2_with fail
  refine H1.out.mono ?_
  rintro e w1 ⟨rfl, hb1⟩
  obtain ⟨c0, c1, c2, c3⟩ := box_cells hb1 (by simp)
  have HB1 := Lib.hid hb1; clear hb1
  go_wp2_with fail
  refine (need_any true K V C ks vs cs kc vc cc ks.length _ ((HK.out.below (below_box w _)).below HB1.out) ((HV.out.below (below_box w _)).below HB1.out) hkc (Nat.le_refl _) (fun _ => by rw [HVL.out]; exact Nat.le_refl _) (by omega) (fun s hs => by have := HSK.out s hs; omega) (fun s hs => by have := HSV.out s hs; omega)).mono ?_
  rintro e w2 ⟨rfl, hb2⟩
  rw [← HNN.out]
  have HB2 := Lib.hid (Below.trans HB1.out (hb2.mono HB1.out.size)); clear hb2
  clear HB1 c0 c1 c2 c3
  obtain ⟨c0, c1, c2, c3⟩ := box_cells HB2.out (by simp)
  have hz : w.heap.size < w2.heap.size := by have := HB2.out.size; simp at this; omega
  go_wp2_with fail
  go_loopw [5, 41] (fun v i wr => ∃ n : Nat, n ≤ ks.length ∧ i = .int .i64 n ∧ Hid (wr.ownsRow (w.heap.size + 1) 5 1 v (3 + needB true ks vs n) (leafL ks vs ks.length n) ∧ Below (w.heap.size + 1) (w.alloc (.cells #[.bool true, .slice K ks.length kc, .slice V vs.length vc, .slice C cs.length cc] 25)) wr)) (fun _ i _ => ks.length - (intOf i).toNat)
  case atStart =>
    refine ⟨0, Nat.zero_le _, rfl, ?_, ?_⟩
    · exact own_full w2 _ 5 1 3 [Value.int .u8 1, Value.int .u8 ((ks.length : Int) / 256), Value.int .u8 ks.length] (by omega) rfl (by simp [maxLen])
    · exact (HB2.out.mono (by simp)).alloc (by omega) _
  case round =>
    obtain ⟨n, hn, rfl, hown, hb⟩ := hrel
    have HO := Lib.hid hown; clear hown
    have HB := Lib.hid hb; clear hb
    have hz' : w.heap.size < wr.heap.size := by have := HB.out.size; simp at this; omega
    clear hz c0 c1 c2 c3
    obtain ⟨c0, c1, c2, c3⟩ := box_cells HB.out (by omega)
    by_cases hlt : n < ks.length
    · have hlv : n < vs.length := by rw [HVL.out]; exact hlt
      have HE := Lib.hid (needB_succ_leaf hlt hlv)
      have HM := Lib.hid (needB_mono true ks vs (n + 1) (ks.length - (n + 1)))
      have hbd : needB true ks vs n + (2 + ks[n].size + vs[n].size) ≤ 509 := by
        have h1 := HM.out
        rw [show n + 1 + (ks.length - (n + 1)) = ks.length by omega, ← HNN.out, HE.out] at h1
        omega
      have hsx := HSK.out ks[n] (List.getElem_mem hlt)
      have hsy := HSV.out vs[n] (List.getElem_mem hlv)
      have HX := Lib.hid (getD_of_lt (d := ByteArray.empty) hlt)
      have HY := Lib.hid (getD_of_lt (d := ByteArray.empty) hlv)
      obtain ⟨b, o, rfl, hc⟩ := ((HK.out.below (below_box w (.cells #[.bool true, .slice K ks.length kc, .slice V vs.length vc, .slice C cs.length cc] 25))).below (HB.out.mono (by simp))).at_ hlt
      obtain ⟨b', o', rfl, HC'⟩ := (HV.out.below (below_box w (.cells #[.bool true, .slice (some ⟨b, o, none⟩) ks.length kc, .slice V vs.length vc, .slice C cs.length cc] 25))).at_ hlv
      have HCC := Lib.hid HC'; clear HC'
      generalize ks[n] = x at *
      generalize vs[n] = y at *
      go_wp2_with fail
      refine (ntext_any (w.heap.size + 1) u5 _ _ x _ HO.out (by omega) (by omega) hsx).mono ?_
      rintro e w3 ⟨v1, rfl, hown1, hg1, hob1⟩
      have HO1 := Lib.hid hown1; clear hown1
      have HB3 := Lib.hid (HB.out.grown hg1 (by omega) (fun k hk => (own_base HO.out k hk).1)); clear hg1 hob1
      have hz3 : w.heap.size < w3.heap.size := by have := HB3.out.size; simp at this; omega
      clear hz' c0 c1 c2 c3 hc
      obtain ⟨c0, c1, c2, c3⟩ := box_cells HB3.out (by omega)
      have hc := cell_kept (HB3.out.mono (by simp)) HCC.out
      go_wp2_with fail
      refine (ntext_any (w.heap.size + 1) v1 _ _ y _ HO1.out (by omega) (by omega) (by omega)).mono ?_
      rintro e w4 ⟨v2, rfl, hown2, hg2, hob2⟩
      have HO2 := Lib.hid hown2; clear hown2
      have HB4 := Lib.hid (HB3.out.grown hg2 (by omega) (fun k hk => (own_base HO1.out k hk).1)); clear hg2 hob2
      go_wp2_with fail
      go_roundw
      case rel =>
        refine ⟨n + 1, by omega, by go_num, ?_, HB4.out⟩
        have h := HO2.out
        rw [HE.out]
        simp only [leafL, textL]
        rw [HX.out, HY.out]
        simp only [List.append_assoc] at h ⊢
        rw [show 3 + (needB true ks vs n + (2 + x.size + y.size)) = 3 + needB true ks vs n + 1 + x.size + 1 + y.size by omega]
        exact h
      case measure => simp [intOf]; omega
    · obtain rfl : n = ks.length := by omega
      obtain ⟨A, c, rfl, hc1, hc2⟩ := own_form HO.out
      have HOO : Hid (wr.ownsRow (w.heap.size + 1) 5 1 (.slice A (3 + N) c) (3 + N) (leafL ks vs ks.length ks.length)) := by
        show wr.ownsRow (w.heap.size + 1) 5 1 (.slice A (3 + N) c) (3 + N) (leafL ks vs ks.length ks.length)
        rw [HNN.out]
        exact HO.out
      rw [← HNN.out]
      clear hc1 hc2
      go_wp2_with (at_builtin; refine wpList_apprun _ rfl (.tmp 67) (.tmp 70) _ _ rfl _ _ rfl (show _ = Value.int .i64 ((512 - (3 + N) : Nat) : Int) from ?_) _ (run_app_zeros wr (.int .u8 0) Try.underlying33 Try.underlying3 inf_bytes rfl rfl HOO.out (512 - (3 + N)) (by omega) (by omega) (by omega)) ?_)
      · show Value.int IntKind.i64 (512 - (3 + (N : Int))) = _
        congr 1
        omega
      · intro v' w' h1 h2 h3
        have HF := Lib.hid (And.intro h1 (HB.out.grown h2 (by omega) (fun k hk => (own_base HOO.out k hk).1))); clear h1 h2 h3
        go_wp2_with fail
        go_ret2
        refine ⟨v', rfl, ?_, ?_⟩
        · have h := HF.out.1
          rw [show 3 + N + (512 - (3 + N)) = 512 by omega] at h
          rw [HL.out, ← HNN.out]
          exact own_le h (by omega)
        · exact (below_box w _).trans (HF.out.2.mono (by omega))

set_option maxRecDepth 100000 in
set_option maxHeartbeats 1000000 in
theorem Put_leaf (K V C : Option Addr) (ks vs : List ByteArray) (cs : List Int) (kc vc cc : Nat) (w : World)
    (hk : Rd Value.string w K ks) (hv : Rd Value.string w V vs) (hc : Rd (Value.int .i64) w C cs) (hkc : ks.length ≤ kc)
    (hcan : canB true ks vs cs = true) (hneed : needB true ks vs ks.length ≤ 509) :
    Calls Try.prog 71 #[.agg #[.bool true, .slice K ks.length kc, .slice V vs.length vc, .slice C cs.length cc]] w
      (RetPage w (leafL ks vs ks.length ks.length ++ List.replicate (512 - (3 + needB true ks vs ks.length)) (.int .u8 0))) := by
  obtain ⟨L, hL⟩ : ∃ L, L = leafL ks vs ks.length ks.length ++ List.replicate (512 - (3 + needB true ks vs ks.length)) (.int .u8 0) := ⟨_, rfl⟩
  have H1 := Lib.hid (put_leaf K V C ks vs cs kc vc cc _ (hk.below (below_box w (.cells #[.bool true, .slice K ks.length kc, .slice V vs.length vc, .slice C cs.length cc] 25))) (hv.below (below_box w _)) (hc.below (below_box w _)) hkc hcan hneed)
  rw [← hL] at H1 ⊢
  clear hL hcan hneed hk hv hc
  go_enter Try.func71, Try.ntmps71
  go_wp2_with fail
  refine H1.out.mono ?_
  rintro e w1 ⟨v, rfl, hown, hb⟩
  have H := Lib.hid (And.intro hown hb); clear hown hb
  go_wp2_with fail
  go_ret2
  exact ⟨v, rfl, own_le H.out.1 (by simp), (below_box w _).trans (H.out.2.mono (by simp))⟩

/-- The bytes that a row of whole numbers is, as a text. -/
def probeL : List Int := [1, 0, 1, 1, 97, 1, 98]
set_option maxRecDepth 100000 in
set_option maxHeartbeats 1000000 in
theorem lives22_any (w : World) : Calls Try.prog 17 #[] w (RetV w (.bool true)) := by
  have HW : Hid (Below w.heap.size w ((w.alloc (.cells #[.string ⟨#[97]⟩] 9)).alloc (.cells #[.string ⟨#[98]⟩] 9))) := ((Below.refl _ _).alloc (Nat.le_refl _) _).alloc (by simp) _
  have h1 : Rd Value.string ((w.alloc (.cells #[.string ⟨#[97]⟩] 9)).alloc (.cells #[.string ⟨#[98]⟩] 9)) (some ⟨w.heap.size, 0, none⟩) [⟨#[97]⟩] :=
    RdC.rd (n := 1) ((rdC_new w 1 9 1 [.string ⟨#[97]⟩] rfl).below (below_box _ _))
  have h2 : Rd Value.string ((w.alloc (.cells #[.string ⟨#[97]⟩] 9)).alloc (.cells #[.string ⟨#[98]⟩] 9)) (some ⟨w.heap.size + 1, 0, none⟩) [⟨#[98]⟩] :=
    RdC.rd (n := 1) (by have := rdC_new (w.alloc (.cells #[.string ⟨#[97]⟩] 9)) 1 9 1 [.string ⟨#[98]⟩] rfl; simpa using this)
  have H1 := Lib.hid (Put_leaf _ _ none _ _ [] 1 1 0 _ h1 h2 Rd.nil (Nat.le_refl _) (by decide +kernel) (by decide +kernel)); clear h1 h2
  go_enter Try.func17, Try.ntmps17
  go_wp2_with fail
  refine H1.out.mono ?_
  rintro e w1 ⟨v, rfl, hown, hb⟩
  obtain ⟨A, c, rfl, hc1, hc2⟩ := own_form hown
  have hl := RdC.rd (enc := Value.int .u8) (xs := probeL) ((own_rdC hown).take (m := 7) (by omega))
  have hconv := conv_rd w1 (c := c) hl (n := 7) rfl
  rw [show strOfNums probeL = ⟨#[1, 0, 1, 1, 97, 1, 98]⟩ from rfl] at hconv
  have HB := Lib.hid (below_then HW.out (Nat.le_refl _) hb); clear hb hown hl
  go_wp2_with fail
  go_ret
  exact ⟨rfl, HB.out⟩
end Go.Proofs.Ytfngadidlmbfdaa
