/-
  A disk's writes, gone through from behind.
-/
import Derived.Test.YtfngadidlmbfdaaDisk8
import Derived.RangeFuncFrom
import Derived.RangeFuncNested
import Derived.RangeFuncBound
import Derived.RangeFuncCalls
import Derived.RangeFuncLeaves
import Derived.Shelf.Abstract
import Derived.OwnWalkIn
import Derived.TacticsInMore
import Derived.LoopNIn
import Derived.LoopIn
namespace Go.Proofs.Ytfngadidlmbfdaa
open Go.RowKit Go.ChangeMaps
set_option linter.unusedVariables false
attribute [local go_sem] Oper.semAt_some
set_option linter.unusedSimpArgs false
section
variable {F : Fence} {n : Nat} {P : Program} {ops : Array Oper} {rest : List Oper} {o : Oper} {a : Act} {w : World} {Q : Exit → Act → World → Prop}
theorem wpListIn_value {v : Value} {w' : World} (hgd : o.guard = none) (hnd : ∀ c, o.op ≠ .defer c) (hab : o.about P w a.eval = none) (hr : (execOp a.eval o).run P w = .ok (.value v) w')
    (h : wpListIn F n P ops Q rest (a.put o.dst v) w') : wpListIn F n P ops Q (o :: rest) a w := by
  refine wpListIn_plain hgd fun K hK => ?_
  unfold Oper.wpIn
  refine ⟨(by rw [hab]; intro f hf; cases hf), ?_⟩
  rw [Oper.semAt_plain F _ _ hnd, hr]
  exact hK _ _ h
theorem wpListIn_load_at (hgd : o.guard = none) (ty : TypeId) (x : Operand) (ho : o.op = .load ty x) (ad : Addr) (hx : a.eval x = .pointer (some ad)) (vs : Array Value) {d : TypeDesc} (hu : P.underlying ty = some d)
    (hd : (match d with | .struct _ | .array _ _ => true | _ => false) = true) (hi : (P.info? ty).map (·.size) = some vs.size) (hc : ∀ j v, vs.toList[j]? = some v → w.cell? (ad.add j) = some v)
    (h : wpListIn F n P ops Q rest (a.put o.dst (.agg vs)) w) : wpListIn F n P ops Q (o :: rest) a w :=
  wpListIn_value hgd (by rw [ho]; intro c hc; cases hc) (by simp [Oper.about, ho]) (exec_load_at ty x ho ad hx vs hu hd hi hc) h
end
abbrev WR : Type := Nat × { p : Int × List Int // p.2.length = 512 }
def wrEnc (x : WR) : Array Value := #[.int .i64 (x.1 : Int), .agg (wrCells x.2.1).toArray]
def wrAt (l : List (Int × List Int)) (hl : ∀ p ∈ l, p.2.length = 512) (k : Nat) : WR := if h : k < l.length then (k, ⟨l[k], hl _ (List.getElem_mem h)⟩) else (0, ⟨(0, zeroSec), zeroSec_len⟩)
/-- What has come when k rounds are over. -/
def cameB (l : List (Int × List Int)) (hl : ∀ p ∈ l, p.2.length = 512) (k : Nat) : List WR := (List.range k).map fun j => wrAt l hl (l.length - 1 - j)
theorem cameB_succ (l : List (Int × List Int)) (hl : ∀ p ∈ l, p.2.length = 512) (k : Nat) : cameB l hl (k + 1) = cameB l hl k ++ [wrAt l hl (l.length - 1 - k)] := by simp [cameB, List.range_succ]
theorem cameB_len (l : List (Int × List Int)) (hl : ∀ p ∈ l, p.2.length = 512) (k : Nat) : (cameB l hl k).length = k := by simp [cameB]
set_option maxRecDepth 100000 in
theorem back_any (A : Option Addr) (n c : Nat) (w : World) : Calls Try.prog 134 #[.slice A n c] w fun e w' => e = .returned (.func (.func 152) #[] #[.pointer (some ⟨w.heap.size, 0, none⟩)]) ∧ w' = w.alloc (.cells #[.slice A n c] 130) := by
  go_enter Try.func134, Try.ntmps134
  go_wp2_with fail
  go_ret
  exact ⟨rfl, rfl⟩
set_option maxRecDepth 100000 in
set_option maxHeartbeats 2000000 in
theorem back1_in (n : Nat) (hn1 : 1 ≤ n) (l Bs n₀ : Nat) (A : Option Addr) (cap : Nat) (L : List (Int × List Int)) (hl : ∀ p ∈ L, p.2.length = 512) (hL : L.length ≤ 1000000000) (J Jx : List WR → World → Prop)
    (hY : ∀ pre x W, J pre W → pre.length < L.length → YieldAt Fence.wide (n - 1) Try.prog l (wrEnc x) W fun e W' =>
      (e = .returned (.bool true) ∧ J (pre ++ [x]) W' ∧ Below n₀ W W') ∨ (e = .returned (.bool false) ∧ Jx (pre ++ [x]) W'))
    (W : World) (hBs : W.cell? ⟨Bs, 0, none⟩ = some (.slice A L.length cap)) (hBn : Bs < n₀) (hr : W.ownsRow 0 173 513 (.slice A L.length cap) L.length (L.flatMap wrCells)) (hrb : ∀ k, (Value.slice A L.length cap).ownBlock = some k → k < n₀) (hcap : L.length ≤ cap) (h0 : J [] W) :
    CallsIn Fence.wide n Try.prog 152 #[.func (.yield l) #[] #[], .pointer (some ⟨Bs, 0, none⟩)] W fun e W' => (∃ v, e = .returned v) ∧
      ((∃ ys, ys = cameB L hl L.length ∧ J ys W') ∨ (∃ pre, (∃ k, k ≤ L.length ∧ pre = cameB L hl k) ∧ Jx pre W')) := by
  have HR := Lib.hid hr; clear hr
  have HRB := Lib.hid hrb; clear hrb
  obtain ⟨N, hN⟩ : ∃ N, N = L.length := ⟨_, rfl⟩
  rw [← hN] at hBs HR hL hcap HRB
  have HN := Lib.hid hN; clear hN
  have HY := Lib.hid hY; clear hY
  refine callsIn_of_wp Try.func152 rfl trivial ?_ rfl
  simp only [Try.ntmps152, List.size_toArray, List.length_cons, List.length_nil, Nat.reduceAdd, Nat.reduceSub, Array.replicate_succ, Array.replicate_zero, List.push_toArray, List.append_toArray, List.nil_append, List.cons_append]
  gi_wp2
  gi_loopw [3] (fun i wr => ∃ r : Nat, r ≤ N ∧ i = .int .i64 ((r : Int) - 1) ∧ Hid (J (cameB L hl (N - r)) wr ∧ Below n₀ W wr)) (fun i _ => (intOf i + 1).toNat)
  case atStart => exact ⟨N, Nat.le_refl _, rfl, Lib.hid ⟨by rw [Nat.sub_self]; exact h0, Below.refl _ _⟩⟩
  case round =>
    obtain ⟨r, hr, rfl, HJ⟩ := hrel
    have hbx : wr.cell? ⟨Bs, 0, none⟩ = some (.slice A N cap) := (HJ.out.2.cell (p := ⟨Bs, 0, none⟩) hBn).trans hBs
    cases r with
    | succ j =>
      have hrow := HR.out
      obtain ⟨g, hg⟩ := own_addr hrow (by omega)
      subst hg
      have hgn : g < n₀ := HRB.out g rfl
      have hjL : j < L.length := by rw [← HN.out]; omega
      have hcl : (wrCells L[j]).length = 513 := wrCells_len (hl _ (List.getElem_mem hjL))
      have hL' : L.length = N := HN.out.symm
      have HC : Hid (∀ (a : Nat), a = j * 513 → ∀ (i : Nat) (v : Value), (wrCells L[j])[i]? = some v → wr.cell? ((⟨g, a, none⟩ : Addr).add i) = some v) := by
        intro a ha i v hv
        have h1 := row_at hl hrow j hjL a ha i v hv
        have e : ((⟨g, a, none⟩ : Addr).add i).block = g := by unfold Addr.add; split <;> rfl
        rw [← h1]
        exact HJ.out.2.cell (by rw [e]; exact hgn)
      have HX := Lib.hid (HY.out _ (wrAt L hl (L.length - 1 - (N - (j + 1)))) wr HJ.out.1 (by rw [cameB_len]; omega))
      have hxe : wrAt L hl (L.length - 1 - (N - (j + 1))) = (j, ⟨L[j], hl _ (List.getElem_mem hjL)⟩) := by
        rw [show L.length - 1 - (N - (j + 1)) = j by omega]
        unfold wrAt
        rw [dif_pos hjL]
      have HXE : Hid (cameB L hl (N - (j + 1)) ++ [wrAt L hl (L.length - 1 - (N - (j + 1)))] = cameB L hl (N - j)) := by
        show _ = _
        rw [← cameB_succ]
        congr 1
        omega
      obtain ⟨Cs, hCs⟩ : ∃ Cs, Cs = (wrCells L[j]).toArray := ⟨_, rfl⟩
      have hCz : Cs.size = 513 := by rw [hCs, List.size_toArray]; exact hcl
      have HI : Hid ((Try.prog.info? 173).map (·.size) = some Cs.size) := by show _ = some _; rw [hCz]; exact sz_write
      obtain ⟨fn, tmps, assign, body, hy, hR⟩ := HX.out
      have henc : wrEnc (wrAt L hl (L.length - 1 - (N - (j + 1)))) = #[.int .i64 (j : Int), .agg Cs] := by rw [hxe, hCs]; rfl
      rw [henc] at hy
      have HRR := Lib.hid hR; clear hR
      have HCs := Lib.hid hCs; clear hCs
      clear hcl hCz hxe henc hrow HX
      have hlt : decide ((0 : Int) ≤ (j : Int)) = true := by simp
      have hjn : j < N := by omega
      have ej : ((j + 1 : Nat) : Int) - 1 = (j : Int) := by omega
      rw [ej]
      have hN9 : (N : Int) ≤ 1000000000 := by omega
      clear ej hL'
      gi_wp2_with (refine wpListIn_load_at rfl 173 (.tmp 15) rfl _ rfl Cs Try.underlying173 rfl HI.out (by rw [HCs.out]; exact HC.out _ (by omega)) ?_)
      refine HRR.out.mono ?_
      rintro e W3 (⟨rfl, hJ3, hk3⟩ | ⟨rfl, hJx3⟩)
      · have HJ3 := Lib.hid hJ3; clear hJ3
        have HK3 := Lib.hid hk3; clear hk3
        gi_wp2
        go_roundw
        case rel => exact ⟨j, by omega, rfl, Lib.hid ⟨by rw [← HXE.out]; exact HJ3.out, HJ.out.2.trans HK3.out⟩⟩
        case measure => simp [intOf]
      · have HJx3 := Lib.hid hJx3; clear hJx3
        gi_wp2
        refine bodyPost_ret (results_none rfl _ _ _) rfl ?_
        exact ⟨⟨_, rfl⟩, .inr ⟨_, ⟨N - j, by rw [← HN.out]; omega, HXE.out⟩, HJx3.out⟩⟩
    | zero =>
      gi_wp2
      go_end0
      exact ⟨⟨_, rfl⟩, .inl ⟨_, rfl, by have := HJ.out.1; rw [Nat.sub_zero] at this; rw [← HN.out]; exact this⟩⟩
theorem wpListIn_skip {F : Fence} {n : Nat} {P : Program} {ops : Array Oper} {rest : List Oper} {o : Oper} {a : Act} {w w' : World} {Q : Exit → Act → World → Prop} (hgd : o.guard = none) (hnd : ∀ c, o.op ≠ .defer c) (hab : o.about P w a.eval = none) (hr : (execOp a.eval o).run P w = .ok .skip w')
    (h : wpListIn F n P ops Q rest (a.put o.dst undef) w') : wpListIn F n P ops Q (o :: rest) a w := by
  refine wpListIn_plain hgd fun K hK => ?_
  unfold Oper.wpIn
  refine ⟨(by rw [hab]; intro f hf; cases hf), ?_⟩
  rw [Oper.semAt_plain F _ _ hnd, hr]
  exact hK _ _ h
theorem wpListIn_store_row {F : Fence} {n : Nat} {P : Program} {ops : Array Oper} {rest : List Oper} {o : Oper} {a : Act} {w : World} {Q : Exit → Act → World → Prop} (hgd : o.guard = none) (ty : TypeId) (x y : Operand) (ho : o.op = .store ty x y)
    (g : Nat) (cells : Array Value) (hx : a.eval x = .pointer (some ⟨g, 0, none⟩)) (hy : a.eval y = .agg cells) (t : TypeId) (old : Array Value) (hg : w.heap[g]? = some (.cells old t (0, 0))) (hi : (P.info? ty).map (·.size) = some cells.size)
    (hold : old.size = cells.size) (h1 : cells.all (·.oneCell') = true) (h : wpListIn F n P ops Q rest (a.put o.dst undef) (w.setRow g cells)) : wpListIn F n P ops Q (o :: rest) a w := by
  refine wpListIn_skip hgd (by rw [ho]; intro c hc; cases hc) (by simp [Oper.about, ho]) ?_ h
  simp only [execOp, ho, hx, hy, Instr.storeAt, Instr.sureAddr, Sem.run_bind, Sem.run_pure, Result.andThen_ok, run_storeVar_row w g t ty old cells hg hi hold h1]
theorem back_stops (n : Nat) (hn1 : 1 ≤ n) (Bs n₀ : Nat) (A : Option Addr) (cap : Nat) (L : List (Int × List Int)) (hl : ∀ p ∈ L, p.2.length = 512) (hL : L.length ≤ 1000000000)
    (w : World) (hn₀ : n₀ ≤ w.heap.size) (hBs : w.cell? ⟨Bs, 0, none⟩ = some (.slice A L.length cap)) (hBn : Bs < n₀) (hr : w.ownsRow 0 173 513 (.slice A L.length cap) L.length (L.flatMap wrCells)) (hrb : ∀ k, (Value.slice A L.length cap).ownBlock = some k → k < n₀) (hcap : L.length ≤ cap) :
    SeqStopsK Fence.wide n Try.prog 152 #[.pointer (some ⟨Bs, 0, none⟩)] wrEnc (Below n₀) (fun ys => ys = cameB L hl L.length) (fun pre => ∃ k, k ≤ L.length ∧ pre = cameB L hl k) L.length w := fun l J Jx W hW _ _ hY h0 =>
  back1_in n hn1 l Bs n₀ A cap L hl hL J Jx hY W ((hW.cell (p := ⟨Bs, 0, none⟩) (Nat.lt_of_lt_of_le hBn hn₀)).trans hBs) hBn (own_below hr hW) hrb hcap h0
/-- The last of the writes of a sector. -/
def lastB (l : List (Int × List Int)) (i : Int) (d : List Int) : List Int := l.foldl (fun b p => if p.1 = i then p.2 else b) d
theorem lastB_none (i : Int) : ∀ (l : List (Int × List Int)) (d : List Int), (∀ p ∈ l, p.1 ≠ i) → lastB l i d = d
  | [], _, _ => rfl
  | p :: r, d, h => by
    unfold lastB
    rw [List.foldl_cons, if_neg (h p (by simp))]
    exact lastB_none i r d (fun q hq => h q (by simp [hq]))
theorem lastB_at (l : List (Int × List Int)) (i : Int) (d : List Int) (k : Nat) (hk : k < l.length) (h1 : l[k].1 = i) (h2 : ∀ j (hj : j < l.length), k < j → l[j].1 ≠ i) : lastB l i d = l[k].2 := by
  have e : l = l.take k ++ (l[k] :: l.drop (k + 1)) := by rw [← List.drop_eq_getElem_cons hk, List.take_append_drop]
  have e2 : lastB l i d = lastB (l.drop (k + 1)) i l[k].2 := by
    unfold lastB
    rw [congrArg (fun z => List.foldl (fun b p => if p.1 = i then p.2 else b) d z) e, List.foldl_append, List.foldl_cons, if_pos h1]
  rw [e2]
  apply lastB_none
  intro p hp
  obtain ⟨j, hj, rfl⟩ := List.getElem_of_mem hp
  rw [List.getElem_drop]
  exact h2 _ (by rw [List.length_drop] at hj; omega) (by omega)
theorem wrAt_at (l : List (Int × List Int)) (hl : ∀ p ∈ l, p.2.length = 512) (k : Nat) (hk : k < l.length) : wrAt l hl k = (k, ⟨l[k], hl _ (List.getElem_mem hk)⟩) := dif_pos hk
theorem lastB_done (l : List (Int × List Int)) (hl : ∀ p ∈ l, p.2.length = 512) (i : Int) (d : List Int) (h : ∀ x ∈ cameB l hl l.length, x.2.1.1 ≠ i) : lastB l i d = d := by
  apply lastB_none
  intro p hp
  obtain ⟨j, hj, rfl⟩ := List.getElem_of_mem hp
  have := h (wrAt l hl j) (List.mem_map.2 ⟨l.length - 1 - j, List.mem_range.2 (by omega), by congr 1; omega⟩)
  rw [wrAt_at l hl j hj] at this
  exact this
theorem lastB_stop (l : List (Int × List Int)) (hl : ∀ p ∈ l, p.2.length = 512) (i : Int) (d : List Int) (k : Nat) (hk : k ≤ l.length) (p0 : List WR) (x : WR) (he : cameB l hl k = p0 ++ [x]) (h : ∀ y ∈ p0, y.2.1.1 ≠ i) (hx : x.2.1.1 = i) : lastB l i d = x.2.1.2 := by
  cases k with
  | zero => exact absurd (congrArg List.length he) (by simp [cameB])
  | succ k =>
    rw [cameB_succ] at he
    obtain ⟨rfl, h2⟩ := List.append_inj' he rfl
    obtain rfl : wrAt l hl (l.length - 1 - k) = x := by simpa using h2
    have hj : l.length - 1 - k < l.length := by omega
    rw [wrAt_at l hl _ hj] at hx ⊢
    refine lastB_at l i d _ hj hx (fun j hj' hlt => ?_)
    have := h (wrAt l hl j) (List.mem_map.2 ⟨l.length - 1 - j, List.mem_range.2 (by omega), by congr 1; omega⟩)
    rw [wrAt_at l hl j hj'] at this
    exact this
end Go.Proofs.Ytfngadidlmbfdaa
