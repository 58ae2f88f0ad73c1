/-
  One call of both disks: a read; and any call.
-/
import Derived.Test.YtfngadidlmbfdaaDA3
namespace Go.Proofs.Ytfngadidlmbfdaa
open Go.RowKit
set_option linter.unusedVariables false
set_option linter.unusedSimpArgs false
/-- A row of the call's own, laid open. -/
theorem own_open {w : World} {B e n : Nat} {v : Value} {cs : List Value} (h : w.ownsRow B e 1 v n cs) (hn : 0 < n) : ∃ g c, v = .slice (some ⟨g, 0, none⟩) n c ∧ B ≤ g ∧ n ≤ c ∧ c ≤ maxLen ∧ (∃ cur, w.heap[g]? = some (.cells cur e (0, 0))) ∧ ∀ j (hj : j < cs.length), w.cell? ⟨g, j, none⟩ = some cs[j] := by
  rcases h.2 with ⟨_, h2⟩ | ⟨g, cap, cur, rfl, h1, h2, h3, h4, _, h6⟩
  · omega
  · refine ⟨g, cap, rfl, h1, h3, h4, ⟨_, h2⟩, fun j hj => ?_⟩
    have hl := h.1
    rw [cell_of_row w g j _ _ _ h2]
    have hjc : j < cur.size := by
      have : (cur.toList.take (n * 1)).length = cs.length := by rw [h6]
      simp at this; omega
    subst h6
    rw [List.getElem_take]
    simp [hjc]
set_option maxRecDepth 100000 in
set_option maxHeartbeats 4000000 in
theorem does_read {w : World} {F G : Nat → Prop} {q r B : Nat} {S : DS} {R : RS} (h : Both w F G q r S R B) (hB : B ≤ 1000000) (a : ActD) (ha : ActIn w a) (ho : ActOff (fun k => F k ∨ G k) a) (hk : a.kind = 1) : Calls Try.prog 25 #[.pointer (some ⟨q, 0, none⟩), .pointer (some ⟨r, 0, none⟩), .agg a.cells.toArray] w (RetBoth w F G q r B (.bool true)) := by
  have HI := Lib.hid (DoesIn.mk' h a); have HH := Lib.hid h; have HOFF := Lib.hid (HI.out.off h); have HA := Lib.hid ha; have HO := Lib.hid ho; obtain ⟨RE, hRE⟩ : ∃ RE, RE = RetBoth w F G q r B (.bool true) := ⟨_, rfl⟩; rw [← hRE]; have HRE := Lib.hid hRE; clear hRE h ha ho; obtain ⟨As, hAs⟩ : ∃ As, As = a.cells.toArray := ⟨_, rfl⟩; have HAs := Lib.hid hAs; rw [← hAs] at HI ⊢; have HBOX := Lib.hid HI.out.box; have HBC := Lib.hid (fun (W : World) (hk : W.heap[w.heap.size]? = (w.alloc (.cells As 46)).heap[w.heap.size]?) => box_cells (a := a) (hk.trans HBOX.out)); obtain ⟨d0, d1, d2, d3⟩ := HBC.out _ rfl; obtain ⟨kd, hkd⟩ : ∃ kd, kd = a.kind := ⟨_, rfl⟩; rw [← hkd] at d0 hk; clear hkd hAs
  subst hk
  obtain ⟨at_, hat⟩ : ∃ z, z = a.at_ := ⟨_, rfl⟩
  rw [← hat] at d1
  have HBC : Hid (∀ W : World, W.heap[w.heap.size]? = (w.alloc (.cells As 46)).heap[w.heap.size]? → W.cell? ⟨w.heap.size, 1, none⟩ = some (.int .i64 at_)) := fun W h => by rw [hat]; exact (HBC.out W h).2.1
  clear hat d2 d3
  have HRL : Hid (-1000000000 < R.left) := by show _ < _; have := HH.out.left; omega
  have hrd := disk_read HI.out.both.disk at_
  obtain ⟨E, hE⟩ : ∃ E, E = S.readE at_ := ⟨_, rfl⟩
  have HE := Lib.hid hE
  have HE2 : Hid (E = R.readE at_) := by show _ = _; rw [hE]; exact (HH.out.rel.read at_).1
  have HX : Hid (E = 0 → S.readB at_ = R.readB at_) := fun h => (HH.out.rel.read at_).2 (by rw [← hE]; exact h)
  clear hE
  have HRD := Lib.hid hrd; clear hrd
  go_enter Try.func25, Try.ntmps25
  go_wp2_with fail
  refine HRD.out.mono ?_
  rintro e w1 ⟨v, F1, rfl, hd1, hf1, hv0, hv1⟩
  have HD1 := Lib.hid hd1
  have HF1 := Lib.hid hf1
  rw [← HE.out] at hv0 hv1 ⊢
  have HV0 := Lib.hid hv0
  have HV1 := Lib.hid hv1
  have HR1 := Lib.hid (HI.out.both.refKept hf1)
  have hrr := ref_read HR1.out at_ HRL.out
  have HRR := Lib.hid hrr
  clear d0 d1
  have d1 := HBC.out w1 (hf1.block _ (by simp) HOFF.out.1)
  clear hd1 hf1 hv0 hv1 hrr HRD
  obtain ⟨KK, hKK⟩ : ∃ KK, KK = HBC := ⟨_, rfl⟩
  clear hKK KK
  by_cases h0 : E = 0
  · obtain ⟨ho1, hof⟩ := HV1.out h0
    have HO1 := Lib.hid ho1
    have HOF := Lib.hid hof
    obtain ⟨g, c, rfl, hg1, hg2, hg3, ⟨cur, hcur⟩, hcg⟩ := own_open ho1 (by omega)
    have hgF : ¬ F1 g := hof g rfl
    have hXl : (S.readB at_).length = 512 := by have := ho1.1; simpa using this
    have hc0 := hcg 0 (by simp [hXl])
    have hgw1 := block_lt_of_cell hc0
    clear ho1 hof hcg
    have hc0 : w1.cell? ⟨g, 0, none⟩ = some (.int .u8 (S.readB at_)[0]) := by simpa using hc0
    obtain ⟨z, hz⟩ : ∃ z, z = (S.readB at_)[0] := ⟨_, rfl⟩
    rw [← hz] at hc0
    have HC0 := Lib.hid hc0
    clear hz hc0
    have hgG : ¬ G g := fun hG => by have := HH.out.ref.lt _ hG; simp at hg1; omega
    go_wp2_with fail
    refine HRR.out.mono ?_
    rintro e w2 ⟨y, G1, rfl, hr2, hg2', hy0, hy1⟩
    rw [← HE2.out] at hy0 hy1 ⊢
    have hyr := hy1 h0
    have hgk : w2.heap[g]? = w1.heap[g]? := hg2'.block g hgw1 hgG
    have hx0 : w2.cell? ⟨g, 0, none⟩ = some (.int .u8 z) := by rw [← HC0.out]; exact World.cell?_of_block (w := w1) hgk
    have hfz : w2.frozen? ⟨g, 0, none⟩ = false := by simp [World.frozen?, hgk, hcur]
    clear hcur
    have hgG1 : ¬ G1 g := fun hG => (hg2'.sub g hG).elim hgG (fun z => by omega)
    have hxr : RdV (Value.int .u8) w2 (.slice (some ⟨g, 0, none⟩) 512 c) (S.readB at_) := rdv_kept (RdV.own hXl HO1.out) (fun A n c e => by injection e with e; injection e with e; rw [← e]; exact hgk)
    have hcx := conv_v hxr
    have hcy := conv_v hyr
    rw [← HX.out h0] at hcy
    obtain ⟨Z, hZ⟩ : ∃ Z, Z = strOfNums (S.readB at_) := ⟨_, rfl⟩
    rw [← hZ] at hcx hcy
    have hEE : (E == E) = true := beq_self_eq_true E
    obtain ⟨yA, yc, hyv, _, _, _⟩ := hyr
    subst hyv
    obtain ⟨yn, hyn⟩ : ∃ yn, yn = (R.readB at_).length := ⟨_, rfl⟩
    rw [← hyn] at hcy ⊢
    have hnext := HI.out.both.next HD1.out HF1.out hr2 hg2' HH.out.rel.call.1 (by show R.fs.length + R.since.length ≤ _; have := HH.out.len; omega) (by show _ ≤ R.left - 1; have := HH.out.left; omega)
    have HN := Lib.hid hnext
    have hfin : Hid (∀ u, RE (.returned (.bool true)) (w2.setCell ⟨g, 0, none⟩ u)) := fun u => by
      show RE _ _
      rw [HRE.out]
      obtain ⟨hb, hf⟩ := hnext
      have hks : ∀ k, k ≠ g → (w2.setCell ⟨g, 0, none⟩ u).heap[k]? = w2.heap[k]? := fun k hk => set_other w2 g 0 u hk
      have hsz : (w2.setCell ⟨g, 0, none⟩ u).heap.size = w2.heap.size := by simp [World.setCell]
      refine ⟨rfl, F1, G1, _, _, ⟨hb.disk.kept (fun k hk => hks k (fun e => hgF (e ▸ hk))), hb.ref.kept (fun k hk => hks k (fun e => hgG1 (e ▸ hk))) (Nat.le_of_eq hsz.symm), hb.apart, hb.rel, hb.len, hb.left⟩, (Fr.below HI.out.new).trans ⟨hf.os, hf.tape, hf.output, by rw [hsz]; exact hf.size, fun k hk hn => (hks k (fun e => by omega)).trans (hf.block k hk hn), hf.sub⟩⟩
    clear hr2 hg2' hy0 hy1 d1 hyn hZ hxr hnext
    go_wp2_with fail
    exact hfin.out _
  · have hv := HV0.out h0
    subst hv
    go_wp2_with fail
    refine HRR.out.mono ?_
    rintro e w2 ⟨y, G1, rfl, hr2, hg2, hy0, hy1⟩
    rw [← HE2.out] at hy0 hy1 ⊢
    obtain rfl := hy0 h0
    have hfin : Hid (RE (.returned (.bool true)) w2) := by
      show RE _ _
      rw [HRE.out]
      obtain ⟨hb, hf⟩ := HI.out.both.next HD1.out HF1.out hr2 hg2 HH.out.rel.call.1 (by show R.fs.length + R.since.length ≤ _; have := HH.out.len; omega) (by show _ ≤ R.left - 1; have := HH.out.left; omega)
      exact ⟨rfl, F1, G1, _, _, hb, (Fr.below HI.out.new).trans hf⟩
    clear hr2 hg2 hy0 hy1 d1
    have hcv : (convert 33 9 (.slice none 0 0)).run Try.prog w2 = .ok (.string (strOfNums [])) w2 := conv_rd w2 (xs := []) (fun h => absurd h (by simp)) rfl
    obtain ⟨Z, hZ⟩ : ∃ Z, Z = strOfNums [] := ⟨_, rfl⟩
    rw [← hZ] at hcv; clear hZ
    have hEE : (E == E) = true := beq_self_eq_true E
    go_wp2_with fail
    exact hfin.out
theorem does_any {w : World} {F G : Nat → Prop} {q r B : Nat} {S : DS} {R : RS} (h : Both w F G q r S R B) (hB : B ≤ 1000000) (a : ActD) (ha : ActIn w a) (ho : ActOff (fun k => F k ∨ G k) a) : Calls Try.prog 25 #[.pointer (some ⟨q, 0, none⟩), .pointer (some ⟨r, 0, none⟩), .agg a.cells.toArray] w (RetBoth w F G q r B (.bool true)) := by
  by_cases h0 : a.kind = 0
  · exact does_write h hB a ha ho h0
  by_cases h1 : a.kind = 1
  · exact does_read h hB a ha ho h1
  by_cases h2 : a.kind = 2
  · exact does_flush h hB a ha ho h2
  by_cases h3 : a.kind = 3
  · exact does_arm h hB a ha ho h3
  by_cases h4 : a.kind = 4
  · exact does_crash h hB a ha ho h4
  exact does_else h hB a ha ho (by omega)
end Go.Proofs.Ytfngadidlmbfdaa
