/-
  One call of both disks: the power comes back.
-/
import Derived.Test.YtfngadidlmbfdaaDA2
namespace Go.Proofs.Ytfngadidlmbfdaa
open Go.RowKit
set_option linter.unusedVariables false
set_option linter.unusedSimpArgs false
theorem ty_bools : SlTy Try.prog 44 4 1 1 := SlTy.mk' _ Try.underlying44 inf_bool rfl (by decide)
theorem RS.crash_len {R : RS} (ks : List Bool) : (R.crash ks).fs.length + (R.crash ks).since.length ≤ R.fs.length + R.since.length := RS.keeps_len (R := R) _
theorem RS.crash_left {R : RS} (ks : List Bool) : (R.crash ks).left = R.left := rfl
set_option maxRecDepth 100000 in
set_option maxHeartbeats 4000000 in
theorem does_crash {w : World} {F G : Nat → Prop} {q r B : Nat} {S : DS} {R : RS} (h : Both w F G q r S R B) (hB : B ≤ 1000000) (a : ActD) (ha : ActIn w a) (ho : ActOff (fun k => F k ∨ G k) a) (hk : a.kind = 4) : Calls Try.prog 25 #[.pointer (some ⟨q, 0, none⟩), .pointer (some ⟨r, 0, none⟩), .agg a.cells.toArray] w (RetBoth w F G q r B (.bool true)) := by
  have hkk := Lib.hid hk
  have HI := Lib.hid (DoesIn.mk' h a); have HH := Lib.hid h; have HOFF := Lib.hid (HI.out.off h); have HA := Lib.hid ha; have HO := Lib.hid ho; obtain ⟨RE, hRE⟩ : ∃ RE, RE = RetBoth w F G q r B (.bool true) := ⟨_, rfl⟩; rw [← hRE]; have HRE := Lib.hid hRE; clear hRE h ha ho; obtain ⟨As, hAs⟩ : ∃ As, As = a.cells.toArray := ⟨_, rfl⟩; have HAs := Lib.hid hAs; rw [← hAs] at HI ⊢; have HBOX := Lib.hid HI.out.box; have HBC := Lib.hid (fun (W : World) (hk : W.heap[w.heap.size]? = (w.alloc (.cells As 46)).heap[w.heap.size]?) => box_cells (a := a) (hk.trans HBOX.out)); obtain ⟨d0, d1, d2, d3⟩ := HBC.out _ rfl; obtain ⟨kd, hkd⟩ : ∃ kd, kd = a.kind := ⟨_, rfl⟩; rw [← hkd] at d0 hk; clear hkd hAs
  subst hk
  obtain ⟨m, hm⟩ : ∃ m, m = a.K.length := ⟨_, rfl⟩
  have hm1 : m ≤ 140737488351232 := by rw [hm]; exact HA.out.lk
  have HKR0 := Lib.hid HA.out.rk
  have hkr : Rd Value.bool (w.alloc (.cells As 46)) a.KA a.K := HA.out.rk.below HI.out.new
  have HKO : Hid (0 < a.K.length → ∀ x, a.KA = some x → ¬ F x.block ∧ ¬ G x.block) := fun h0 x hx => ⟨fun z => HO.out.2 h0 x hx (.inl z), fun z => HO.out.2 h0 x hx (.inr z)⟩
  obtain ⟨KA, hKA⟩ : ∃ KA, KA = a.KA := ⟨_, rfl⟩
  obtain ⟨KC, hKC⟩ : ∃ KC, KC = a.KC := ⟨_, rfl⟩
  obtain ⟨ks, hks⟩ : ∃ ks, ks = a.K := ⟨_, rfl⟩
  rw [← hks] at hm
  have HBK : Hid (∀ W : World, W.heap[w.heap.size]? = (w.alloc (.cells As 46)).heap[w.heap.size]? → W.cell? ⟨w.heap.size, 0, none⟩ = some (.int .i64 4) ∧ W.cell? ⟨w.heap.size, 3, none⟩ = some (.slice KA m KC)) := fun W h => by
    rw [hm, hks, hKA, hKC]; exact ⟨by rw [← hkk.out]; exact (HBC.out W h).1, (HBC.out W h).2.2.2⟩
  rw [← hKA, ← hks] at hkr
  rw [← hKA, ← hks] at HKO
  rw [← hKA, ← hks] at HKR0
  have HM := Lib.hid hm
  have HKR := Lib.hid hkr
  have H1C := Lib.hid (fun u (hu : u ∈ ks.map Value.bool) => (show u.oneCell' = true by obtain ⟨x, _, rfl⟩ := List.mem_map.1 hu; rfl))
  clear hm hkr hKA hKC hks HBC d0 d1 d2 d3
  obtain ⟨d0, _⟩ := HBK.out _ rfl
  obtain ⟨W1, hW1⟩ : ∃ W1, W1 = (w.alloc (.cells As 46)).alloc (.cells #[] 4) := ⟨_, rfl⟩
  have HB1 : Hid (Below w.heap.size w W1) := by show Below _ _ _; rw [hW1]; exact HI.out.new.alloc (by simp) _
  have HS1 : Hid (W1.heap.size = w.heap.size + 2) := by show _ = _; rw [hW1]; simp
  have HE : Hid (W1.ownsRow w.heap.size 4 1 (.slice (some ⟨w.heap.size + 1, 0, none⟩) 0 0) 0 []) := by
    show World.ownsRow _ _ _ _ _ _ _
    rw [hW1]
    have := own_empty (w.alloc (.cells As 46)) w.heap.size 4 1 (by simp)
    simpa using this
  have HK1 : Hid (W1.heap[w.heap.size]? = (w.alloc (.cells As 46)).heap[w.heap.size]?) := by show _ = _; rw [hW1]; exact heap_alloc_old _ _ (by simp)
  have HKR1 : Hid (Rd Value.bool W1 KA ks) := by show Rd _ _ _ _; rw [hW1]; exact HKR.out.below ((Below.refl _ _).alloc (Nat.le_refl _) _)
  have d3 := (HBK.out W1 HK1.out).2
  rw [hW1] at d3
  have HW1 := Lib.hid hW1
  clear hW1
  go_enter Try.func25, Try.ntmps25
  go_wp2_with (at_builtin; rw [← HW1.out]; refine wpList_app _ rfl (.tmp 86) (.tmp 88) ty_bools rfl _ _ _ rfl HE.out _ m _ (ks.map Value.bool) rfl (by rw [HM.out]; exact HKR1.out.cells) H1C.out (by omega) (by unfold maxLen; omega) (by have := HS1.out; omega) ?_; intro v1 w1 h1 h2 h3; simp only [Nat.zero_add, List.nil_append] at h1; have K1 := Lib.hid h1; have K2 := Lib.hid (show W1.grownBy w1 (some (w.heap.size + 1)) from h2); clear h1 h2 h3)
  obtain ⟨A1, c1, rfl, _, _⟩ := own_form K1.out
  have hb1 : Below w.heap.size w w1 := HB1.out.grown K2.out HB1.out.size (fun k hk => by injection hk with hk; omega)
  have HB2 : Hid (Both w1 F G q r S R B) := ⟨HH.out.disk.below hb1, HH.out.ref.below hb1, HH.out.apart, HH.out.rel, HH.out.len, HH.out.left⟩
  have HBL := Lib.hid hb1
  have hKA1 : Rd Value.bool w1 KA ks := HKR0.out.below hb1
  have hkr1 : Rd Value.bool w1 A1 ks := own_rd K1.out
  have hA1 : ∀ x, A1 = some x → ¬ F x.block := fun x hx hF => by
    have := HH.out.disk.lt _ hF
    have := own_base K1.out x.block (by rw [hx]; rfl)
    omega
  have HC := disk_crash HB2.out.disk A1 ks c1 hkr1 hA1
  rw [← HM.out] at HC
  have HC := Lib.hid HC
  have d3 := (HBK.out w1 ((K2.out.block w.heap.size (by have := HS1.out; omega) (fun e => by injection e with e; omega)).trans HK1.out)).2
  clear hkr1 hA1
  go_wp2_with fail
  refine HC.out.mono ?_
  rintro e w2 ⟨rfl, F1, hd1, hf1⟩
  have HD1 := Lib.hid hd1
  have HF1 := Lib.hid hf1
  have HR1 := Lib.hid (HB2.out.refKept hf1)
  have hKA2 : Rd Value.bool w2 KA ks := rd_off hKA1 hf1 (fun h0 x hx => (HKO.out h0 x hx).1)
  have HC2 := ref_crash HR1.out KA ks KC hKA2 (fun h0 x hx => (HKO.out h0 x hx).2) (by have := HM.out; omega) (by have := HH.out.len; omega)
  rw [← HM.out] at HC2
  have HC2 := Lib.hid HC2
  have d3' := (HBK.out w2 ((hf1.block w.heap.size (by have := hb1.size; have := HS1.out; have := K2.out.size; omega) HOFF.out.1).trans ((K2.out.block w.heap.size (by have := HS1.out; omega) (fun e => by injection e with e; omega)).trans HK1.out))).2
  clear hd1 hf1 hKA2 hb1
  go_wp2_with fail
  refine HC2.out.mono ?_
  rintro e w3 ⟨rfl, G1, hr2, hg2⟩
  have hfin : Hid (RE (.returned (.bool true)) w3) := by
    show RE _ _
    rw [HRE.out]
    obtain ⟨hb, hf⟩ := HB2.out.next HD1.out HF1.out hr2 hg2 (HH.out.rel.crash ks) (by have := RS.crash_len (R := R) ks; have := HH.out.len; omega) (by rw [RS.crash_left]; have := HH.out.left; omega)
    exact ⟨rfl, F1, G1, _, _, hb, (Fr.below HBL.out).trans hf⟩
  clear hr2 hg2 d0 d3 d3'
  go_wp2_with fail
  exact hfin.out
end Go.Proofs.Ytfngadidlmbfdaa
