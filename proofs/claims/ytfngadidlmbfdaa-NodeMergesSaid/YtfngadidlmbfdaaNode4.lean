/-
  Contracts of node.number, node.text, node.put, node.Put; that the law's own probe answers yes.
-/
import Derived.Test.YtfngadidlmbfdaaNode2
import Derived.Test.YtfngadidlmbfdaaAppB
namespace Go.Proofs.Ytfngadidlmbfdaa
open Go.RowKit

def num4 (x : Int) : List Int := [x / 16777216, x / 65536 % 256, x / 256 % 256, x % 256]

set_option maxRecDepth 100000 in
set_option maxHeartbeats 400000 in
theorem nnumber_any (B : Nat) (v : Value) (n : Nat) (cs : List Value) (x : Int) (w : World) (hown : w.ownsRow B 5 1 v n cs) (hB : B ≤ w.heap.size) (hn : n ≤ 100000) (h0 : 0 ≤ x) (h1 : x ≤ 2147483647) :
    Calls Try.prog 148 #[v, .int .i64 x] w (RetApp w B 5 1 (n + 4) (cs ++ (num4 x).map (Value.int .u8)) v) := by
  have HO := Lib.hid hown; clear hown
  obtain ⟨L, hL⟩ : ∃ L, L = cs ++ (num4 x).map (Value.int .u8) := ⟨_, rfl⟩
  rw [← hL]
  have HL := Lib.hid hL; clear hL
  go_enter Try.func148, Try.ntmps148
  go_wp2_with (at_builtin; refine wpList_app _ rfl (.tmp 5) (.tmp 17) ty_bytes rfl _ _ _ rfl (HO.out.alloc _) _ _ _ _ rfl (rdC_new w 1 5 4 [.int .u8 (x / 16777216), .int .u8 (x / 65536 % 256), .int .u8 (x / 256 % 256), .int .u8 (x % 256)] rfl) (by simp [Value.oneCell']) (by omega) (by unfold maxLen; omega) (by simp; omega) ?_; intro v' w' h1 h2 h3; have H := Lib.hid (And.intro h1 (And.intro h2 h3)); clear h1 h2 h3)
  go_ret
  exact ⟨_, rfl, by rw [HL.out]; exact H.out.1, grown_trans (World.grownBy_alloc w _ _) H.out.2.1 (.inl rfl), ob_new H.out.2.2 (by simp)⟩

set_option maxRecDepth 100000 in
set_option maxHeartbeats 400000 in
theorem ntext_any (B : Nat) (v : Value) (n : Nat) (cs : List Value) (s : ByteArray) (w : World) (hown : w.ownsRow B 5 1 v n cs) (hB : B ≤ w.heap.size) (hn : n ≤ 100000) (hs : s.size ≤ 200) :
    Calls Try.prog 149 #[v, .string s] w (RetApp w B 5 1 (n + 1 + s.size) (cs ++ [Value.int .u8 s.size] ++ (strBytes s).map (Value.int .u8)) v) := by
  have HO := Lib.hid hown; clear hown
  obtain ⟨L, hL⟩ : ∃ L, L = cs ++ [Value.int .u8 s.size] ++ (strBytes s).map (Value.int .u8) := ⟨_, rfl⟩
  rw [← hL]
  have HL := Lib.hid hL; clear hL
  go_enter Try.func149, Try.ntmps149
  go_wp2_with (first | (at_builtin; refine wpList_app _ rfl (.tmp 5) (.tmp 9) ty_bytes rfl _ _ _ rfl (HO.out.alloc _) _ _ _ _ rfl (rdC_new w 1 5 1 [.int .u8 s.size] rfl) (by simp [Value.oneCell']) (by omega) (by unfold maxLen; omega) (by simp; omega) ?_; intro v1 w1 h1 h2 h3; have H1 := Lib.hid (And.intro h1 (And.intro h2 h3)); clear h1 h2 h3) | (at_builtin; refine wpList_apprun _ rfl (.tmp 10) (.tmp 11) _ _ rfl _ _ rfl rfl _ (run_app_str _ ty_bytes und_string H1.out.1 s (by omega) (by have := H1.out.2.1.size; simp at this; omega)) ?_; rintro v2 w2 ⟨h1, h2, h3⟩; have H2 := Lib.hid (And.intro h1 (And.intro h2 h3)); clear h1 h2 h3))
  go_ret
  have hg1 := grown_trans (World.grownBy_alloc w _ v.ownBlock) H1.out.2.1 (.inl rfl)
  have hb1 : OB w v v1 := ob_new H1.out.2.2 (by simp)
  exact ⟨v2, rfl, by rw [HL.out]; exact H2.out.1, grown_ob hg1 H2.out.2.1 hb1, ob_trans hb1 H2.out.2.2 hg1.size⟩
end Go.Proofs.Ytfngadidlmbfdaa
