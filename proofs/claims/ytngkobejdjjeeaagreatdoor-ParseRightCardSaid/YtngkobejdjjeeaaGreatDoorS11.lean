/- parse.Parse and parse.Expr of a row of operators between ones. -/
import Derived.Test.YtngkobejdjjeeaaGreatDoorS9
import Derived.Test.YtngkobejdjjeeaaGreatDoorC11
import Derived.Test.YtngkobejdjjeeaaGreatDoorA13
set_option linter.unusedSimpArgs false
set_option linter.unusedVariables false
namespace Go.Proofs.YtngkobejdjjeeaaGreatDoor
open Go.RowKit

theorem program_row (ks : List Nat) (l : List Tok) (hc : Chain l ks) (p T cap s : Nat) (w : World) (h : Ps p T l.length cap s 0 l ⟨0, false, -1, false, -1⟩ w) (hsc : Sc s w) :
    Calls Tryz.prog 20 #[.pointer (some ⟨p, 0, none⟩)] w (NodePost p T l.length cap s 0 l (fun y => ∃ x, y = .mk 26 ⟨#[]⟩ 0 [x] ∧ IsT ks x) ⟨2 * ks.length + 1, false, -1, false, -1⟩ w) := by
  have hk0 : (tokAt l 0).kind = 4 := by have := (hc.num 0 (Nat.zero_le _)).kind; simpa using this
  have hov := hc.over
  refine program_pass p T l.length cap s 0 l _ ⟨0, false, -1, false, -1⟩ ⟨2 * ks.length + 1, false, -1, false, -1⟩ (by rw [hov]; rfl) ?_ w h hsc
  intro w h hsc
  refine stmts_one p T l.length cap s 0 l (IsT ks) ⟨0, false, -1, false, -1⟩ ⟨2 * ks.length + 1, false, -1, false, -1⟩ (by simp [hk0]) (by simp [hk0]) (by simp [hk0]) (isTok_kind (by simp [hk0]) _) (by rw [hov]; rfl) ?_ w h hsc
  intro w h hsc
  refine stmt_pass p T l.length cap s 0 l (IsT ks) ⟨0, false, -1, false, -1⟩ ⟨2 * ks.length + 1, false, -1, false, -1⟩ (by simp [hk0]) (by rw [hov]; simp [Tok.over]) ?_ w h hsc
  intro w h _
  exact cexpr_chain p T l.length cap s 0 l ks hc ⟨0, false, -1, false, -1⟩ rfl rfl w h

theorem expr_row (G : World → Prop) (hG : ∀ w w', G w → Fr No w w' → G w') (hsp : ∀ w, G w → Sp w) (ks : List Nat) (h9 : ∀ k ∈ ks, k < 9) (heq : EqOk ks) (hl : ks.length ≤ 30) (src : ByteArray) (hsrc : src.data.toList = 49 :: tailOf ks) (hsz : src.size ≤ 1000)
    (w : World) (hw : G w) : Calls Tryz.prog 12 #[.string src] w (ExprDone (IsT ks) w) := by
  have hc := toks_chain ks h9 heq
  refine expr_pass src (IsT ks) w fun w' hf => ?_
  refine parse_pass G hG src (toksOf ks) _ ⟨2 * ks.length + 1, false, -1, false, -1⟩ ?_ (fun w hw => scan_row G hG hsp ks h9 src hsrc hsz w hw) ?_ ?_ w' (hG _ _ hw hf)
  · simp only [toksOf, List.length_cons, flat_len]; omega
  · intro p T cap s w _ h hsc
    exact program_row ks (toksOf ks) hc p T cap s w h hsc
  · rintro w y v hw hrd ⟨x, rfl, hx⟩
    exact check_isT G hG hsp hx hl v w hw hrd
end Go.Proofs.YtngkobejdjjeeaaGreatDoor
