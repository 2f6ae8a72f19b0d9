/- parse.Parse of the text p 5. -/
import Derived.Test.YtngkobejdjjeeaaGreatDoorD8
import Derived.Test.YtngkobejdjjeeaaGreatDoorC13
import Derived.Test.YtngkobejdjjeeaaGreatDoorS11
set_option linter.unusedSimpArgs false
set_option linter.unusedVariables false
namespace Go.Proofs.YtngkobejdjjeeaaGreatDoor
open Go.RowKit

def FiveR (y : Nod) : Prop := y = .mk 4 ⟨#[]⟩ 5 []

theorem p_tok0 : tokAt pToks 0 = pTok := rfl
theorem p_tok1 : tokAt pToks 1 = fiveTok := rfl
theorem p_tok2 : tokAt pToks 2 = Tok.over := rfl

theorem five_expr (p T cap s : Nat) (w : World) (h : Ps p T pToks.length cap s 0 pToks ⟨1, true, -1, false, -1⟩ w) (hsc : Sc s w) :
    Calls Tryz.prog 100 #[.pointer (some ⟨p, 0, none⟩)] w (NodePost p T pToks.length cap s 0 pToks FiveR ⟨2, true, -1, false, -1⟩ w) := by
  refine expr_lone p T pToks.length cap s 0 pToks FiveR ⟨1, true, -1, false, -1⟩ ⟨2, true, -1, false, -1⟩ (.inr ⟨rfl, fun lev _ => ?_⟩) (fun w h _ => ?_) w h hsc
  · exact isTok_kind (by rw [p_tok2]; simp [Tok.over]) _
  · refine (unary_num p T pToks.length cap s 0 pToks ⟨1, true, -1, false, -1⟩ w h 5 ⟨rfl, (by decide : (⟨#[53]⟩ : ByteArray).size ≤ 18), (by decide : Lib.atoi [53] = some 5), by decide⟩ rfl ⟨isTok_kind (by rw [p_tok2]; simp [Tok.over]) _, isTok_kind (by rw [p_tok2]; simp [Tok.over]) _, isTok_kind (by rw [p_tok2]; simp [Tok.over]) _⟩).mono ?_
    rintro e w' ⟨rfl, hps, hf⟩
    exact ⟨.mk 4 ⟨#[]⟩ 5 [], none, 0, 0, rfl, Rd.mk Kid.nil rfl (Nat.le_refl _), rfl, hps, hf⟩

theorem p_expr (p T cap s : Nat) (w : World) (h : Ps p T pToks.length cap s 0 pToks ⟨0, false, 0, false, -1⟩ w) (hsc : Sc s w) :
    Calls Tryz.prog 100 #[.pointer (some ⟨p, 0, none⟩)] w (NodePost p T pToks.length cap s 0 pToks (FcallR ⟨#[112]⟩ FiveR) ⟨2, false, -1, true, -1⟩ w) := by
  refine expr_lone p T pToks.length cap s 0 pToks _ ⟨0, false, 0, false, -1⟩ ⟨2, false, -1, true, -1⟩ (.inl rfl) (fun w h hsc => ?_) w h hsc
  refine unary_pass p T pToks.length cap s 0 pToks _ ⟨0, false, 0, false, -1⟩ ⟨2, false, -1, true, -1⟩ (by rw [p_tok0]; simp [pTok]) (fun w h hsc => ?_) w h hsc
  refine postfix_cmd p T pToks.length cap s 0 pToks ⟨#[112]⟩ FiveR ⟨0, false, 0, false, -1⟩ ⟨2, false, -1, true, -1⟩ rfl rfl (fun w h hsc => ?_) w h hsc
  refine primary_cmd p T pToks.length cap s 0 pToks ⟨#[112]⟩ FiveR ⟨0, false, 0, false, -1⟩ ⟨2, false, -1, true, -1⟩ rfl (fun w h hsc => ?_) w h hsc
  refine name_cmd p T pToks.length cap s 0 pToks FiveR ⟨0, false, 0, false, -1⟩ ⟨2, false, -1, true, -1⟩ rfl (isTok_kind (by rw [p_tok1]; simp [fiveTok]) _) rfl rfl (fun w h hsc => ?_) w h hsc
  exact commands_one p T pToks.length cap s 0 pToks FiveR ⟨1, false, 0, false, -1⟩ ⟨2, true, -1, false, -1⟩ rfl rfl (by rw [p_tok1]; rfl) (by rw [p_tok1]; simp [fiveTok]) (isTok_kind (by rw [p_tok2]; simp [Tok.over]) _) (isTok_kind (by rw [p_tok2]; simp [Tok.over]) _)
    (fun w h hsc => five_expr p T cap s w h hsc) w h hsc

theorem program_p (p T cap s : Nat) (w : World) (h : Ps p T pToks.length cap s 0 pToks ⟨0, false, -1, false, -1⟩ w) (hsc : Sc s w) :
    Calls Tryz.prog 20 #[.pointer (some ⟨p, 0, none⟩)] w (NodePost p T pToks.length cap s 0 pToks (fun y => ∃ x, y = .mk 26 ⟨#[]⟩ 0 [x] ∧ FcallR ⟨#[112]⟩ FiveR x) ⟨2, false, -1, false, -1⟩ w) := by
  refine program_pass p T pToks.length cap s 0 pToks _ ⟨0, false, -1, false, -1⟩ ⟨2, false, -1, false, -1⟩ (by rw [p_tok2]; rfl) (fun w h hsc => ?_) w h hsc
  refine stmts_one p T pToks.length cap s 0 pToks (FcallR ⟨#[112]⟩ FiveR) ⟨0, false, -1, false, -1⟩ ⟨2, false, -1, false, -1⟩ (by rw [p_tok0]; rfl) (by rw [p_tok0]; rfl) (by rw [p_tok0]; simp [pTok]) (isTok_kind (by rw [p_tok0]; simp [pTok]) _) (by rw [p_tok2]; rfl) (fun w h hsc => ?_) w h hsc
  refine stmt_pass p T pToks.length cap s 0 pToks (FcallR ⟨#[112]⟩ FiveR) ⟨0, false, -1, false, -1⟩ ⟨2, false, -1, false, -1⟩ (by rw [p_tok0]; simp [pTok]) (by rw [p_tok2]; simp [Tok.over]) (fun w h hsc => ?_) w h hsc
  exact cexpr_cmd p T pToks.length cap s 0 pToks (FcallR ⟨#[112]⟩ FiveR) ⟨0, false, -1, false, -1⟩ ⟨2, false, -1, true, -1⟩ (isTok_kind (by rw [p_tok1]; simp [fiveTok]) _) rfl (fun w h hsc => p_expr p T cap s w h hsc) w h hsc

theorem parse_p (G : World → Prop) (hG : ∀ w w', G w → Fr No w w' → G w') (hsh : ∀ w, G w → w.ShapedOpen Tryz.prog) (w : World) (hw : G w) :
    Calls Tryz.prog 8 #[.string pText] w (ParsePost (fun y => ∃ x, y = .mk 26 ⟨#[]⟩ 0 [x] ∧ FcallR ⟨#[112]⟩ FiveR x) w) := by
  refine parse_pass G hG pText pToks _ ⟨2, false, -1, false, -1⟩ (by decide) (fun w hw => scan_p G hG hsh w hw) (fun p T cap s w _ h hsc => program_p p T cap s w h hsc) ?_ w hw
  rintro w y v hw hrd ⟨x, rfl, z, rfl, rfl⟩
  exact check_p G hG hsh v w hw hrd

set_option maxHeartbeats 2000000 in
set_option maxRecDepth 100000 in
theorem sane_true (G : World → Prop) (hG : ∀ w w', G w → Fr No w w' → G w') (hsh : ∀ w, G w → w.ShapedOpen Tryz.prog) (w : World) (hw : G w) :
    Calls Tryz.prog 10 #[] w fun e w' => e = .returned (.bool true) ∧ Fr No w w' := by
  have hpp := parse_p G hG hsh w hw
  unfold pText at hpp
  go_enter Tryz.func10, Tryz.ntmps10
  go_wp2_with fail
  refine hpp.mono ?_
  rintro e w1 ⟨y, a, len, c, rfl, hrd, ⟨x, rfl, z, rfl, rfl⟩, hf1⟩
  obtain ⟨a', cap', hv, hkid⟩ := hrd.shape
  simp only [Nod.op, Nod.name, Nod.n, Nod.kids, List.length_cons, List.length_nil, Value.agg.injEq, Array.mk.injEq, List.cons.injEq, Value.slice.injEq, and_true, true_and] at hv
  obtain ⟨rfl, rfl, rfl⟩ := hv
  obtain ⟨b, o, rfl⟩ := hkid.addr (by simp [Nod.kids])
  obtain ⟨hnb, hb, _⟩ := hkid.get (j := 0) (k := .mk 18 ⟨#[112]⟩ 0 [.mk 4 ⟨#[]⟩ 5 []]) rfl
  obtain ⟨ka, kcap, k0, k1, k2, k3, hkk⟩ := kid_at (j := 0) (k := .mk 18 ⟨#[112]⟩ 0 [.mk 4 ⟨#[]⟩ 5 []]) hkid rfl
  simp only [Nat.zero_mul, Nat.add_zero, Nod.op, Nod.name, Nod.n] at k0 k1 k2 k3 ⊢
  go_wp2_with fail
  refine bodyPost_ret (v := .bool true) ?_ rfl ⟨rfl, hf1.alloc _⟩
  simp [results, Tryz.results10, go_sem]
end Go.Proofs.YtngkobejdjjeeaaGreatDoor
