/- program: stmts up to the end of the text. -/
import Derived.Test.YtngkobejdjjeeaaGreatDoorA10
set_option linter.unusedSimpArgs false
set_option linter.unusedVariables false
namespace Go.Proofs.YtngkobejdjjeeaaGreatDoor
open Go.RowKit

theorem program_pass (p T n cap s : Nat) (line : Int) (l : List Tok) (R : Nod → Prop) (st st' : St) (hk : (tokAt l st'.i).kind = -1)
    (hst : ∀ w, Ps p T n cap s line l st w → Sc s w → Calls Tryz.prog 27 #[.pointer (some ⟨p, 0, none⟩)] w (NodePost p T n cap s line l R st' w))
    (w : World) (h : Ps p T n cap s line l st w) (hsc : Sc s w) : Calls Tryz.prog 20 #[.pointer (some ⟨p, 0, none⟩)] w (NodePost p T n cap s line l R st' w) := by
  have ht := fun w h => tok0 p T n cap s line l st' w h
  have hk' : ((tokAt l st'.i).kind != -1) = false := by rw [hk]; rfl
  generalize tokAt l st'.i = t at *
  have hp := h.lt
  have hT := h.hT
  clear hk
  go_enter Tryz.func20, Tryz.ntmps20
  go_wp2_with fail
  refine (hst _ (h.alloc _) (hsc.fr ((Fr.refl No w).alloc _) (fun q => q))).mono ?_
  rintro e w1 ⟨x, a, len, c, rfl, hrd, hR, h1, hf1⟩
  have b1 := hf1.blk (blk_new w _) (not_only hp)
  go_wp2_with fail
  refine (ht _ (h1.alloc _)).mono ?_
  rintro e w2 ⟨rfl, hf2⟩
  unfold Tok.val
  have h2 := (h1.alloc _).frNo hf2
  have b2 := hf2.blk (blk_alloc _ b1) (fun q => q)
  have n2 := hf2.blk (blk_new w1 _) (fun q => q)
  obtain ⟨g0, g1, g2, g3, r0, r1, r2, r3, hz⟩ := cells4 b2
  obtain ⟨m0, m1, m2, m3, v0, v1, v2, v3, hz6⟩ := cells4 n2
  have fin := node_end hp hT ((Fr.refl (Only p) w).alloc _) (by simp) hrd hR hf1 (((Fr.refl (Only p) w1).alloc _).transNo hf2) h2
  have Hfin := Lib.hid fin
  clear fin hrd hR
  go_wp2_with fail
  refine bodyPost_ret (v := .agg #[.int .i64 x.op, .string x.name, .int .i64 x.n, .slice a len c]) ?_ rfl Hfin.out
  simp [results, Tryz.results20, go_sem, g0, g1, g2, g3]
end Go.Proofs.YtngkobejdjjeeaaGreatDoor
