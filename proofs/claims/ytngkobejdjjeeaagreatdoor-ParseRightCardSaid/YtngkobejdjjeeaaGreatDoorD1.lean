/- binary and expr where no operator follows: they hand on what unary hands back. -/
import Derived.Test.YtngkobejdjjeeaaGreatDoorA9
set_option linter.unusedSimpArgs false
set_option linter.unusedVariables false
namespace Go.Proofs.YtngkobejdjjeeaaGreatDoor
open Go.RowKit

set_option maxHeartbeats 1000000 in
theorem binary8_lone (p T n cap s : Nat) (line : Int) (l : List Tok) (R : Nod → Prop) (st st' : St)
    (hu : ∀ w, Ps p T n cap s line l st w → Sc s w → Calls Tryz.prog 188 #[.pointer (some ⟨p, 0, none⟩)] w (NodePost p T n cap s line l R st' w)) (L : Int) (hL : L = 8)
    (w : World) (h : Ps p T n cap s line l st w) (hsc : Sc s w) : Calls Tryz.prog 147 #[.pointer (some ⟨p, 0, none⟩), .int .i64 L] w (NodePost p T n cap s line l R st' w) := by
  have hL' : L > 7 := by omega
  clear hL
  have hp := h.lt
  have hT := h.hT
  go_enter Tryz.func147, Tryz.ntmps147
  go_wp2_with fail
  refine (hu _ (h.alloc _) (hsc.fr ((Fr.refl No _).alloc _) (fun q => q))).mono ?_
  rintro e w1 ⟨x, a, len, c, rfl, hrd, hR, h1, hf1⟩
  have b1 := hf1.blk (blk_new w _) (not_only hp)
  obtain ⟨g0, g1, g2, g3, q0, q1, q2, q3, hz⟩ := cells4 b1
  have fin := node_end hp hT ((Fr.refl (Only p) w).alloc _) (by simp) hrd hR hf1 (Fr.refl _ _) h1
  have Hfin := Lib.hid fin
  clear fin hrd hR
  go_wp2_with fail
  refine bodyPost_ret (v := .agg #[.int .i64 x.op, .string x.name, .int .i64 x.n, .slice a len c]) ?_ rfl Hfin.out
  simp [results, Tryz.results147, go_sem, g0, g1, g2, g3]

/-- Behind what was read no operator of a level can go on: a command was read, or no sign of the level stands there. -/
def Stops (l : List Tok) (st : St) : Prop := st.cmd = true ∨ st.cmd = false ∧ ∀ lev ≤ 7, isTok (tokAt l st.i) 7 (levelOps lev) = false

set_option maxHeartbeats 2000000 in
set_option maxRecDepth 100000 in
theorem binary_lev_lone (p T n cap s : Nat) (line : Int) (l : List Tok) (R : Nod → Prop) (st st' : St) (hno : Stops l st') (lev : Nat) (hlev : lev ≤ 7)
    (ih : ∀ (L : Int), L = (lev + 1 : Nat) → ∀ w, Ps p T n cap s line l st w → Sc s w → Calls Tryz.prog 147 #[.pointer (some ⟨p, 0, none⟩), .int .i64 L] w (NodePost p T n cap s line l R st' w))
    (w : World) (h : Ps p T n cap s line l st w) (hsc : Sc s w) : Calls Tryz.prog 147 #[.pointer (some ⟨p, 0, none⟩), .int .i64 lev] w (NodePost p T n cap s line l R st' w) := by
  have hp := h.lt
  have hT := h.hT
  have hlev' : (lev : Int) ≤ 7 := by omega
  have hl0 : (0 : Int) ≤ lev := by omega
  go_enter Tryz.func147, Tryz.ntmps147
  go_wp2_with fail
  refine (ih _ (by omega) _ (h.alloc _) (hsc.fr ((Fr.refl No _).alloc _) (fun q => q))).mono ?_
  rintro e w1 ⟨x, a, len, c, rfl, hrd, hR, h1, hf1⟩
  have b1 := hf1.blk (blk_new w _) (not_only hp)
  have hz := blk_lt b1
  have hp1 := h1.lt
  have bL := blk_new w1 (.cells #[.int .i64 x.op, .string x.name, .int .i64 x.n, .slice a len c] 27)
  have bR := blk_alloc (.cells #[.int .i64 x.op, .string x.name, .int .i64 x.n, .slice a len c] 27) b1
  have fin := fun (w2 : World) (hf2 : Fr No (w1.alloc (.cells #[.int .i64 x.op, .string x.name, .int .i64 x.n, .slice a len c] 27)) w2) =>
    node_end hp hT ((Fr.refl (Only p) w).alloc _) (by simp) hrd hR hf1 (((Fr.refl (Only p) w1).alloc _).transNo hf2) ((h1.alloc _).frNo hf2)
  have Hfin := Lib.hid fin
  have hL := h1.alloc (.cells #[.int .i64 x.op, .string x.name, .int .i64 x.n, .slice a len c] 27)
  obtain ⟨Lb, hLb⟩ : ∃ Lb, Lb = w1.heap.size := ⟨_, rfl⟩
  have hne : w.heap.size < Lb := by omega
  go_wp2_with fail
  rw [← hLb] at bL ⊢
  clear fin hrd hR h1 hf1 b1 hz hp1
  generalize w1.alloc (.cells #[.int .i64 x.op, .string x.name, .int .i64 x.n, .slice a len c] 27) = Wl at *
  clear hLb w1
  have hpl := hL.lt
  have k6 := hL.c6
  have zL := blk_lt bL
  have zR := blk_lt bR
  refine wp_loop_rounds 1 ?_
  rw [rounds_succ]
  rcases hno with hcmd | ⟨hcmd, hno⟩
  · rw [hcmd] at k6
    obtain ⟨g0, g1, g2, g3, q0, q1, q2, q3, hz4⟩ := cells4 bL
    obtain ⟨m0, m1, m2, m3, r0, r1, r2, r3, hz5⟩ := cells4 bR
    go_wp2_with fail
    refine bodyPost_ret (v := .agg #[.int .i64 x.op, .string x.name, .int .i64 x.n, .slice a len c]) ?_ rfl (Hfin.out _ (Fr.refl _ _))
    simp [results, Tryz.results147, go_sem, m0, m1, m2, m3]
  · rw [hcmd] at k6
    have Htok := Lib.hid (hno lev hlev)
    have hll : (levelOps lev).length ≤ 1000 := by unfold levelOps; split <;> simp
    clear hno hcmd
    go_wp2_with fail
    refine (level_any lev hlev _).mono ?_
    rintro e w2 ⟨rfl, hs2, hz2, hf2⟩
    have h2 := hL.frNo hf2
    go_wp2_with fail
    refine (is_any p T n cap s line l _ 7 Wl.heap.size _ _ (levelOps lev) _ h2 rfl hll hz2 hs2).mono ?_
    rintro e w3 ⟨rfl, hf3⟩
    rw [Htok.out]
    have hf13 := hf2.trans hf3
    obtain ⟨g0, g1, g2, g3, q0, q1, q2, q3, hz4⟩ := cells4 (hf13.blk bL (fun q => q))
    obtain ⟨m0, m1, m2, m3, r0, r1, r2, r3, hz5⟩ := cells4 (hf13.blk bR (fun q => q))
    go_wp2_with fail
    refine bodyPost_ret (v := .agg #[.int .i64 x.op, .string x.name, .int .i64 x.n, .slice a len c]) ?_ rfl (Hfin.out _ hf13)
    simp [results, Tryz.results147, go_sem, m0, m1, m2, m3]

theorem binary_lone (p T n cap s : Nat) (line : Int) (l : List Tok) (R : Nod → Prop) (st st' : St) (hno : Stops l st')
    (hu : ∀ w, Ps p T n cap s line l st w → Sc s w → Calls Tryz.prog 188 #[.pointer (some ⟨p, 0, none⟩)] w (NodePost p T n cap s line l R st' w)) (d : Nat) :
    ∀ (lev : Nat), lev + d = 8 → ∀ (L : Int), L = lev → ∀ w, Ps p T n cap s line l st w → Sc s w → Calls Tryz.prog 147 #[.pointer (some ⟨p, 0, none⟩), .int .i64 L] w (NodePost p T n cap s line l R st' w) := by
  induction d with
  | zero =>
    intro lev hl L hL w h hsc
    exact binary8_lone p T n cap s line l R st st' hu L (by omega) w h hsc
  | succ d ih =>
    intro lev hl L hL w h hsc
    subst hL
    exact binary_lev_lone p T n cap s line l R st st' hno lev (by omega) (ih (lev + 1) (by omega)) w h hsc

set_option maxHeartbeats 1000000 in
theorem expr_lone (p T n cap s : Nat) (line : Int) (l : List Tok) (R : Nod → Prop) (st st' : St) (hno : Stops l st')
    (hu : ∀ w, Ps p T n cap s line l st w → Sc s w → Calls Tryz.prog 188 #[.pointer (some ⟨p, 0, none⟩)] w (NodePost p T n cap s line l R st' w))
    (w : World) (h : Ps p T n cap s line l st w) (hsc : Sc s w) : Calls Tryz.prog 100 #[.pointer (some ⟨p, 0, none⟩)] w (NodePost p T n cap s line l R st' w) := by
  have hb := binary_lone p T n cap s line l R st st' hno hu 8 0 rfl 0 rfl
  have hp := h.lt
  have hT := h.hT
  clear hno
  go_enter Tryz.func100, Tryz.ntmps100
  go_wp2_with fail
  refine (hb _ (h.alloc _) (hsc.fr ((Fr.refl No _).alloc _) (fun q => q))).mono ?_
  rintro e w1 ⟨x, a, len, c, rfl, hrd, hR, h1, hf1⟩
  have b1 := hf1.blk (blk_new w _) (not_only hp)
  obtain ⟨g0, g1, g2, g3, q0, q1, q2, q3, hz⟩ := cells4 b1
  have fin := node_end hp hT ((Fr.refl (Only p) w).alloc _) (by simp) hrd hR hf1 (Fr.refl _ _) h1
  have Hfin := Lib.hid fin
  clear fin hrd hR
  go_wp2_with fail
  refine bodyPost_ret (v := .agg #[.int .i64 x.op, .string x.name, .int .i64 x.n, .slice a len c]) ?_ rfl Hfin.out
  simp [results, Tryz.results100, go_sem, g0, g1, g2, g3]
end Go.Proofs.YtngkobejdjjeeaaGreatDoor
