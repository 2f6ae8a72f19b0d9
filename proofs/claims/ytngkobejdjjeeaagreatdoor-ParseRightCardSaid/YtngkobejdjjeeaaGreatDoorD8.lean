/- cexpr, where a command is read. -/
import Derived.Test.YtngkobejdjjeeaaGreatDoorD7
set_option linter.unusedSimpArgs false
set_option linter.unusedVariables false
namespace Go.Proofs.YtngkobejdjjeeaaGreatDoor
open Go.RowKit

set_option maxHeartbeats 4000000 in
set_option maxRecDepth 100000 in
theorem cexpr_cmd (p T n cap s : Nat) (line : Int) (l : List Tok) (R : Nod → Prop) (st st' : St) (hna : isTok (tokAt l (st.i + 1)) 7 assignSigns = false) (hcmd : st'.cmd = true)
    (hex : ∀ w, Ps p T n cap s line l { st with first := st.i, cmd := false } w → Sc s w → Calls Tryz.prog 100 #[.pointer (some ⟨p, 0, none⟩)] w (NodePost p T n cap s line l R st' w))
    (w : World) (h : Ps p T n cap s line l st w) (hsc : Sc s w) :
    Calls Tryz.prog 145 #[.pointer (some ⟨p, 0, none⟩)] w (NodePost p T n cap s line l R { st' with first := -1, cmd := false } w) := by
  have ha := fun w h => assigns_no p T n cap s line l st w h hna
  have hp := h.lt
  have hT := h.hT
  go_enter Tryz.func145, Tryz.ntmps145
  go_wp2_with fail
  refine (ha _ (h.alloc _)).mono ?_
  rintro e w1 ⟨rfl, hf1⟩
  have h1 := ((h.alloc _).frNo hf1)
  have hp1 := h1.lt
  have c1 := h1.c1
  have f5 := h1.fz 5
  have c5 := h1.c5
  have f6 := h1.fz 6
  have c6 := h1.c6
  have b1 := hf1.blk (blk_new w _) (fun q => q)
  have hz1 := blk_lt b1
  have hps2 : ∀ o, Ps p T n cap s line l { st with first := st.i, cmd := false } (((w1.setCell ⟨p, 5, none⟩ (.int .i64 st.i)).setCell ⟨p, 6, none⟩ (.bool false)).alloc o) := fun o =>
    ((h1.set (st' := { st with first := st.i }) h1.hi rfl).set (st' := { st with first := st.i, cmd := false }) h1.hi rfl).alloc o
  have hfr2 : ∀ o, Fr (Only p) w (((w1.setCell ⟨p, 5, none⟩ (.int .i64 st.i)).setCell ⟨p, 6, none⟩ (.bool false)).alloc o) := fun o =>
    ((((Fr.refl _ _).alloc _).transNo hf1).setOnly _).setOnly _ |>.alloc _
  have hsc2 : ∀ o, Sc s (((w1.setCell ⟨p, 5, none⟩ (.int .i64 st.i)).setCell ⟨p, 6, none⟩ (.bool false)).alloc o) := fun o => hsc.fr (hfr2 o) h.hsp
  have b2 : ∀ o, (((w1.setCell ⟨p, 5, none⟩ (.int .i64 st.i)).setCell ⟨p, 6, none⟩ (.bool false)).alloc o).heap[w.heap.size]? = some (.cells #[.int .i64 0, .string ⟨#[]⟩, .int .i64 0, .slice none 0 0] 27 (0, 0)) := fun o =>
    blk_alloc _ (blk_set_other _ (blk_set_other _ b1 (by omega)) (by omega))
  go_wp2_with fail
  refine (hex _ (hps2 _) (hsc2 _)).mono ?_
  rintro e w3 ⟨x, a, len, c, rfl, hrd, hR, h3, hf3⟩
  have hp3 := h3.lt
  have k5 := h3.c5
  have k6 := h3.c6
  rw [hcmd] at k6
  have q5 := h3.fz 5
  have q6 := h3.fz 6
  have b3 := hf3.blk (b2 _) (not_only hp)
  obtain ⟨g0, g1, g2, g3, r0, r1, r2, r3, hz3⟩ := cells4 b3
  have hlt3 := hf3.size
  simp [World.setCell] at hlt3
  have h5 := (h3.set (o := 5) (v := .int .i64 (-1)) (st' := { st' with first := -1 }) h3.hi rfl).set (o := 6) (v := .bool false) (st' := { st' with first := -1, cmd := false }) h3.hi rfl
  have fin := node_end (R := R) hp hT (hfr2 _) (by simp [World.setCell]; omega) hrd hR hf3 (((Fr.refl (Only p) w3).setOnly (.int .i64 (-1))).setOnly (.bool false)) h5
  have Hfin := Lib.hid fin
  clear fin hrd
  go_wp2_with fail
  refine bodyPost_ret (v := .agg #[.int .i64 x.op, .string x.name, .int .i64 x.n, .slice a len c]) ?_ rfl (Hfin.out.alloc _)
  simp [results, Tryz.results145, go_sem, g0, g1, g2, g3, hz3]
end Go.Proofs.YtngkobejdjjeeaaGreatDoor
