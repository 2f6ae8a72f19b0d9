/- commands: the arguments of a command, one expr. -/
import Derived.Test.YtngkobejdjjeeaaGreatDoorD4
set_option linter.unusedSimpArgs false
set_option linter.unusedVariables false
namespace Go.Proofs.YtngkobejdjjeeaaGreatDoor
open Go.RowKit

set_option maxHeartbeats 4000000 in
set_option maxRecDepth 100000 in
theorem commands_one (p T n cap s : Nat) (line : Int) (l : List Tok) (R : Nod → Prop) (st st' : St) (hf0' : st'.first = -1) (hnd : st.noDo = false) (hk9 : ((tokAt l st.i).kind == 9) = false) (hk7 : (tokAt l st.i).kind ≠ 7) (hcomma : isTok (tokAt l st'.i) 7 [⟨#[44]⟩] = false)
    (hdo : isTok (tokAt l st'.i) 8 [⟨#[100, 111]⟩] = false)
    (hex : ∀ w, Ps p T n cap s line l { st with first := -1, noDo := true } w → Sc s w → Calls Tryz.prog 100 #[.pointer (some ⟨p, 0, none⟩)] w (NodePost p T n cap s line l R st' w))
    (w : World) (h : Ps p T n cap s line l st w) (hsc : Sc s w) :
    Calls Tryz.prog 235 #[.pointer (some ⟨p, 0, none⟩), .bool true] w (ArgsPost p T n cap s line l R { st' with noDo := false, cmd := true } w) := by
  have hp := h.lt
  have hT := h.hT
  have c4 := h.c4
  rw [hnd] at c4
  have c5 := h.c5
  have f4 := h.fz 4
  have f5 := h.fz 5
  have h1 := h.set (o := 5) (v := .int .i64 (-1)) (st' := { st with first := -1 }) h.hi rfl
  have h2 := h1.set (o := 4) (v := .bool true) (st' := { st with first := -1, noDo := true }) h.hi rfl
  have hf2 : Fr (Only p) w ((w.setCell ⟨p, 5, none⟩ (.int .i64 (-1))).setCell ⟨p, 4, none⟩ (.bool true)) := ((Fr.refl (Only p) w).setOnly _).setOnly _
  have hsc2 := hsc.fr hf2 h.hsp
  have hzz := hf2.size
  go_enter Tryz.func235, Tryz.ntmps235
  go_wp2_with fail
  generalize (w.setCell ⟨p, 5, none⟩ (.int .i64 (-1))).setCell ⟨p, 4, none⟩ (.bool true) = W at *
  refine (list_one p T n cap s line l R { st with first := -1, noDo := true } st' rfl hf0' hk9 hk7 hcomma hex W h2 hsc2).mono ?_
  rintro e w2 ⟨x, gg, gcap, rfl, g2, g3, hR, h3, hf3⟩
  have k4 := h3.c4
  have q4 := h3.fz 4
  have z2 := h3.lt
  have h4 := h3.set (o := 4) (v := .bool false) (st' := { st' with noDo := false }) h3.hi rfl
  have hz3 : (w2.setCell ⟨p, 4, none⟩ (.bool false)).heap.size = w2.heap.size := by simp [World.setCell]
  have h4p := h4.lt
  have hf4 : Fr (Only p) w2 (w2.setCell ⟨p, 4, none⟩ (.bool false)) := (Fr.refl (Only p) w2).setOnly _
  have hdo' : isTok (tokAt l ({ st' with noDo := false } : St).i) 8 [⟨#[100, 111]⟩] = false := hdo
  have hf3' := hf2.trans hf3
  go_wp2_with fail
  generalize w2.setCell ⟨p, 4, none⟩ (.bool false) = V at *
  refine (is_any p T n cap s line l { st' with noDo := false } 8 w2.heap.size 1 1 [⟨#[100, 111]⟩] _ (h4.alloc _) rfl (by omega) (by simp; omega) (strs_new _ [⟨#[100, 111]⟩] (0, 0) _ (blk_newAt hz3.symm _))).mono ?_
  rintro e w5 ⟨rfl, hf5⟩
  rw [hdo']
  have h5 := (h4.alloc _).frNo hf5
  have k6 := h5.c6
  have q6 := h5.fz 6
  have z5 := h5.lt
  have h6 := h5.set (o := 6) (v := .bool true) (st' := { st' with noDo := false, cmd := true }) h5.hi rfl
  have hfV : Fr (Only p) V (w5.setCell ⟨p, 6, none⟩ (.bool true)) := (((Fr.refl (Only p) V).alloc _).transNo hf5).setOnly _
  go_wp2_with fail
  refine bodyPost_ret (v := .slice (some ⟨gg, 0, none⟩) 1 gcap) ?_ rfl ⟨x, gg, gcap, rfl, g2, ?_, hR, h6, ?_⟩
  · simp [results, Tryz.results235, go_sem]
  · have hW' : Kid (Lt W.heap.size) (w5.setCell ⟨p, 6, none⟩ (.bool true)) [x] (some ⟨gg, 0, none⟩) := g3.fr (hf4.trans hfV) (fun b _ q => by simp only [Only] at q; simp only [Lt]; omega)
    exact hW'.weak (fun b _ q => by simp only [Lt] at q ⊢; omega)
  · exact (hf3'.trans hf4).trans hfV
end Go.Proofs.YtngkobejdjjeeaaGreatDoor
