/- list, the arguments of a command: one expr. -/
import Derived.Test.YtngkobejdjjeeaaGreatDoorD3
set_option linter.unusedSimpArgs false
set_option linter.unusedVariables false
namespace Go.Proofs.YtngkobejdjjeeaaGreatDoor
open Go.RowKit

/-- What list and commands leave: one node in a new row. -/
def ArgsPost (p T n cap s : Nat) (line : Int) (l : List Tok) (R : Nod → Prop) (st' : St) (w : World) (e : Ending) (w' : World) : Prop :=
  ∃ (x : Nod) (gg gcap : Nat), e = .returned (.slice (some ⟨gg, 0, none⟩) 1 gcap) ∧ 1 ≤ gcap ∧ Kid (Lt w.heap.size) w' [x] (some ⟨gg, 0, none⟩) ∧ R x ∧ Ps p T n cap s line l st' w' ∧ Fr (Only p) w w'

set_option maxHeartbeats 4000000 in
set_option maxRecDepth 100000 in
theorem list_one (p T n cap s : Nat) (line : Int) (l : List Tok) (R : Nod → Prop) (st st' : St) (hf0 : st.first = -1) (hf0' : st'.first = -1) (hk9 : ((tokAt l st.i).kind == 9) = false) (hk7 : (tokAt l st.i).kind ≠ 7) (hcomma : isTok (tokAt l st'.i) 7 [⟨#[44]⟩] = false)
    (hex : ∀ w, Ps p T n cap s line l st w → Sc s w → Calls Tryz.prog 100 #[.pointer (some ⟨p, 0, none⟩)] w (NodePost p T n cap s line l R st' w))
    (w : World) (h : Ps p T n cap s line l st w) (hsc : Sc s w) :
    Calls Tryz.prog 224 #[.pointer (some ⟨p, 0, none⟩), .bool true, .nilFunc] w (ArgsPost p T n cap s line l R st' w) := by
  have hmf : ∀ (fn : Fn) (first cap : Array Value) (w : World), (Instr.makeFunc fn first cap).run Tryz.prog w = .ok (.func fn first cap) w := fun _ _ _ _ => rfl
  have hp := h.lt
  have hT := h.hT
  have c5 := h.c5
  have f5 := h.fz 5
  have hnn : ∀ w, Sem.run Tryz.prog (binOp BinOp.neq 32 Value.nilFunc Value.nilFunc) w = .ok (.bool false) w := fun w => by kernel_rfl
  have hnq : ∀ w, Sem.run Tryz.prog (binOp BinOp.eql 32 Value.nilFunc Value.nilFunc) w = .ok (.bool true) w := fun w => by kernel_rfl
  have hs5 : Ps p T n cap s line l st (w.setCell ⟨p, 5, none⟩ (.int .i64 (-1))) := by
    have := h.set (o := 5) (v := .int .i64 (-1)) (st' := { st with first := -1 }) h.hi rfl
    rwa [show ({ st with first := -1 } : St) = st from by cases st; simp_all] at this
  have hzs : (w.setCell ⟨p, 5, none⟩ (.int .i64 (-1))).heap.size = w.heap.size := by simp [World.setCell]
  have hf5w : Fr (Only p) w (w.setCell ⟨p, 5, none⟩ (.int .i64 (-1))) := (Fr.refl (Only p) w).setOnly _
  have hsc5 := hsc.fr hf5w h.hsp
  have hp1 : p < w.heap.size + 1 := by omega
  have hp2 : p < w.heap.size + 1 + 1 := by omega
  go_enter Tryz.func224, Tryz.ntmps224
  go_wp2_with fail
  clear hp1 hp2
  generalize w.setCell ⟨p, 5, none⟩ (.int .i64 (-1)) = V at *
  have ebp := blk_alloc (.cells #[.slice none 0 0] 25) (blk_alloc (.cells #[.bool true] 4) (blk_newAt (w := V) (k := w.heap.size) hzs.symm (.cells #[.pointer (some ⟨p, 0, none⟩)] 46)))
  have ebb := blk_alloc (.cells #[.slice none 0 0] 25) (blk_newAt (w := V.alloc (.cells #[.pointer (some ⟨p, 0, none⟩)] 46)) (k := w.heap.size + 1) (by simp; omega) (.cells #[.bool true] 4))
  have ebo := blk_newAt (w := (V.alloc (.cells #[.pointer (some ⟨p, 0, none⟩)] 46)).alloc (.cells #[.bool true] 4)) (k := w.heap.size + 1 + 1) (by simp; omega) (.cells #[.slice none 0 0] 25)
  have hfA : Fr (Only p) w (((V.alloc (.cells #[.pointer (some ⟨p, 0, none⟩)] 46)).alloc (.cells #[.bool true] 4)).alloc (.cells #[.slice none 0 0] 25)) := ((hf5w.alloc _).alloc _).alloc _
  have hsA := ((hs5.alloc (.cells #[.pointer (some ⟨p, 0, none⟩)] 46)).alloc (.cells #[.bool true] 4)).alloc (.cells #[.slice none 0 0] 25)
  have hscA := hsc5.fr ((((Fr.refl No V).alloc (.cells #[.pointer (some ⟨p, 0, none⟩)] 46)).alloc (.cells #[.bool true] 4)).alloc (.cells #[.slice none 0 0] 25)) (fun q => q)
  generalize ((V.alloc (.cells #[.pointer (some ⟨p, 0, none⟩)] 46)).alloc (.cells #[.bool true] 4)).alloc (.cells #[.slice none 0 0] 25) = W at *
  have hzW := hfA.size
  refine (list1_one p T n cap s line l R st st' hk9 hk7 hcomma hex w.heap.size (w.heap.size + 1) (w.heap.size + 1 + 1) W hsA hscA ebp ebb ebo (by omega) (by omega) (by omega) (by omega) (by omega) (by omega)).mono ?_
  rintro e w2 ⟨rfl, x, gg, gcap, g1, g2, g3, hR, h2, hf2⟩
  have k5 := h2.c5
  have q5 := h2.fz 5
  have z2 := h2.lt
  have gc := blk_cell (o := 0) g1 rfl
  have gz := blk_lt g1
  have hpo : p ≠ w.heap.size + 1 + 1 := by omega
  have b2 := hf2.blk ebp (by simp only [Two]; omega)
  have bc2 := blk_cell (o := 0) b2 rfl
  have bz2 := blk_lt b2
  have hs2 : Ps p T n cap s line l st' (w2.setCell ⟨p, 5, none⟩ (.int .i64 (-1))) := by
    have := h2.set (o := 5) (v := .int .i64 (-1)) (st' := { st' with first := -1 }) h2.hi rfl
    rwa [show ({ st' with first := -1 } : St) = st' from by cases st'; simp_all] at this
  go_wp2_with fail
  refine bodyPost_ret (v := .slice (some ⟨gg, 0, none⟩) 1 gcap) ?_ rfl ⟨x, gg, gcap, rfl, g2, ?_, hR, hs2, ?_⟩
  · simp [results, Tryz.results224, go_sem, gc]
  · have hW' : Kid (Lt W.heap.size) (w2.setCell ⟨p, 5, none⟩ (.int .i64 (-1))) [x] (some ⟨gg, 0, none⟩) := g3.fr ((Fr.refl (Only p) w2).setOnly _) (fun b _ q => by simp only [Only] at q; simp only [Lt]; omega)
    exact hW'.weak (fun b _ q => by simp only [Lt] at q ⊢; omega)
  · exact (hfA.trans' hf2 (fun i hi q => by simp only [Two] at q; simp only [Only]; omega)).setOnly _
end Go.Proofs.YtngkobejdjjeeaaGreatDoor
