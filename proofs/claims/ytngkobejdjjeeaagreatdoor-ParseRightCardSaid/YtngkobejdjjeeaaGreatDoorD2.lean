/- scope.known in an empty scope; scan.Starts and parser.starts at a number behind a blank. -/
import Derived.Test.YtngkobejdjjeeaaGreatDoorD1
set_option linter.unusedSimpArgs false
set_option linter.unusedVariables false
namespace Go.Proofs.YtngkobejdjjeeaaGreatDoor
open Go.RowKit

theorem known_no (s : Nat) (x : ByteArray) (w : World) (hsc : Sc s w) : Calls Tryz.prog 187 #[.pointer (some ⟨s, 0, none⟩), .string x] w fun e w' => e = .returned (.bool false) ∧ w' = w := by
  obtain ⟨t, hs⟩ := hsc
  have c0 := blk_cell (o := 0) hs rfl
  have c1 := blk_cell (o := 1) hs rfl
  have zs := blk_lt hs
  go_enter Tryz.func187, Tryz.ntmps187
  go_wp2_with fail
  refine wp_loop_rounds 2 ?_
  rw [rounds_succ]
  go_wp2_with fail
  refine (Tryz.slices_Contains_string_empty none 0 x _).mono ?_
  rintro e w1 ⟨rfl, rfl⟩
  go_wp2_with fail
  rw [rounds_succ]
  go_wp2_with fail
  go_ret
  exact ⟨rfl, rfl⟩

theorem starts_tok (t : Tok) (hk : t.kind = 4) (w : World) : Calls Tryz.prog 250 #[t.val] w fun e w' => e = .returned (.bool true) ∧ Fr No w w' := by
  unfold Tok.val
  rw [hk]
  go_enter Tryz.func250, Tryz.ntmps250
  go_wp2_with fail
  go_ret
  exact ⟨rfl, by (repeat (first | with_reducible exact Fr.refl _ _ | with_reducible assumption | with_reducible refine Fr.drewN ?_ _ | with_reducible refine Fr.drew ?_ | with_reducible refine Fr.alloc ?_ _ | with_reducible refine Fr.setNew ?_ (by first | omega | (simp; omega)) _ | with_reducible refine Fr.setOnly ?_ _ | with_reducible refine Fr.trans ?_ (by with_reducible assumption) | with_reducible refine Fr.transNo ?_ (by with_reducible assumption)))⟩

theorem starts_num (p T n cap s : Nat) (line : Int) (l : List Tok) (st : St) (w : World) (h : Ps p T n cap s line l st w) (hk : (tokAt l st.i).kind = 4) (hs : (tokAt l st.i).space = true) :
    Calls Tryz.prog 234 #[.pointer (some ⟨p, 0, none⟩)] w fun e w' => e = .returned (.bool true) ∧ Fr No w w' := by
  have ht := tok0 p T n cap s line l st w h
  have hst := fun w => starts_tok (tokAt l st.i) hk w
  generalize tokAt l st.i = t at *
  have hp := h.lt
  have h7 : (t.kind == 7) = false := by rw [hk]; rfl
  go_enter Tryz.func234, Tryz.ntmps234
  go_wp2_with fail
  refine ht.mono ?_
  rintro e w1 ⟨rfl, hf1⟩
  unfold Tok.val at hst ⊢
  rw [hs, hk] at hst ⊢
  go_wp2_with fail
  refine (hst _).mono ?_
  rintro e w2 ⟨rfl, hf2⟩
  have b2 := hf2.blk (blk_new w1 _) (fun q => q)
  have c2 := blk_cell (o := 0) b2 rfl
  have z2 := blk_lt b2
  go_wp2_with fail
  go_quiet (fail)
  go_wp2_with fail
  refine bodyPost_ret (v := .bool true) (by simp [results, Tryz.results234, go_sem]) rfl ⟨rfl, ?_⟩
  (repeat (first | with_reducible exact Fr.refl _ _ | with_reducible assumption | with_reducible refine Fr.drewN ?_ _ | with_reducible refine Fr.drew ?_ | with_reducible refine Fr.alloc ?_ _ | with_reducible refine Fr.setNew ?_ (by first | omega | (simp; omega)) _ | with_reducible refine Fr.setOnly ?_ _ | with_reducible refine Fr.trans ?_ (by with_reducible assumption) | with_reducible refine Fr.transNo ?_ (by with_reducible assumption)))
end Go.Proofs.YtngkobejdjjeeaaGreatDoor
