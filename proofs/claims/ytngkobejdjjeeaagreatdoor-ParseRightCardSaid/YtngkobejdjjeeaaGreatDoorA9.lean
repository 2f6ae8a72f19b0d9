/- simple and stmt where no keyword stands: they hand on what cexpr hands back. -/
import Derived.Test.YtngkobejdjjeeaaGreatDoorA8
set_option linter.unusedSimpArgs false
set_option linter.unusedVariables false
namespace Go.Proofs.YtngkobejdjjeeaaGreatDoor
open Go.RowKit

/-- A scope without names, and without one around it. -/
def Sc (s : Nat) (w : World) : Prop := ∃ t, w.heap[s]? = some (.cells #[.slice none 0 0, .pointer none] t (0, 0))
theorem Sc.fr {s : Nat} {S : Nat → Prop} {w w' : World} (h : Sc s w) (hf : Fr S w w') (hs : ¬ S s) : Sc s w' := by
  obtain ⟨t, h⟩ := h
  exact ⟨t, hf.blk h hs⟩

set_option maxHeartbeats 1000000 in
theorem simple_pass (p T n cap s : Nat) (line : Int) (l : List Tok) (R : Nod → Prop) (st st' : St) (hk : (tokAt l st.i).kind ≠ 8)
    (hcx : ∀ w, Ps p T n cap s line l st w → Sc s w → Calls Tryz.prog 145 #[.pointer (some ⟨p, 0, none⟩)] w (NodePost p T n cap s line l R st' w))
    (w : World) (h : Ps p T n cap s line l st w) (hsc : Sc s w) : Calls Tryz.prog 96 #[.pointer (some ⟨p, 0, none⟩)] w (NodePost p T n cap s line l R st' w) := by
  have hno := fun zs => isTok_kind (t := tokAt l st.i) (k := 8) hk zs
  have htk := fun x w h => take_no p T n cap s line l st 8 x w h (hno _)
  have hp := h.lt
  have hT := h.hT
  clear hk
  go_enter Tryz.func96, Tryz.ntmps96
  go_wp2_with fail
  refine (htk _ _ (h.alloc _)).mono ?_
  rintro e w1 ⟨rfl, hf1⟩
  have h1 := (h.alloc _).frNo hf1
  go_wp2_with fail
  refine (htk _ _ h1).mono ?_
  rintro e w2 ⟨rfl, hf2⟩
  have h2 := h1.frNo hf2
  go_wp2_with fail
  refine (htk _ _ h2).mono ?_
  rintro e w3 ⟨rfl, hf3⟩
  have h3 := h2.frNo hf3
  go_wp2_with fail
  refine (htk _ _ h3).mono ?_
  rintro e w4 ⟨rfl, hf4⟩
  have h4 := h3.frNo hf4
  go_wp2_with fail
  refine (is_any p T n cap s line l st 8 w4.heap.size 3 3 [⟨#[114, 101, 116, 117, 114, 110]⟩, ⟨#[98, 114, 101, 97, 107]⟩, ⟨#[110, 101, 120, 116]⟩] _ (h4.alloc _) rfl (by omega) (by simp) (strs_new _ [⟨#[114, 101, 116, 117, 114, 110]⟩, ⟨#[98, 114, 101, 97, 107]⟩, ⟨#[110, 101, 120, 116]⟩] (0, 0) _ (blk_new _ _))).mono ?_
  rintro e w5 ⟨rfl, hf5⟩
  have h5 := (h4.alloc _).frNo hf5
  rw [hno]
  have hf05 : Fr No (w.alloc (.cells #[.int .i64 0, .string ⟨#[]⟩, .int .i64 0, .slice none 0 0] 27)) w5 := (((((Fr.refl No _).trans hf1).trans hf2).trans hf3).trans hf4 |>.alloc _).trans hf5
  go_wp2_with fail
  refine (hcx _ h5 (hsc.fr (((Fr.refl No w).alloc _).trans hf05) (fun q => q))).mono ?_
  rintro e w6 ⟨x, a, len, c, rfl, hrd, hR, h6, hf6⟩
  have b5 := hf05.blk (blk_new w _) (fun q => q)
  have b6 := hf6.blk b5 (not_only hp)
  obtain ⟨g0, g1, g2, g3, r0, r1, r2, r3, hz⟩ := cells4 b6
  have fin := node_end hp hT (((Fr.refl (Only p) w).alloc _).transNo hf05) (blk_lt b5) hrd hR hf6 (Fr.refl _ _) h6
  have Hfin := Lib.hid fin
  clear fin hrd hR
  go_wp2_with fail
  refine bodyPost_ret (v := .agg #[.int .i64 x.op, .string x.name, .int .i64 x.n, .slice a len c]) ?_ rfl Hfin.out
  simp [results, Tryz.results96, go_sem, g0, g1, g2, g3]

set_option maxHeartbeats 2000000 in
theorem stmt_pass (p T n cap s : Nat) (line : Int) (l : List Tok) (R : Nod → Prop) (st st' : St) (hk : (tokAt l st.i).kind ≠ 8) (hk' : (tokAt l st'.i).kind ≠ 8)
    (hcx : ∀ w, Ps p T n cap s line l st w → Sc s w → Calls Tryz.prog 145 #[.pointer (some ⟨p, 0, none⟩)] w (NodePost p T n cap s line l R st' w))
    (w : World) (h : Ps p T n cap s line l st w) (hsc : Sc s w) : Calls Tryz.prog 58 #[.pointer (some ⟨p, 0, none⟩)] w (NodePost p T n cap s line l R st' w) := by
  have hsi := fun w h hsc => simple_pass p T n cap s line l R st st' hk hcx w h hsc
  have hsc0 := hsc
  have hno := fun zs => isTok_kind (t := tokAt l st'.i) (k := 8) hk' zs
  have htk := fun x w h => take_no p T n cap s line l st' 8 x w h (hno _)
  have hp := h.lt
  have hT := h.hT
  have c2 := h.c2
  obtain ⟨ts, hs⟩ := hsc
  have s0 : w.cell? ⟨s, 0, none⟩ = some (.slice none 0 0) := blk_cell hs rfl
  have hsl := blk_lt hs
  clear hk hk'
  go_enter Tryz.func58, Tryz.ntmps58
  go_wp2_with fail
  refine (Tryz.slices_Clone_string_nil 0 0 _).mono ?_
  rintro e w1 ⟨rfl, rfl⟩
  go_wp2_with fail
  refine (hsi _ (h.alloc _) (hsc0.fr ((Fr.refl No w).alloc _) (fun q => q))).mono ?_
  rintro e w1 ⟨x, a, len, c, rfl, hrd, hR, h1, hf1⟩
  have b1 := hf1.blk (blk_new w _) (not_only hp)
  have hz1 := blk_lt b1
  go_wp2_with fail
  refine wp_loop_rounds 1 ?_
  rw [rounds_succ]
  go_wp2_with fail
  refine (htk _ _ (h1.alloc _)).mono ?_
  rintro e w2 ⟨rfl, hf2⟩
  have h2 := (h1.alloc _).frNo hf2
  go_wp2_with fail
  refine (htk _ _ h2).mono ?_
  rintro e w3 ⟨rfl, hf3⟩
  have h3 := h2.frNo hf3
  go_wp2_with fail
  refine (htk _ _ h3).mono ?_
  rintro e w4 ⟨rfl, hf4⟩
  have h4 := h3.frNo hf4
  go_wp2_with fail
  refine (htk _ _ h4).mono ?_
  rintro e w5 ⟨rfl, hf5⟩
  have h5 := h4.frNo hf5
  go_wp2_with fail
  refine (htk _ _ h5).mono ?_
  rintro e w6 ⟨rfl, hf6⟩
  have h6 := h5.frNo hf6
  have hf16 : Fr No (w1.alloc _) w6 := ((((hf2).trans hf3).trans hf4).trans hf5).trans hf6
  have b6 := hf16.blk (blk_alloc _ b1) (fun q => q)
  have n6 := hf16.blk (blk_new w1 _) (fun q => q)
  obtain ⟨g0, g1, g2, g3, r0, r1, r2, r3, hz⟩ := cells4 b6
  obtain ⟨m0, m1, m2, m3, v0, v1, v2, v3, hz6⟩ := cells4 n6
  have fin := node_end hp hT ((Fr.refl (Only p) w).alloc _) (by simp) hrd hR hf1 (((Fr.refl (Only p) w1).alloc _).transNo hf16) h6
  have Hfin := Lib.hid fin
  clear fin hrd hR
  go_wp2_with fail
  refine bodyPost_ret (v := .agg #[.int .i64 x.op, .string x.name, .int .i64 x.n, .slice a len c]) ?_ rfl Hfin.out
  simp [results, Tryz.results58, go_sem, g0, g1, g2, g3]
end Go.Proofs.YtngkobejdjjeeaaGreatDoor
