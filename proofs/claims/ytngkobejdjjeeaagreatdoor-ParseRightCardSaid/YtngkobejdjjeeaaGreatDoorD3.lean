/- The closure of list that reads arguments: one expr, and no comma behind it. -/
import Derived.Test.YtngkobejdjjeeaaGreatDoorD2
import Derived.Test.YtngkobejdjjeeaaGreatDoorA10
import Derived.Test.YtngkobejdjjeeaaGreatDoorS2
set_option linter.unusedSimpArgs false
set_option linter.unusedVariables false
namespace Go.Proofs.YtngkobejdjjeeaaGreatDoor
open Go.RowKit

attribute [local go_sem ↓] Go.wp_at_zero Go.wp_at_succ

/-- What the closure leaves: the new row of one node. -/
theorem list1_fin {p T n cap s : Nat} {line : Int} {l : List Tok} {st' : St} {w w4 w5 W : World} {bo gg gcap : Nat} {x : Nod} {a : Option Addr} {len c : Nat}
    (hrd : Rd (Lt w.heap.size) w4 x (.agg #[.int .i64 x.op, .string x.name, .int .i64 x.n, .slice a len c])) (G4 : Fr (Only p) w w4) (h5 : Fr No w4 w5) (ps4 : Ps p T n cap s line l st' w4) (hgl : w4.heap.size ≤ gg)
    (hown5 : w5.ownsRow 0 27 4 (.slice (some ⟨gg, 0, none⟩) 1 gcap) 1 [.int .i64 0, .string ⟨#[]⟩, .int .i64 0, .slice none 0 0]) (o5 : w5.heap[bo]? = some (.cells #[.slice none 0 0] 25 (0, 0))) (hbo : bo < w.heap.size) (h3 : bo ≠ p) (h4 : bo ≠ T)
    (hW : W = (((((w5.setCell ⟨gg, 0, none⟩ (.int .i64 x.op)).setCell ⟨gg, 1, none⟩ (.string x.name)).setCell ⟨gg, 2, none⟩ (.int .i64 x.n)).setCell ⟨gg, 3, none⟩ (.slice a len c)).setCell ⟨bo, 0, none⟩ (.slice (some ⟨gg, 0, none⟩) 1 gcap)) ∨
      W = (((((w5.setCell ⟨bo, 0, none⟩ (.slice (some ⟨gg, 0, none⟩) 1 gcap)).setCell ⟨gg, 0, none⟩ (.int .i64 x.op)).setCell ⟨gg, 1, none⟩ (.string x.name)).setCell ⟨gg, 2, none⟩ (.int .i64 x.n)).setCell ⟨gg, 3, none⟩ (.slice a len c))) :
    W.heap[bo]? = some (.cells #[.slice (some ⟨gg, 0, none⟩) 1 gcap] 25 (0, 0)) ∧ 1 ≤ gcap ∧ Kid (Lt w.heap.size) W [x] (some ⟨gg, 0, none⟩) ∧ Ps p T n cap s line l st' W ∧ Fr (Two p bo) w W := by
  have z4 := G4.size
  have hne : gg ≠ bo := by omega
  have hf4W : Fr (Only bo) w4 W := by
    rcases hW with rfl | rfl
    · exact (((((h5.ofNo).setNew hgl _).setNew hgl _).setNew hgl _).setNew hgl _).setOnly _
    · exact (((((h5.ofNo).setOnly _).setNew hgl _).setNew hgl _).setNew hgl _).setNew hgl _
  have hbW : W.heap[bo]? = some (.cells #[.slice (some ⟨gg, 0, none⟩) 1 gcap] 25 (0, 0)) := by
    rcases hW with rfl | rfl
    · exact blk_set (o := 0) _ (blk_set_other _ (blk_set_other _ (blk_set_other _ (blk_set_other _ o5 hne.symm) hne.symm) hne.symm) hne.symm)
    · exact blk_set_other _ (blk_set_other _ (blk_set_other _ (blk_set_other _ (blk_set (o := 0) _ o5) hne.symm) hne.symm) hne.symm) hne.symm
  obtain ⟨cur, hg5, hc1, hcs⟩ : ∃ cur, w5.heap[gg]? = some (.cells cur 27 (0, 0)) ∧ 1 ≤ gcap ∧ cur.size = gcap * 4 := by
    rcases hown5.2 with ⟨h, _⟩ | ⟨g', cap', cur, h, _, h1, h2, _, h3, _⟩
    · cases h
    · cases h
      exact ⟨cur, h1, h2, h3⟩
  have hgW : W.heap[gg]? = some (.cells ((((cur.setIfInBounds 0 (.int .i64 x.op)).setIfInBounds 1 (.string x.name)).setIfInBounds 2 (.int .i64 x.n)).setIfInBounds 3 (.slice a len c)) 27 (0, 0)) := by
    rcases hW with rfl | rfl
    · exact blk_set_other _ (blk_set _ (blk_set _ (blk_set _ (blk_set _ hg5)))) hne
    · exact blk_set _ (blk_set _ (blk_set _ (blk_set _ (blk_set_other _ hg5 hne))))
  refine ⟨hbW, hc1, ?_, ps4.fr hf4W (by simp only [Only]; omega) (by simp only [Only]; omega), ?_⟩
  · refine Kid.cons (by simp only [Lt]; omega) (blk_lt hgW) (blk_cell hgW ?_) (blk_cell hgW ?_) (blk_cell hgW ?_) (blk_cell hgW ?_) (hrd.fr hf4W (fun b _ q => by simp only [Only] at q; simp only [Lt]; omega)) Kid.nil
    · simp [Array.getElem?_setIfInBounds, hcs]; omega
    · simp [Array.getElem?_setIfInBounds, hcs]; omega
    · simp [Array.getElem?_setIfInBounds, hcs]; omega
    · simp [Array.getElem?_setIfInBounds, hcs]; omega
  · exact (G4.mono (fun _ _ q => Or.inl q)).trans' hf4W (fun i hi q => Or.inr q)

set_option maxHeartbeats 4000000 in
set_option maxRecDepth 100000 in
theorem list1_one (p T n cap s : Nat) (line : Int) (l : List Tok) (R : Nod → Prop) (st st' : St) (hk9 : ((tokAt l st.i).kind == 9) = false) (hk7 : (tokAt l st.i).kind ≠ 7) (hcomma : isTok (tokAt l st'.i) 7 [⟨#[44]⟩] = false)
    (hex : ∀ w, Ps p T n cap s line l st w → Sc s w → Calls Tryz.prog 100 #[.pointer (some ⟨p, 0, none⟩)] w (NodePost p T n cap s line l R st' w))
    (bp bb bo : Nat) (w : World) (h : Ps p T n cap s line l st w) (hsc : Sc s w) (hbp : w.heap[bp]? = some (.cells #[.pointer (some ⟨p, 0, none⟩)] 46 (0, 0))) (hbb : w.heap[bb]? = some (.cells #[.bool true] 4 (0, 0)))
    (hbo : w.heap[bo]? = some (.cells #[.slice none 0 0] 25 (0, 0))) (h1 : bp ≠ p) (h2 : bb ≠ p) (h3 : bo ≠ p) (h4 : bo ≠ T) (h5 : bo ≠ bp) (h6 : bo ≠ bb) :
    Calls Tryz.prog 236 #[.pointer (some ⟨bp, 0, none⟩), .pointer (some ⟨bb, 0, none⟩), .pointer (some ⟨bo, 0, none⟩)] w fun e w' =>
      e = .returned (.tuple #[]) ∧ ∃ (x : Nod) (gg gcap : Nat), w'.heap[bo]? = some (.cells #[.slice (some ⟨gg, 0, none⟩) 1 gcap] 25 (0, 0)) ∧ 1 ≤ gcap ∧ Kid (Lt w.heap.size) w' [x] (some ⟨gg, 0, none⟩) ∧ R x ∧
        Ps p T n cap s line l st' w' ∧ Fr (Two p bo) w w' := by
  have hp := h.lt
  have hT := h.hT
  have pc := blk_cell (o := 0) hbp rfl
  have pz := blk_lt hbp
  have bc := blk_cell (o := 0) hbb rfl
  have bz := blk_lt hbb
  have oc := blk_cell (o := 0) hbo rfl
  have oz := blk_lt hbo
  have htk := fun zs => isTok_kind (t := tokAt l st.i) (k := 7) hk7 zs
  go_enter Tryz.func236, Tryz.ntmps236
  go_wp2_with fail
  refine wp_loop_rounds 1 ?_
  rw [rounds_succ]
  go_wp2_with fail
  refine (is_any p T n cap s line l st 7 w.heap.size 1 1 [⟨#[38]⟩] _ (h.alloc _) rfl (by omega) (by simp) (strs_new _ [⟨#[38]⟩] (0, 0) _ (blk_new _ _))).mono ?_
  rintro e w1 ⟨rfl, hf1⟩
  rw [htk]
  have hf1' : Fr No w w1 := ((Fr.refl No w).alloc _).trans hf1
  have ps1 := h.frNo hf1'
  have b1 := hf1'.blk hbp (fun q => q)
  have pc := blk_cell (o := 0) b1 rfl
  have pz := blk_lt b1
  go_wp2_with fail
  refine (tok0 p T n cap s line l st _ ps1).mono ?_
  rintro e w2 ⟨rfl, hf2⟩
  unfold Tok.val
  have hf2' := hf1'.trans hf2
  have ps2 := h.frNo hf2'
  have b2 := hf2'.blk hbp (fun q => q)
  have pc := blk_cell (o := 0) b2 rfl
  have pz := blk_lt b2
  go_wp2_with fail
  refine (take_no p T n cap s line l st 7 ⟨#[42]⟩ _ ps2 (htk _)).mono ?_
  rintro e w3 ⟨rfl, hf3⟩
  have hf3' := hf2'.trans hf3
  have ps3 := h.frNo hf3'
  have sc3 := hsc.fr hf3' (fun q => q)
  have b3 := hf3'.blk hbp (fun q => q)
  have pc := blk_cell (o := 0) b3 rfl
  have pz := blk_lt b3
  have o3 := hf3'.blk hbo (fun q => q)
  have oc := blk_cell (o := 0) o3 rfl
  have oz := blk_lt o3
  obtain ⟨i0, hi0, hz0', hz1', hz2'⟩ := info_parts info27
  have hzp : p < w3.heap.size := ps3.lt
  go_wp2_with fail
  refine wp_region_post ?_
  intro Q0 hQ0
  go_region_law
    (first
      | (go_simp; go_at_call 100; refine (hex _ (by first | exact ps3 | exact ps3.drew | exact (ps3.alloc _).drew | exact ps3.drew.alloc _ | exact ps3.alloc _) (by first | exact sc3 | exact sc3.fr (((Fr.refl No _).alloc _).drew) (fun q => q) | exact sc3.fr ((Fr.refl No _).alloc _) (fun q => q))).mono ?_; rintro e w4 ⟨x, a, len, c, rfl, hrd, hR, ps4, hf4⟩; have o4 : w4.heap[bo]? = some (.cells #[.slice none 0 0] 25 (0, 0)) := hf4.blk (by first | exact o3 | exact blk_alloc _ o3) (by simp only [Only]; exact h3); have oc4 := blk_cell (o := 0) o4 rfl; have oz4 := blk_lt o4)
      | (refine step_append_lies _ (by rfl) _ _ _ (by rfl) 0 27 i0 _ 4 56 Tryz.underlying25 hi0 hz0' hz1' hz2' rfl (by omega) (.slice none 0 0) 0 [] (by rfl) (World.ownsRow_nil _ _ _ _) ⟨_, 0, none⟩ 1 1 _ (by rfl) (by rfl) (World.news_of_block (t := 27) (fr := (0, 0)) (heap_alloc_new _ _)) (by simp [Value.oneCell']) (by omega) (by unfold maxLen; omega) (by omega) (by omega) _ rfl ?_; intro gg gcap w5 hown5 hgrow5 hat5 hlt5; have hf5 := Fr.ofGrown (S := No) hgrow5; have o5 : w5.heap[bo]? = some (.cells #[.slice none 0 0] 25 (0, 0)) := hf5.blk (by first | exact o4 | exact blk_alloc _ o4) (fun q => q); have oc5 := blk_cell (o := 0) o5 rfl; have of5 := blk_free (o := 0) o5; have oz5 := blk_lt o5; have e0 : w5.cell? ⟨gg, 0, none⟩ = some (.int .i64 0) := hown5.cellAt 0 (by omega); have e1 : w5.cell? ⟨gg, 1, none⟩ = some (.string ⟨#[]⟩) := hown5.cellAt 1 (by omega); have e2 : w5.cell? ⟨gg, 2, none⟩ = some (.int .i64 0) := hown5.cellAt 2 (by omega); have e3 : w5.cell? ⟨gg, 3, none⟩ = some (.slice none 0 0) := hown5.cellAt 3 (by omega); have r0 := hown5.frozenAt 0; have r1 := hown5.frozenAt 1; have r2 := hown5.frozenAt 2; have r3 := hown5.frozenAt 3; have hgo : gg ≠ bo := (by rcases hat5 with q | q; exact absurd q (by simp [Value.ownBlock]); first | omega | (simp at q; omega)))
      | (refine step_append_lies _ (by rfl) _ _ _ (by rfl) 0 27 i0 _ 4 56 Tryz.underlying25 hi0 hz0' hz1' hz2' rfl (by omega) (.slice none 0 0) 0 [] (by rfl) (World.ownsRow_nil _ _ _ _) ⟨_, 0, none⟩ 1 1 _ (by rfl) (by rfl) (World.news_of_block (t := 27) (fr := (0, 0)) (hf4.blk (heap_alloc_new _ _) (not_only hzp))) (by simp [Value.oneCell']) (by omega) (by unfold maxLen; omega) (by omega) (by omega) _ rfl ?_; intro gg gcap w5 hown5 hgrow5 hat5 hlt5; have hf5 := Fr.ofGrown (S := No) hgrow5; have o5 : w5.heap[bo]? = some (.cells #[.slice none 0 0] 25 (0, 0)) := hf5.blk (by first | exact o4 | exact blk_alloc _ o4) (fun q => q); have oc5 := blk_cell (o := 0) o5 rfl; have of5 := blk_free (o := 0) o5; have oz5 := blk_lt o5; have e0 : w5.cell? ⟨gg, 0, none⟩ = some (.int .i64 0) := hown5.cellAt 0 (by omega); have e1 : w5.cell? ⟨gg, 1, none⟩ = some (.string ⟨#[]⟩) := hown5.cellAt 1 (by omega); have e2 : w5.cell? ⟨gg, 2, none⟩ = some (.int .i64 0) := hown5.cellAt 2 (by omega); have e3 : w5.cell? ⟨gg, 3, none⟩ = some (.slice none 0 0) := hown5.cellAt 3 (by omega); have r0 := hown5.frozenAt 0; have r1 := hown5.frozenAt 1; have r2 := hown5.frozenAt 2; have r3 := hown5.frozenAt 3; have hgo : gg ≠ bo := (by rcases hat5 with q | q; exact absurd q (by simp [Value.ownBlock]); first | omega | (simp at q; omega))))
  all_goals
    have G4 : Fr (Only p) w w4 := by first | exact hf3'.ofNo.drew.trans hf4 | exact (hf3'.ofNo.alloc _).drew.trans hf4 | exact hf3'.ofNo.trans hf4 | exact (hf3'.ofNo.alloc _).trans hf4 | exact (hf3'.ofNo.drew.alloc _).trans hf4
    have G5 : Fr No w4 w5 := by first | exact hf5 | exact ((Fr.refl No _).alloc _).trans hf5 | exact (Fr.refl No _).drew.trans hf5 | exact ((Fr.refl No _).alloc _).drew.trans hf5 | exact ((Fr.refl No _).drew.alloc _).trans hf5
    have hrd4 : Rd (Lt w.heap.size) w4 x (.agg #[.int .i64 x.op, .string x.name, .int .i64 x.n, .slice a len c]) := by
      refine Rd.weak ?_ _ _ hrd
      intro b _ q
      have z3 := hf3'.size
      simp only [Lt] at q ⊢
      first | (refine Nat.lt_of_lt_of_le q ?_; exact z3) | (refine Nat.lt_of_lt_of_le q ?_; exact Nat.le_trans z3 (((Fr.refl No _).alloc _).drew).size)
    have hgl : w4.heap.size ≤ gg := by
      rcases hat5 with q | q
      · exact absurd q (by simp [Value.ownBlock])
      · rw [q]
        first | exact Nat.le_refl _ | exact ((Fr.refl No _).alloc _).size | exact (((Fr.refl No _).alloc _).drew).size | exact (((Fr.refl No _).drew).alloc _).size
    have fin := fun W hW => list1_fin (W := W) hrd4 G4 G5 ps4 hgl hown5 o5 (by omega) h3 h4 hW
    rw [hQ0]
    refine NoPanic.normal ?_
    first
      | (obtain ⟨W, hW⟩ : ∃ W, (((((w5.setCell ⟨gg, 0, none⟩ (.int .i64 x.op)).setCell ⟨gg, 1, none⟩ (.string x.name)).setCell ⟨gg, 2, none⟩ (.int .i64 x.n)).setCell ⟨gg, 3, none⟩ (.slice a len c)).setCell ⟨bo, 0, none⟩ (.slice (some ⟨gg, 0, none⟩) 1 gcap)) = W := ⟨_, rfl⟩; rw [hW]; obtain ⟨f1, f2, f3, f4, f5⟩ := fin W (.inl hW.symm))
      | (obtain ⟨W, hW⟩ : ∃ W, (((((w5.setCell ⟨bo, 0, none⟩ (.slice (some ⟨gg, 0, none⟩) 1 gcap)).setCell ⟨gg, 0, none⟩ (.int .i64 x.op)).setCell ⟨gg, 1, none⟩ (.string x.name)).setCell ⟨gg, 2, none⟩ (.int .i64 x.n)).setCell ⟨gg, 3, none⟩ (.slice a len c)) = W := ⟨_, rfl⟩; rw [hW]; obtain ⟨f1, f2, f3, f4, f5⟩ := fin W (.inr hW.symm))
    clear hW fin G4 G5 hrd4 hgl hown5 o5 hQ0
    have bW := f5.blk hbp (by simp only [Two]; omega)
    have pcW := blk_cell (o := 0) bW rfl
    have pzW := blk_lt bW
    go_wp2_with fail
    refine (take_no p T n cap s line l st' 7 ⟨#[44]⟩ _ f4 hcomma).mono ?_
    rintro e w6 ⟨rfl, hf6⟩
    go_wp2_with fail
    refine bodyPost_ret (v := .tuple #[]) (by simp [results, Tryz.results236, go_sem]) rfl ?_
    exact ⟨rfl, x, gg, gcap, hf6.blk f1 (fun q => q), f2, f3.fr hf6 (fun _ _ q => q.elim), hR, f4.frNo hf6, f5.transNo hf6⟩
end Go.Proofs.YtngkobejdjjeeaaGreatDoor
