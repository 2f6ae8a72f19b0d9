/- tree.open and resolve where no node declares or asks for a name. -/
import Derived.Test.YtngkobejdjjeeaaGreatDoorC8
import Derived.Deep.AppendLies
import Derived.Test.YtngkobejdjjeeaaGreatDoorA10
set_option linter.unusedSimpArgs false
set_option linter.unusedVariables false
namespace Go.Proofs.YtngkobejdjjeeaaGreatDoor
open Go.RowKit

theorem info95 : (Tryz.prog.info? 95).map (fun i => (i.zero, i.size, i.bytes)) = some (some (.pointer none), 1, 8) := by kernel_rfl

/-- The resolver's block, where nothing is known of its scopes. -/
def ResIs (R : Nat) (sl : Value) (w : World) : Prop := w.heap[R]? = some (.cells #[sl, .slice none 0 0, .bool false] 84 (0, 0))

set_option maxHeartbeats 1000000 in
set_option maxRecDepth 100000 in
theorem open63 (R : Nat) (w : World) (hR : ResIs R (.slice none 0 0) w) :
    Calls Tryz.prog 63 #[.pointer (some ⟨R, 0, none⟩), .pointer none] w fun e w' => (∃ s, e = .returned (.pointer (some s))) ∧ (∃ sl, ResIs R sl w') ∧ Fr (Only R) w w' := by
  obtain ⟨i0, hi0, hz0', hz1', hz2'⟩ := info_parts info95
  have lR := blk_lt hR
  have c0 := blk_cell (o := 0) hR rfl
  have f0 := blk_free (o := 0) hR
  go_enter Tryz.func63, Tryz.ntmps63
  go_wp2_with (refine wpList_append_lies _ (by rfl) _ _ _ (by rfl) 0 95 i0 _ 1 8 Tryz.underlying81 hi0 hz0' hz1' hz2' rfl (by omega) (.slice none 0 0) 0 [] (by rfl) (World.ownsRow_nil _ _ _ _) ⟨_, 0, none⟩ 1 1 _ (by rfl) (by rfl) (World.news_of_block (t := 95) (fr := (0, 0)) (blk_newAt (by simp) _)) (by simp [Value.oneCell']) (by omega) (by unfold maxLen; omega) (by omega) (by omega) _ rfl ?_; intro gg gcap w5 hown5 hgrow5 hat5 hlt5; have hf5 := Fr.ofGrown (S := No) hgrow5; have bR5 := hf5.blk (blk_alloc _ (blk_alloc _ hR)) (fun q => q); have lR5 := blk_lt bR5; have cR5 := blk_cell (o := 0) bR5 rfl; have fR5 := blk_free (o := 0) bR5)
  refine bodyPost_ret (v := .pointer (some ⟨w.heap.size, 0, none⟩)) ?_ rfl ⟨⟨_, rfl⟩, ⟨_, blk_set (o := 0) (.slice (some ⟨gg, 0, none⟩) 1 gcap) bR5⟩, ?_⟩
  · simp [results, Tryz.results63, go_sem]
  · exact ((((Fr.refl (Only R) w).alloc _).alloc _).transNo hf5).setOnly _

attribute [local go_sem ↓] Go.wp_at_zero Go.wp_at_succ

set_option maxHeartbeats 1000000 in
theorem resolve33 (x : Nod) (hx : Walked x) (v : Value) (w : World) (hrd : Rd No w x v) :
    Calls Tryz.prog 33 #[v] w fun e w' => ∃ (R : Nat) (sl : Value), e = .returned (.pointer (some ⟨R, 0, none⟩)) ∧ ResIs R sl w' ∧ Fr No w w' := by
  obtain ⟨a, cap, rfl, hkid⟩ := hrd.shape
  have hwk := fun (r s : Value) w1 (hf : Fr No w w1) => hx r s _ w1 (hrd.fr hf (fun _ _ q => q))
  clear hrd hkid
  have hB := blk_alloc (.cells #[.slice none 0 0, .slice none 0 0, .bool false] 84) (blk_new w (.cells #[.int .i64 x.op, .string x.name, .int .i64 x.n, .slice a x.kids.length cap] 27))
  obtain ⟨g0, g1, g2, g3, r0, r1, r2, r3, hz4⟩ := cells4 hB
  have hR : ResIs (w.heap.size + 1) (.slice none 0 0) ((w.alloc (.cells #[.int .i64 x.op, .string x.name, .int .i64 x.n, .slice a x.kids.length cap] 27)).alloc (.cells #[.slice none 0 0, .slice none 0 0, .bool false] 84)) := blk_newAt (by simp) _
  go_enter Tryz.func33, Tryz.ntmps33
  go_wp2_with fail
  refine wp_region_noPanic ?_
  first
    | go_region_law
      (first
        | (go_simp; go_at_call 63; refine (open63 (w.heap.size + 1) _ (by exact hR)).mono ?_; rintro e w3 ⟨⟨sc, rfl⟩, ⟨sl, hR3⟩, hf3⟩; have bx3 := hf3.blk hB (by simp only [Only]; omega); obtain ⟨m0, m1, m2, m3, v0, v1, v2, v3, hz3⟩ := cells4 bx3; have hzz := blk_lt bx3; have hfw3 : Fr No w w3 := Fr.trans' (S := No) (by (repeat (first | with_reducible exact Fr.refl _ _ | with_reducible assumption | with_reducible refine Fr.drewN ?_ _ | with_reducible refine Fr.drew ?_ | with_reducible refine Fr.alloc ?_ _ | with_reducible refine Fr.setNew ?_ (by first | omega | (simp; omega)) _ | with_reducible refine Fr.setOnly ?_ _ | with_reducible refine Fr.trans ?_ (by with_reducible assumption) | with_reducible refine Fr.transNo ?_ (by with_reducible assumption)))) hf3 (fun i hi q => by simp only [Only] at q; omega))
        | (go_simp; go_at_call 62; refine (hwk _ _ _ (by (repeat (first | with_reducible exact Fr.refl _ _ | with_reducible assumption | with_reducible refine Fr.drewN ?_ _ | with_reducible refine Fr.drew ?_ | with_reducible refine Fr.alloc ?_ _ | with_reducible refine Fr.setNew ?_ (by first | omega | (simp; omega)) _ | with_reducible refine Fr.setOnly ?_ _ | with_reducible refine Fr.trans ?_ (by with_reducible assumption) | with_reducible refine Fr.transNo ?_ (by with_reducible assumption))))).mono ?_; rintro e w4 ⟨rfl, hf4⟩))
    | fail
  all_goals
    refine NoPanic.normal ?_
    have hR4 : ResIs (w.heap.size + 1) sl w4 := hf4.blk hR3 (fun q => q)
    go_wp2_with fail
    refine bodyPost_ret (v := .pointer (some ⟨w.heap.size + 1, 0, none⟩)) ?_ rfl ⟨w.heap.size + 1, sl, rfl, hR4, ?_⟩
    · simp [results, Tryz.results33, go_sem]
    · exact hfw3.trans' hf4 (fun _ _ q => q)
end Go.Proofs.YtngkobejdjjeeaaGreatDoor
