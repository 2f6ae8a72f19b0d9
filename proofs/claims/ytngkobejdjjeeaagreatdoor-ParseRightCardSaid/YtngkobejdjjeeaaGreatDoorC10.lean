/- tree.Check of a Seq of one good expr. -/
import Derived.Test.YtngkobejdjjeeaaGreatDoorC9
import Derived.Test.YtngkobejdjjeeaaGreatDoorC4
set_option linter.unusedSimpArgs false
set_option linter.unusedVariables false
namespace Go.Proofs.YtngkobejdjjeeaaGreatDoor
open Go.RowKit

set_option maxHeartbeats 2000000 in
set_option maxRecDepth 100000 in
theorem check21 (G : World → Prop) (hG : ∀ w w', G w → Fr No w w' → G w') (x : Nod) (hx : ExprYes G x) (hu : NoUse x) (hwk : Walked x) (hop : x.op ≠ 45) (hsz : x.size ≤ 2000) (hdp : x.depth ≤ 50)
    (v : Value) (w : World) (hw : G w) (hrd : Rd No w (.mk 26 ⟨#[]⟩ 0 [x]) v) :
    Calls Tryz.prog 21 #[v] w fun e w' => e = .returned (.int .i64 0) ∧ Fr No w w' := by
  have hU : NoUse (.mk 26 ⟨#[]⟩ 0 [x]) := usings32 _ (by simp [Nod.op]) (by simp [Nod.kids]) (by intro k hk; simp [Nod.kids] at hk; exact hk ▸ hu)
  have hK : Walked (.mk 26 ⟨#[]⟩ 0 [x]) := walk62 _ (by simp [Nod.op]) (by simp [Nod.kids]) (by intro k hk; simp [Nod.kids] at hk; exact hk ▸ hwk)
  have hs1 : (Nod.mk 26 ⟨#[]⟩ 0 [x]).size ≤ 3000 := by simp only [Nod.size, sizes]; omega
  have hd1 : 1 + (Nod.mk 26 ⟨#[]⟩ 0 [x]).depth ≤ 61 := by simp only [Nod.depth, depths]; omega
  have hrd0 := hrd
  obtain ⟨a, cap, rfl, hkid⟩ := hrd.shape
  simp only [Nod.op, Nod.name, Nod.n, Nod.kids, List.length_cons, List.length_nil, Nat.zero_add] at hrd0 hkid ⊢
  obtain ⟨b, o, rfl⟩ := hkid.addr (by simp)
  have ho : (x.op == 45) = false := by simpa using hop
  clear hrd
  have hB := blk_new w (.cells #[.int .i64 26, .string ⟨#[]⟩, .int .i64 0, .slice (some ⟨b, o, none⟩) 1 cap] 27)
  have hrdL : Rd (Only (w.heap.size + 1)) w (.mk 26 ⟨#[]⟩ 0 [x]) (.agg #[.int .i64 26, .string ⟨#[]⟩, .int .i64 0, .slice (some ⟨b, o, none⟩) 1 cap]) := Rd.weak (F := No) (fun i hi q => by simp only [Only] at q; omega) _ _ hrd0
  have hsm := fun w1 (hf : Fr No w w1) (hl : LeftIs (w.heap.size + 1) 3000 w1) => small_ok (Nod.mk 26 ⟨#[]⟩ 0 [x]).size _ (Nat.le_refl _) _ (w.heap.size + 1) 3000 1 w1 (Rd.fr hf (fun _ _ q => q.elim) _ _ hrdL) hl hs1 (by omega) hd1 1 rfl
  go_enter Tryz.func21, Tryz.ntmps21
  go_wp2_with fail
  refine (hsm _ (by (repeat (first | with_reducible exact Fr.refl _ _ | with_reducible assumption | with_reducible refine Fr.drewN ?_ _ | with_reducible refine Fr.drew ?_ | with_reducible refine Fr.alloc ?_ _ | with_reducible refine Fr.setNew ?_ (by first | omega | (simp; omega)) _ | with_reducible refine Fr.setOnly ?_ _ | with_reducible refine Fr.trans ?_ (by with_reducible assumption) | with_reducible refine Fr.transNo ?_ (by with_reducible assumption)))) (blk_newAt (by simp) _)).mono ?_
  rintro e w1 ⟨rfl, hl1, hf1⟩
  have hf1' : Fr No w w1 := Fr.trans' (S := No) (by (repeat (first | with_reducible exact Fr.refl _ _ | with_reducible assumption | with_reducible refine Fr.drewN ?_ _ | with_reducible refine Fr.drew ?_ | with_reducible refine Fr.alloc ?_ _ | with_reducible refine Fr.setNew ?_ (by first | omega | (simp; omega)) _ | with_reducible refine Fr.setOnly ?_ _ | with_reducible refine Fr.trans ?_ (by with_reducible assumption) | with_reducible refine Fr.transNo ?_ (by with_reducible assumption)))) hf1 (fun i hi q => by simp only [Only] at q; omega)
  have hB1 := hf1.blk (blk_alloc _ hB) (by simp only [Only]; omega)
  obtain ⟨g0, g1, g2, g3, r0, r1, r2, r3, hz4⟩ := cells4 hB1
  have hz1 := blk_lt hB1
  go_wp2_with fail
  refine (seq31 G hG [x] (by simpa using hx) (by simp) _ cap w1 (hG _ _ hw hf1') (hkid.fr hf1' (fun _ _ q => q))).mono ?_
  rintro e w2 ⟨rfl, hf2⟩
  have hf2' := hf1'.trans hf2
  have hB2 := hf2.blk hB1 (fun q => q)
  obtain ⟨g0, g1, g2, g3, r0, r1, r2, r3, hz4⟩ := cells4 hB2
  have hz2 := blk_lt hB2
  have hk2 := hkid.fr hf2' (fun _ _ q => q)
  obtain ⟨a1, c1, p0, p1, p2, p3, hr1⟩ := kid_at (j := 0) (k := x) hk2 rfl
  obtain ⟨_, hbl, _⟩ := hk2.get (j := 0) (k := x) rfl
  simp only [Nat.zero_mul, Nat.add_zero] at p0 p1 p2 p3
  go_wp2_with fail
  refine wp_loop_rounds 2 ?_
  rw [rounds_succ]
  go_wp2_with fail
  rw [rounds_succ]
  go_wp2_with fail
  have hB3 := blk_alloc (.cells #[.int .i64 x.op, .string x.name, .int .i64 x.n, .slice a1 x.kids.length c1] 27) hB2
  refine (hU _ _ (Rd.fr (S := No) (w := w) (by (repeat (first | with_reducible exact Fr.refl _ _ | with_reducible assumption | with_reducible refine Fr.drewN ?_ _ | with_reducible refine Fr.drew ?_ | with_reducible refine Fr.alloc ?_ _ | with_reducible refine Fr.setNew ?_ (by first | omega | (simp; omega)) _ | with_reducible refine Fr.setOnly ?_ _ | with_reducible refine Fr.trans ?_ (by with_reducible assumption) | with_reducible refine Fr.transNo ?_ (by with_reducible assumption)))) (fun _ _ q => q) _ _ hrd0)).mono ?_
  rintro e w3 ⟨rfl, hf3⟩
  have hB4 := hf3.blk hB3 (fun q => q)
  obtain ⟨g0, g1, g2, g3, r0, r1, r2, r3, hz4⟩ := cells4 hB4
  have hz3 := blk_lt hB4
  have hf3' : Fr No w w3 := (hf2'.alloc _).trans hf3
  go_wp2_with fail
  refine (resolve33 _ hK _ w3 (Rd.fr hf3' (fun _ _ q => q) _ _ hrd0)).mono ?_
  rintro e w4 ⟨R, sl, rfl, hR, hf4⟩
  have cR := blk_cell (o := 2) hR rfl
  have lR := blk_lt hR
  go_wp2_with fail
  go_ret
  exact ⟨rfl, hf3'.trans hf4⟩
end Go.Proofs.YtngkobejdjjeeaaGreatDoor
