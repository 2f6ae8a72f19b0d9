/- tree.call of an operator between two exprs. -/
import Derived.Test.YtngkobejdjjeeaaGreatDoorC5
set_option linter.unusedSimpArgs false
set_option linter.unusedVariables false
namespace Go.Proofs.YtngkobejdjjeeaaGreatDoor
open Go.RowKit

attribute [local go_sem ↓] Go.wp_at_zero Go.wp_at_succ

set_option maxHeartbeats 2000000 in
theorem call_op (G : World → Prop) (hG : ∀ w w', G w → Fr No w w' → G w') (hsp : ∀ w, G w → Sp w) (x y : Nod) (hx : ExprYes G x) (hy : ExprYes G y) (name : ByteArray) (hop : Lib.containsS opNames name = true)
    (n1 : (name.toList == [91, 93]) = false) (n2 : (name.toList == [91, 93, 61]) = false) (a : Option Addr) (cap : Nat) (w : World) (hw : G w) (hk : Kid No w [x, y] a) (hcap : 2 ≤ cap) :
    Calls Tryz.prog 104 #[.agg #[.int .i64 17, .string name, .int .i64 0, .slice a 2 cap]] w fun e w' => e = .returned (.bool true) ∧ Fr No w w' := by
  obtain ⟨b, o, rfl⟩ := hk.addr (by simp)
  obtain ⟨a1, c1, p0, p1, p2, p3, hr1⟩ := kid_at (j := 0) (k := x) hk rfl
  obtain ⟨_, hbl, _⟩ := hk.get (j := 0) (k := x) rfl
  simp only [Nat.zero_mul, Nat.add_zero] at p0 p1 p2 p3
  have hfa : Fr No w (w.alloc (.cells #[.int .i64 17, .string name, .int .i64 0, .slice (some ⟨b, o, none⟩) 2 cap] 27)) := (Fr.refl No w).alloc _
  have hbx := blk_new w (.cells #[.int .i64 17, .string name, .int .i64 0, .slice (some ⟨b, o, none⟩) 2 cap] 27)
  go_enter Tryz.func104, Tryz.ntmps104
  go_wp2_with fail
  refine (hx _ _ (hG _ _ hw hfa) (Rd.fr hfa (fun _ _ q => q) _ _ hr1)).mono ?_
  rintro e w1 ⟨rfl, hf1⟩
  have hf1' := hfa.trans hf1
  obtain ⟨g0, g1, g2, g3, r0, r1, r2, r3, hz4⟩ := cells4 (hf1.blk hbx (fun q => q))
  have hz := blk_lt (hf1.blk hbx (fun q => q))
  go_wp2_with fail
  refine (isMethod_op name hop w1 (hsp _ (hG _ _ hw hf1'))).mono ?_
  rintro e w2 ⟨rfl, hf2⟩
  have hf2' := hf1'.trans hf2
  have hbx2 := (hf1.trans hf2).blk hbx (fun q => q)
  obtain ⟨g0, g1, g2, g3, r0, r1, r2, r3, hz4⟩ := cells4 hbx2
  have hz := blk_lt hbx2
  go_wp2_with fail
  refine wp_region_noPanic ?_
  first
    | go_region_law
      (first
        | (go_simp; go_at_call 92; refine (operators92 _ (hsp _ (hG _ _ hw (by first | exact hf2' | exact hf2'.drew | exact hf2'.drewN _)))).mono ?_; rintro e w3 ⟨rfl, hst, hb3, hf3⟩; have bx3 := hf3.blk hbx2 (fun q => q); obtain ⟨m0, m1, m2, m3, v0, v1, v2, v3, hz3⟩ := cells4 bx3; have hzz := blk_lt bx3)
        | (go_simp; go_at_call 124; refine (contains_ops _ _ _ (by exact hst)).mono ?_; rintro e w4 ⟨rfl, rfl⟩; rw [hop]))
    | fail
  all_goals
    refine NoPanic.normal ?_
    have hf3' : Fr No w w3 := by (repeat (first | with_reducible exact Fr.refl _ _ | with_reducible assumption | with_reducible refine Fr.drewN ?_ _ | with_reducible refine Fr.drew ?_ | with_reducible refine Fr.alloc ?_ _ | with_reducible refine Fr.setNew ?_ (by first | omega | (simp; omega)) _ | with_reducible refine Fr.setOnly ?_ _ | with_reducible refine Fr.trans ?_ (by with_reducible assumption) | with_reducible refine Fr.transNo ?_ (by with_reducible assumption)))
    go_wp2_with fail
    refine (exprs150 G hG [y] (by simpa using hy) (by simp) _ _ _ (hG _ _ hw (by (repeat (first | with_reducible exact Fr.refl _ _ | with_reducible assumption | with_reducible refine Fr.drewN ?_ _ | with_reducible refine Fr.drew ?_ | with_reducible refine Fr.alloc ?_ _ | with_reducible refine Fr.setNew ?_ (by first | omega | (simp; omega)) _ | with_reducible refine Fr.setOnly ?_ _ | with_reducible refine Fr.trans ?_ (by with_reducible assumption) | with_reducible refine Fr.transNo ?_ (by with_reducible assumption))))) (Kid.fr (S := No) (w := w) (by (repeat (first | with_reducible exact Fr.refl _ _ | with_reducible assumption | with_reducible refine Fr.drewN ?_ _ | with_reducible refine Fr.drew ?_ | with_reducible refine Fr.alloc ?_ _ | with_reducible refine Fr.setNew ?_ (by first | omega | (simp; omega)) _ | with_reducible refine Fr.setOnly ?_ _ | with_reducible refine Fr.trans ?_ (by with_reducible assumption) | with_reducible refine Fr.transNo ?_ (by with_reducible assumption)))) (fun _ _ q => q) _ _ hk.tail)).mono ?_
    rintro e w5 ⟨rfl, hf5⟩
    go_wp2_with fail
    go_ret
    exact ⟨rfl, by (repeat (first | with_reducible exact Fr.refl _ _ | with_reducible assumption | with_reducible refine Fr.drewN ?_ _ | with_reducible refine Fr.drew ?_ | with_reducible refine Fr.alloc ?_ _ | with_reducible refine Fr.setNew ?_ (by first | omega | (simp; omega)) _ | with_reducible refine Fr.setOnly ?_ _ | with_reducible refine Fr.trans ?_ (by with_reducible assumption) | with_reducible refine Fr.transNo ?_ (by with_reducible assumption)))⟩
end Go.Proofs.YtngkobejdjjeeaaGreatDoor
