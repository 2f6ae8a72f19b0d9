/- tree.shaped, other, named: And, Or and Seq. -/
import Derived.Test.YtngkobejdjjeeaaGreatDoorC2
set_option linter.unusedSimpArgs false
set_option linter.unusedVariables false
namespace Go.Proofs.YtngkobejdjjeeaaGreatDoor
open Go.RowKit

/-- What it is that tree.expr says yes of a node. -/
def ExprYes (G : World → Prop) (k : Nod) : Prop := ∀ v w, G w → Rd No w k v → Calls Tryz.prog 148 #[v] w fun e w' => e = .returned (.bool true) ∧ Fr No w w'

set_option maxHeartbeats 1000000 in
theorem shaped_ee (G : World → Prop) (hG : ∀ w w', G w → Fr No w w' → G w') (x y : Nod) (hx : ExprYes G x) (hy : ExprYes G y) (a : Option Addr) (cap : Nat) (w : World) (hw : G w) (hk : Kid No w [x, y] a) :
    Calls Tryz.prog 106 #[.slice a 2 cap, .string ⟨#[101, 101]⟩] w fun e w' => e = .returned (.bool true) ∧ Fr No w w' := by
  obtain ⟨b, o, rfl⟩ := hk.addr (by simp)
  obtain ⟨a1, c1, p0, p1, p2, p3, hr1⟩ := kid_at (j := 0) (k := x) hk rfl
  obtain ⟨_, hbl, _⟩ := hk.get (j := 0) (k := x) rfl
  simp only [Nat.zero_mul, Nat.add_zero] at p0 p1 p2 p3
  go_enter Tryz.func106, Tryz.ntmps106
  go_wp2_with fail
  refine wp_loop_rounds 3 ?_
  rw [rounds_succ]
  go_wp2_with fail
  refine (hx _ _ (hG _ _ hw (by exact (Fr.refl No w).alloc _)) (Rd.fr ((Fr.refl No w).alloc _) (fun _ _ q => q) _ _ hr1)).mono ?_
  rintro e w1 ⟨rfl, hf1⟩
  go_wp2_with fail
  rw [rounds_succ]
  have hf1' : Fr No w w1 := ((Fr.refl No w).alloc _).trans hf1
  have hk1 := hk.fr hf1' (fun _ _ q => q)
  obtain ⟨a2, c2, q0, q1, q2, q3, hr2⟩ := kid_at (j := 1) (k := y) hk1 rfl
  obtain ⟨_, hbl1, _⟩ := hk1.get (j := 1) (k := y) rfl
  simp only [Nat.one_mul] at q0 q1 q2 q3
  go_wp2_with fail
  refine (hy _ _ (hG _ _ hw (by exact hf1'.alloc _)) (Rd.fr ((Fr.refl No w1).alloc _) (fun _ _ q => q) _ _ hr2)).mono ?_
  rintro e w2 ⟨rfl, hf2⟩
  go_wp2_with fail
  rw [rounds_succ]
  go_wp2_with fail
  go_ret
  exact ⟨rfl, (hf1'.alloc _).trans hf2⟩

theorem call193 (args : Array Value) (w : World) : (callFunc 193 args).run Tryz.prog w = .ok (.enter 193 args) w := by
  simp [go_sem, Tryz.func193]

theorem exprs1 (k : Nod) (v : Value) (w : World) (h : Calls Tryz.prog 148 #[v] w fun e w' => e = .returned (.bool true) ∧ Fr No w w') (hv : ∃ op name n a len cap, v = .agg #[.int .i64 op, .string name, .int .i64 n, .slice a len cap]) (h' : ∀ x, Calls Tryz.prog 148 #[v] (w.alloc x) fun e w' => e = .returned (.bool true) ∧ Fr No (w.alloc x) w') :
    Calls Tryz.prog 193 #[v] w fun e w' => e = .returned (.bool false) ∧ Fr No w w' := by
  obtain ⟨op, name, n, a, len, cap, rfl⟩ := hv
  go_enter Tryz.func193, Tryz.ntmps193
  go_wp2_with fail
  refine (h' _).mono ?_
  rintro e w1 ⟨rfl, hf1⟩
  go_wp2_with fail
  go_ret
  exact ⟨rfl, ((Fr.refl _ _).alloc _).trans hf1⟩

theorem exprs150 (G : World → Prop) (hG : ∀ w w', G w → Fr No w w' → G w') (ks : List Nod) (hks : ∀ k ∈ ks, ExprYes G k) (hlen : ks.length ≤ 1000000) (a : Option Addr) (cap : Nat) (w : World) (hw : G w) (hk : Kid No w ks a) :
    Calls Tryz.prog 150 #[.slice a ks.length cap] w fun e w' => e = .returned (.bool true) ∧ Fr No w w' := by
  have hmf : ∀ (fn : Fn) (first cap : Array Value) (w : World), (Instr.makeFunc fn first cap).run Tryz.prog w = .ok (.func fn first cap) w := fun _ _ _ _ => rfl
  go_enter Tryz.func150, Tryz.ntmps150
  go_wp2_with fail
  refine (containsFunc_none No ks a cap 193 #[] (fun j w' => Fr No w w') hlen call193 (fun j w' hf => hk.fr hf (fun _ _ q => q)) ?_ w (Fr.refl _ _)).mono ?_
  · intro j k v w' hj hr hf
    have hy := hks k (List.mem_of_getElem? hj)
    obtain ⟨a', c', hv, hkk⟩ := hr.shape
    refine (exprs1 k v w' (hy v w' (hG _ _ hw hf) hr) ⟨_, _, _, _, _, _, hv⟩ ?_).mono ?_
    · intro x
      exact hy v _ (hG _ _ hw (hf.alloc _)) (Rd.fr ((Fr.refl No w').alloc _) (fun _ _ q => q) _ _ hr)
    · rintro e w2 ⟨rfl, hf2⟩
      exact ⟨rfl, hf.trans hf2⟩
  rintro e w1 ⟨rfl, hf1⟩
  go_wp2_with fail
  go_ret
  exact ⟨rfl, hf1⟩
end Go.Proofs.YtngkobejdjjeeaaGreatDoor
