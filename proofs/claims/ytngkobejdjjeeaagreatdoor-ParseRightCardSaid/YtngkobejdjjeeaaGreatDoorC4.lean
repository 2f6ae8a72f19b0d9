/- tree.valid, expr and seq of And, Or, Seq. -/
import Derived.Test.YtngkobejdjjeeaaGreatDoorC3
set_option linter.unusedSimpArgs false
set_option linter.unusedVariables false
namespace Go.Proofs.YtngkobejdjjeeaaGreatDoor
open Go.RowKit

set_option maxHeartbeats 1000000 in
theorem valid_logic (G : World → Prop) (hG : ∀ w w', G w → Fr No w w' → G w') (op : Int) (hop : op = 29 ∨ op = 30) (x y : Nod) (hx : ExprYes G x) (hy : ExprYes G y) (a : Option Addr) (cap : Nat) (w : World) (hw : G w) (hk : Kid No w [x, y] a) :
    Calls Tryz.prog 61 #[.agg #[.int .i64 op, .string ⟨#[]⟩, .int .i64 0, .slice a 2 cap]] w fun e w' => e = .returned (.bool true) ∧ Fr No w w' := by
  have hsh := fun w' (hf : Fr No w w') => shaped_ee G hG x y hx hy a cap w' (hG _ _ hw hf) (hk.fr hf (fun _ _ q => q))
  have ho : ∀ w', Fr No w w' → Calls Tryz.prog 162 #[.agg #[.int .i64 op, .string ⟨#[]⟩, .int .i64 0, .slice a 2 cap]] w' fun e w'' => e = .returned (.bool true) ∧ Fr No w' w'' := by
    intro w' hf
    rcases hop with rfl | rfl <;>
    · go_enter Tryz.func162, Tryz.ntmps162
      go_wp2_with fail
      refine (hsh _ (hf.alloc _)).mono ?_
      rintro e w1 ⟨rfl, hf1⟩
      go_wp2_with fail
      go_ret
      exact ⟨rfl, ((Fr.refl _ _).alloc _).trans hf1⟩
  have hn : ∀ w', Fr No w w' → Calls Tryz.prog 110 #[.agg #[.int .i64 op, .string ⟨#[]⟩, .int .i64 0, .slice a 2 cap]] w' fun e w'' => e = .returned (.bool true) ∧ Fr No w' w'' := by
    intro w' hf
    rcases hop with rfl | rfl <;>
    · go_enter Tryz.func110, Tryz.ntmps110
      go_wp2_with fail
      refine (ho _ (hf.alloc _)).mono ?_
      rintro e w1 ⟨rfl, hf1⟩
      go_wp2_with fail
      go_ret
      exact ⟨rfl, ((Fr.refl _ _).alloc _).trans hf1⟩
  rcases hop with rfl | rfl <;>
  · go_enter Tryz.func61, Tryz.ntmps61
    go_wp2_with fail
    refine (hn _ ((Fr.refl _ _).alloc _)).mono ?_
    rintro e w1 ⟨rfl, hf1⟩
    go_wp2_with fail
    go_ret
    exact ⟨rfl, ((Fr.refl _ _).alloc _).trans hf1⟩

set_option maxHeartbeats 1000000 in
theorem valid_seq (G : World → Prop) (hG : ∀ w w', G w → Fr No w w' → G w') (ks : List Nod) (hks : ∀ k ∈ ks, ExprYes G k) (hlen : ks.length ≤ 1000000) (a : Option Addr) (cap : Nat) (w : World) (hw : G w) (hk : Kid No w ks a) :
    Calls Tryz.prog 61 #[.agg #[.int .i64 26, .string ⟨#[]⟩, .int .i64 0, .slice a ks.length cap]] w fun e w' => e = .returned (.bool true) ∧ Fr No w w' := by
  have hsh := fun w' (hf : Fr No w w') => exprs150 G hG ks hks hlen a cap w' (hG _ _ hw hf) (hk.fr hf (fun _ _ q => q))
  have ho : ∀ w', Fr No w w' → Calls Tryz.prog 162 #[.agg #[.int .i64 26, .string ⟨#[]⟩, .int .i64 0, .slice a ks.length cap]] w' fun e w'' => e = .returned (.bool true) ∧ Fr No w' w'' := by
    intro w' hf
    go_enter Tryz.func162, Tryz.ntmps162
    go_wp2_with fail
    refine (hsh _ (hf.alloc _)).mono ?_
    rintro e w1 ⟨rfl, hf1⟩
    go_wp2_with fail
    go_ret
    exact ⟨rfl, ((Fr.refl _ _).alloc _).trans hf1⟩
  have hn : ∀ w', Fr No w w' → Calls Tryz.prog 110 #[.agg #[.int .i64 26, .string ⟨#[]⟩, .int .i64 0, .slice a ks.length cap]] w' fun e w'' => e = .returned (.bool true) ∧ Fr No w' w'' := by
    intro w' hf
    go_enter Tryz.func110, Tryz.ntmps110
    go_wp2_with fail
    refine (ho _ (hf.alloc _)).mono ?_
    rintro e w1 ⟨rfl, hf1⟩
    go_wp2_with fail
    go_ret
    exact ⟨rfl, ((Fr.refl _ _).alloc _).trans hf1⟩
  go_enter Tryz.func61, Tryz.ntmps61
  go_wp2_with fail
  refine (hn _ ((Fr.refl _ _).alloc _)).mono ?_
  rintro e w1 ⟨rfl, hf1⟩
  go_wp2_with fail
  go_ret
  exact ⟨rfl, ((Fr.refl _ _).alloc _).trans hf1⟩

/-- tree.seq of a Seq of exprs. -/
theorem seq31 (G : World → Prop) (hG : ∀ w w', G w → Fr No w w' → G w') (ks : List Nod) (hks : ∀ k ∈ ks, ExprYes G k) (hlen : ks.length ≤ 1000000) (a : Option Addr) (cap : Nat) (w : World) (hw : G w) (hk : Kid No w ks a) :
    Calls Tryz.prog 31 #[.agg #[.int .i64 26, .string ⟨#[]⟩, .int .i64 0, .slice a ks.length cap]] w fun e w' => e = .returned (.bool true) ∧ Fr No w w' := by
  have h61 := fun w' (hf : Fr No w w') => valid_seq G hG ks hks hlen a cap w' (hG _ _ hw hf) (hk.fr hf (fun _ _ q => q))
  go_enter Tryz.func31, Tryz.ntmps31
  go_wp2_with fail
  refine (h61 _ ((Fr.refl _ _).alloc _)).mono ?_
  rintro e w1 ⟨rfl, hf1⟩
  go_wp2_with fail
  go_ret
  exact ⟨rfl, ((Fr.refl _ _).alloc _).trans hf1⟩

/-- tree.expr of a node of some ops that is valid. -/
theorem expr148 (op : Int) (h : op = 4 ∨ op = 17 ∨ op = 18 ∨ op = 29 ∨ op = 30) (name : ByteArray) (n : Int) (a : Option Addr) (len cap : Nat) (w : World)
    (h61 : ∀ w', Fr No w w' → Calls Tryz.prog 61 #[.agg #[.int .i64 op, .string name, .int .i64 n, .slice a len cap]] w' fun e w'' => e = .returned (.bool true) ∧ Fr No w' w'') :
    Calls Tryz.prog 148 #[.agg #[.int .i64 op, .string name, .int .i64 n, .slice a len cap]] w fun e w' => e = .returned (.bool true) ∧ Fr No w w' := by
  go_enter Tryz.func148, Tryz.ntmps148
  go_wp2_with fail
  refine (expr190 op h _).mono ?_
  rintro e w1 ⟨rfl, rfl⟩
  go_wp2_with fail
  refine (h61 _ ((Fr.refl _ _).alloc _)).mono ?_
  rintro e w1 ⟨rfl, hf1⟩
  go_wp2_with fail
  go_ret
  exact ⟨rfl, ((Fr.refl _ _).alloc _).trans hf1⟩
end Go.Proofs.YtngkobejdjjeeaaGreatDoor
