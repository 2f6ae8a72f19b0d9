/- tree.Expr, and the good trees. -/
import Derived.Test.YtngkobejdjjeeaaGreatDoorC1
import Derived.Test.YtngkobejdjjeeaaGreatDoorA13
set_option linter.unusedSimpArgs false
set_option linter.unusedVariables false
namespace Go.Proofs.YtngkobejdjjeeaaGreatDoor
open Go.RowKit

theorem expr190 (op : Int) (h : op = 4 ∨ op = 17 ∨ op = 18 ∨ op = 29 ∨ op = 30) (w : World) :
    Calls Tryz.prog 190 #[.int .i64 op] w fun e w' => e = .returned (.bool true) ∧ w' = w := by
  rcases h with rfl | rfl | rfl | rfl | rfl <;>
  · go_enter Tryz.func190, Tryz.ntmps190
    go_wp2_with fail
    go_ret
    exact ⟨rfl, rfl⟩

/-- The value of a node. -/
def nodv (op : Int) (name : ByteArray) (n : Int) (a : Option Addr) (len cap : Nat) : Value := .agg #[.int .i64 op, .string name, .int .i64 n, .slice a len cap]

theorem leaf103 (op n : Int) (name : ByteArray) (a : Option Addr) (cap : Nat) (w : World) :
    Calls Tryz.prog 103 #[.agg #[.int .i64 op, .string name, .int .i64 n, .slice a 0 cap]] w fun e w' => e = .returned (.bool true) ∧ Fr No w w' := by
  go_enter Tryz.func103, Tryz.ntmps103
  go_wp2_with fail
  go_ret
  exact ⟨rfl, by (repeat (first | with_reducible exact Fr.refl _ _ | with_reducible assumption | with_reducible refine Fr.drewN ?_ _ | with_reducible refine Fr.drew ?_ | with_reducible refine Fr.alloc ?_ _ | with_reducible refine Fr.setNew ?_ (by first | omega | (simp; omega)) _ | with_reducible refine Fr.setOnly ?_ _ | with_reducible refine Fr.trans ?_ (by with_reducible assumption) | with_reducible refine Fr.transNo ?_ (by with_reducible assumption)))⟩

/-- An Int within the bounds is valid. -/
theorem valid_int (n : Int) (h1 : -1000000000000000 ≤ n) (h2 : n ≤ 1000000000000000) (a : Option Addr) (cap : Nat) (w : World) :
    Calls Tryz.prog 61 #[.agg #[.int .i64 4, .string ⟨#[]⟩, .int .i64 n, .slice a 0 cap]] w fun e w' => e = .returned (.bool true) ∧ Fr No w w' := by
  go_enter Tryz.func61, Tryz.ntmps61
  go_wp2_with fail
  refine (leaf103 _ _ _ _ _ _).mono ?_
  rintro e w1 ⟨rfl, hf1⟩
  have b1 := hf1.blk (blk_new w _) (fun q => q)
  obtain ⟨g0, g1, g2, g3, r0, r1, r2, r3, hz4⟩ := cells4 b1
  have hz := blk_lt b1
  go_wp2_with fail
  go_ret
  exact ⟨rfl, by (repeat (first | with_reducible exact Fr.refl _ _ | with_reducible assumption | with_reducible refine Fr.drewN ?_ _ | with_reducible refine Fr.drew ?_ | with_reducible refine Fr.alloc ?_ _ | with_reducible refine Fr.setNew ?_ (by first | omega | (simp; omega)) _ | with_reducible refine Fr.setOnly ?_ _ | with_reducible refine Fr.trans ?_ (by with_reducible assumption) | with_reducible refine Fr.transNo ?_ (by with_reducible assumption)))⟩
end Go.Proofs.YtngkobejdjjeeaaGreatDoor
