/- Expr: the one statement of what Parse reads. -/
import Derived.Test.YtngkobejdjjeeaaGreatDoorA12
import Derived.Test.YtngkobejdjjeeaaGreatDoorC0
set_option linter.unusedSimpArgs false
set_option linter.unusedVariables false
namespace Go.Proofs.YtngkobejdjjeeaaGreatDoor
open Go.RowKit

/-- What Expr leaves where nothing is wrong. -/
def ExprDone (R : Nod → Prop) (w : World) (e : Ending) (w' : World) : Prop :=
  ∃ (x : Nod) (a : Option Addr) (len c : Nat), e = .returned (.tuple #[.agg #[.int .i64 x.op, .string x.name, .int .i64 x.n, .slice a len c], .int .i64 0]) ∧
    Rd No w' x (.agg #[.int .i64 x.op, .string x.name, .int .i64 x.n, .slice a len c]) ∧ R x ∧ Fr No w w'

set_option maxHeartbeats 1000000 in
theorem expr_pass (src : ByteArray) (R : Nod → Prop) (w : World)
    (hparse : ∀ w', Fr No w w' → Calls Tryz.prog 8 #[.string src] w' (ParsePost (fun y => ∃ x, y = .mk 26 ⟨#[]⟩ 0 [x] ∧ R x) w')) :
    Calls Tryz.prog 12 #[.string src] w (ExprDone R w) := by
  go_enter Tryz.func12, Tryz.ntmps12
  go_wp2_with fail
  refine (hparse _ ((Fr.refl No w).alloc _)).mono ?_
  rintro e w1 ⟨y, a, len, c, rfl, hrd, ⟨x, rfl, hR⟩, hf1⟩
  obtain ⟨a', cap', hv, hkid⟩ := hrd.shape
  simp only [Nod.op, Nod.name, Nod.n, Nod.kids, List.length_cons, List.length_nil, Value.agg.injEq, Array.mk.injEq, List.cons.injEq, Value.slice.injEq, and_true, true_and] at hv
  obtain ⟨rfl, rfl, rfl⟩ := hv
  obtain ⟨b, o, rfl⟩ := hkid.addr (by simp [Nod.kids])
  obtain ⟨hnb, hb, _⟩ := hkid.get (j := 0) (k := x) rfl
  obtain ⟨ka, kcap, k0, k1, k2, k3, hkk⟩ := kid_at (j := 0) (k := x) hkid rfl
  simp only [Nat.zero_mul, Nat.add_zero] at k0 k1 k2 k3
  have b1 := hf1.blk (blk_new w _) (fun q => q)
  simp only [Nod.op, Nod.name, Nod.n]
  have hz := blk_lt b1
  have n1 := blk_alloc (w := w1) (.cells #[.int .i64 26, .string ⟨#[]⟩, .int .i64 0, .slice (some ⟨b, o, none⟩) 1 c] 27) b1
  obtain ⟨g0, g1, g2, g3, r0, r1, r2, r3, hz4⟩ := cells4 b1
  have hfin : ∀ w2, Fr (Only w.heap.size) w1 w2 → ExprDone R w (.returned (.tuple #[.agg #[.int .i64 x.op, .string x.name, .int .i64 x.n, .slice ka x.kids.length kcap], .int .i64 0])) w2 := by
    intro w2 hf2
    have hx : Rd (Lt (w.heap.size + 1)) w1 x (.agg #[.int .i64 x.op, .string x.name, .int .i64 x.n, .slice ka x.kids.length kcap]) := by
      simp only [World.size_alloc] at hkk
      exact hkk
    refine ⟨x, ka, x.kids.length, kcap, rfl, Rd.weak (fun _ _ q => q.elim) _ _ (hx.fr hf2 (fun b _ q => by simp only [Only] at q; simp only [Lt]; omega)), hR, ?_⟩
    exact (((Fr.refl No w).alloc _).trans hf1).trans' hf2 (fun i hi q => by simp only [Only] at q; omega)
  have Hfin := Lib.hid hfin
  clear hfin hrd hkid hkk
  go_wp2_with fail
  refine bodyPost_ret (v := .tuple #[.agg #[.int .i64 x.op, .string x.name, .int .i64 x.n, .slice ka x.kids.length kcap], .int .i64 0]) ?_ rfl (Hfin.out _ ?_)
  · simp [results, Tryz.results12, go_sem, g0, g1, g2, g3, hz]
  · exact (Fr.set4 (Fr.refl (Only w.heap.size) w1) _ _ _ _).alloc _
end Go.Proofs.YtngkobejdjjeeaaGreatDoor
