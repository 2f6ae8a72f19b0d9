/- tree.walk where no node declares or asks for a name. -/
import Derived.Test.YtngkobejdjjeeaaGreatDoorC7
set_option linter.unusedSimpArgs false
set_option linter.unusedVariables false
namespace Go.Proofs.YtngkobejdjjeeaaGreatDoor
open Go.RowKit

/-- What it is that a node is walked through without a change. -/
def Walked (k : Nod) : Prop := ∀ (r s : Value) (v : Value) (w : World), Rd No w k v → Calls Tryz.prog 62 #[r, v, s] w fun e w' => e = .returned (.tuple #[]) ∧ Fr No w w'

theorem ints3 (w : World) (a b c : Int) (fr : Nat × Nat) (k : Nat) (t : TypeId) (h : w.heap[k]? = some (.cells #[.int .i64 a, .int .i64 b, .int .i64 c] t fr)) :
    ∀ j, j < [a, b, c].length → w.cell? ⟨k, 0 + j, none⟩ = some (.int .i64 ([a, b, c].getD j 0)) := by
  intro j hj
  simp only [List.length_cons, List.length_nil] at hj
  rw [blk_cell h]
  match j, hj with
  | 0, _ => rfl
  | 1, _ => rfl
  | 2, _ => rfl

set_option maxHeartbeats 2000000 in
set_option maxRecDepth 100000 in
theorem walk62 (x : Nod) (hop : x.op = 4 ∨ x.op = 17 ∨ x.op = 18 ∨ x.op = 26 ∨ x.op = 29 ∨ x.op = 30) (hlen : x.kids.length ≤ 1000000) (hks : ∀ k ∈ x.kids, Walked k) : Walked x := by
  intro r s v w hrd
  obtain ⟨a, cap, rfl, hkid⟩ := hrd.shape
  generalize hK : x.kids = ks at *
  generalize x.op = op at *
  clear hrd hK
  have hW : Fr No w (w.alloc (.cells #[.int .i64 op, .string x.name, .int .i64 x.n, .slice a ks.length cap] 27)) := (Fr.refl No w).alloc _
  have hB := blk_new w (.cells #[.int .i64 op, .string x.name, .int .i64 x.n, .slice a ks.length cap] 27)
  have hq : ∀ z : Int, z ∈ [10, 11, 49, 52, 54, 35, 24, 25, 41] → (op == z) = false := by
    intro z hz; simp only [List.mem_cons, List.not_mem_nil, or_false] at hz
    rw [beq_eq_false_iff_ne]; rintro rfl; omega
  have e10 := hq 10 (by simp)
  have e11 := hq 11 (by simp)
  have e49 := hq 49 (by simp)
  have e52 := hq 52 (by simp)
  have e54 := hq 54 (by simp)
  have e35 := hq 35 (by simp)
  have e24 := hq 24 (by simp)
  have e25 := hq 25 (by simp)
  have e41 := hq 41 (by simp)
  have hc : (List.take 3 [32, 33, 34]).contains op = false := by rcases hop with rfl | rfl | rfl | rfl | rfl | rfl <;> rfl
  clear hq hop
  go_enter Tryz.func62, Tryz.ntmps62
  go_wp2_with fail
  generalize hL : (ks.length : Int) - 1 = L
  replace hL := Lib.hid hL
  go_loopw [6, 114] (fun m i wr => s = m ∧ ∃ (j : Nat), j ≤ ks.length ∧ i = .int .i64 j ∧ Fr No (w.alloc (.cells #[.int .i64 op, .string x.name, .int .i64 x.n, .slice a ks.length cap] 27)) wr) (fun _ i _ => ks.length - (intOf i).toNat)
  case atStart => exact ⟨rfl, 0, Nat.zero_le _, rfl, Fr.refl _ _⟩
  case round =>
    obtain ⟨rfl, j, hj, rfl, hfj⟩ := hrel
    have hfj' := hW.trans hfj
    rcases Nat.lt_or_ge j ks.length with hlt | hge
    · have hk := List.getElem?_eq_getElem hlt
      have hkd := hkid.fr hfj' (fun _ _ q => q)
      have hu := hks _ (List.mem_of_getElem? hk)
      obtain ⟨b, o, rfl⟩ := hkd.addr (by intro q; rw [q] at hlt; simp at hlt)
      obtain ⟨_, hbl, _⟩ := hkd.get hk
      obtain ⟨ka, kc, h0, h1, h2, h3, hr⟩ := kid_at hkd hk
      generalize ks[j] = k at *
      have hBj := hfj.blk hB (fun q => q)
      obtain ⟨g0, g1, g2, g3, r0, r1, r2, r3, hz4⟩ := cells4 hBj
      have hz := blk_lt hBj
      have hs := fun w1 (hf : Fr No wr w1) => hu r s _ w1 (Rd.fr hf (fun _ _ q => q) _ _ hr)
      have Hk := Lib.hid hk
      have Hs := Lib.hid hs
      clear hk hkd hr hkid hks hu hs
      by_cases hl : L = (j : Int)
      · subst hl
        go_wp2_with fail
        refine (Tryz.slices_Contains_int (wr.heap.size + 1) 0 3 3 [32, 33, 34] op _ (by simp) (by omega) (ints3 _ 32 33 34 (0, 0) _ 3 (blk_newAt (by simp) _))).mono ?_
        rintro e w1 ⟨rfl, rfl⟩
        rw [hc]
        go_wp2_with fail
        refine (Hs.out _ (by (repeat (first | with_reducible exact Fr.refl _ _ | with_reducible assumption | with_reducible refine Fr.drewN ?_ _ | with_reducible refine Fr.drew ?_ | with_reducible refine Fr.alloc ?_ _ | with_reducible refine Fr.setNew ?_ (by first | omega | (simp; omega)) _ | with_reducible refine Fr.setOnly ?_ _ | with_reducible refine Fr.trans ?_ (by with_reducible assumption) | with_reducible refine Fr.transNo ?_ (by with_reducible assumption))))).mono ?_
        rintro e w1 ⟨rfl, hf1⟩
        go_wp2_with fail
        go_roundw
        case rel => exact ⟨rfl, j + 1, hlt, by go_num, ((hfj.alloc _).alloc _).trans hf1⟩
        case measure => simp [intOf]; omega
      · have hl' : ((j : Int) == L) = false := by
          rw [beq_eq_false_iff_ne]
          exact fun q => hl q.symm
        clear hl
        go_wp2_with fail
        refine (Hs.out _ (by (repeat (first | with_reducible exact Fr.refl _ _ | with_reducible assumption | with_reducible refine Fr.drewN ?_ _ | with_reducible refine Fr.drew ?_ | with_reducible refine Fr.alloc ?_ _ | with_reducible refine Fr.setNew ?_ (by first | omega | (simp; omega)) _ | with_reducible refine Fr.setOnly ?_ _ | with_reducible refine Fr.trans ?_ (by with_reducible assumption) | with_reducible refine Fr.transNo ?_ (by with_reducible assumption))))).mono ?_
        rintro e w1 ⟨rfl, hf1⟩
        go_wp2_with fail
        go_roundw
        case rel => exact ⟨rfl, j + 1, hlt, by go_num, (hfj.alloc _).trans hf1⟩
        case measure => simp [intOf]; omega
    · have hge' : ¬ (j : Int) < (ks.length : Int) := by omega
      go_wp2_with fail
      go_end0
      exact ⟨rfl, hfj'⟩
end Go.Proofs.YtngkobejdjjeeaaGreatDoor
