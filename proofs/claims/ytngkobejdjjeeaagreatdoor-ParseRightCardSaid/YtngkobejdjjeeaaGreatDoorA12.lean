/- Parse, where nothing is wrong: from the contracts of Scan, program and Check. -/
import Derived.Test.YtngkobejdjjeeaaGreatDoorA11
import Derived.Recover
set_option linter.unusedSimpArgs false
set_option linter.unusedVariables false
namespace Go.Proofs.YtngkobejdjjeeaaGreatDoor
open Go.RowKit

theorem ta20 (w : World) : (Instr.typeAssert .nilIface 20 53 true).run Tryz.prog w = .ok (.tuple #[.agg #[.int .i64 0, .int .i64 0], .bool false]) w := by kernel_rfl

/-- The deferred closure of Parse, where nothing panicked. -/
theorem parse_back (a b c : Addr) (w : World) :
    CallsD Tryz.prog 19 #[.pointer (some a), .pointer (some b), .pointer (some c)] .returning w fun e u' w' =>
      u' = .returning ∧ e = .returned (.tuple #[]) ∧ Fr No w w' := by
  refine callsD_of_wpS Tryz.func19 rfl fun c₀ cs hu => ?_
  apply wpS_seq
  apply wpS_region
  simp [wpOpsS, go_sem, recoverD, hu, Tryz.ntmps19, Exit.thenS, ta20]
  apply wpS_seq
  apply wpS_region
  simp [wpOpsS, go_sem, recoverD, hu, Exit.thenS, Array.replicate]
  refine wpS_cond (t := false) (by simp [Act.eval]) ?_
  simp only [Bool.false_eq_true, if_false]
  refine wpS_of_wp (wp_skip ?_)
  cases c₀
  simp_all [bodyPostS, results, Tryz.results19]
  (repeat (first | with_reducible exact Fr.refl _ _ | with_reducible assumption | with_reducible refine Fr.drewN ?_ _ | with_reducible refine Fr.drew ?_ | with_reducible refine Fr.alloc ?_ _ | with_reducible refine Fr.setNew ?_ (by first | omega | (simp; omega)) _ | with_reducible refine Fr.setOnly ?_ _ | with_reducible refine Fr.trans ?_ (by with_reducible assumption) | with_reducible refine Fr.transNo ?_ (by with_reducible assumption)))

/-- What Scan leaves where nothing is malformed: the tokens in a row. -/
def ScanPost (l : List Tok) (w : World) (e : Ending) (w' : World) : Prop :=
  ∃ (T cap : Nat), e = .returned (.tuple #[.slice (some ⟨T, 0, none⟩) l.length cap, .int .i64 0, .int .i64 0]) ∧ Toks w' T l ∧ w.heap.size ≤ T ∧ T < w'.heap.size ∧ Fr No w w'

/-- What Parse leaves where nothing is wrong. -/
def ParsePost (R : Nod → Prop) (w : World) (e : Ending) (w' : World) : Prop :=
  ∃ (x : Nod) (a : Option Addr) (len c : Nat), e = .returned (.tuple #[.agg #[.int .i64 x.op, .string x.name, .int .i64 x.n, .slice a len c], .int .i64 0, .int .i64 0]) ∧
    Rd (Lt w.heap.size) w' x (.agg #[.int .i64 x.op, .string x.name, .int .i64 x.n, .slice a len c]) ∧ R x ∧ Fr No w w'

set_option maxHeartbeats 4000000 in
theorem parse_pass (G : World → Prop) (hG : ∀ w w', G w → Fr No w w' → G w') (src : ByteArray) (l : List Tok) (R : Nod → Prop) (stE : St) (hlen : l.length ≤ 1000000)
    (hscan : ∀ w, G w → Calls Tryz.prog 18 #[.string src] w (ScanPost l w))
    (hprog : ∀ p T cap s w, G w → Ps p T l.length cap s 0 l ⟨0, false, -1, false, -1⟩ w → Sc s w → Calls Tryz.prog 20 #[.pointer (some ⟨p, 0, none⟩)] w (NodePost p T l.length cap s 0 l R stE w))
    (hcheck : ∀ w x v, G w → Rd No w x v → R x → Calls Tryz.prog 21 #[v] w fun e w' => e = .returned (.int .i64 0) ∧ Fr No w w')
    (w : World) (hw : G w) : Calls Tryz.prog 8 #[.string src] w (ParsePost R w) := by
  have hmf : ∀ (fn : Fn) (first cap : Array Value) (w : World), (Instr.makeFunc fn first cap).run Tryz.prog w = .ok (.func fn first cap) w := fun _ _ _ _ => rfl
  go_enter_defers Tryz.func8, Tryz.ntmps8
  go_wp2_with fail
  refine (hscan _ (hG _ _ hw ((((Fr.refl No w).alloc _).alloc _).alloc _))).mono ?_
  rintro e w1 ⟨T, cap, rfl, htk, hT0, hT, hf1⟩
  simp only [World.size_alloc] at hT0
  have o1 := hf1.blk (blk_alloc _ (blk_alloc _ (blk_new w _))) (fun q => q)
  have l1 := hf1.blk (blk_alloc _ (blk_newAt (w := w.alloc (.cells #[.int .i64 0, .string ⟨#[]⟩, .int .i64 0, .slice none 0 0] 27)) (k := w.heap.size + 1) (by simp) _)) (fun q => q)
  have e1 := hf1.blk (blk_newAt (w := (w.alloc (.cells #[.int .i64 0, .string ⟨#[]⟩, .int .i64 0, .slice none 0 0] 27)).alloc (.cells #[.int .i64 0] 3)) (k := w.heap.size + 1 + 1) (by simp) _) (fun q => q)
  have zz := blk_lt e1
  have z0 : w.heap.size < w1.heap.size := by omega
  have z1 : w.heap.size + 1 < w1.heap.size := by omega
  have lc := cell_of_one l1
  have lf := free_of_one l1
  have ec := cell_of_one e1
  have ef := free_of_one e1
  have hfa : Fr (Two (w.heap.size + 1) (w.heap.size + 1 + 1)) w1 ((w1.setCell ⟨w.heap.size + 1, 0, none⟩ (.int .i64 0)).setCell ⟨w.heap.size + 1 + 1, 0, none⟩ (.int .i64 0)) :=
    ((Fr.refl (Two (w.heap.size + 1) (w.heap.size + 1 + 1)) w1).setCell (p := ⟨w.heap.size + 1, 0, none⟩) (Or.inl (Or.inl rfl)) _).setCell (p := ⟨w.heap.size + 1 + 1, 0, none⟩) (Or.inl (Or.inr rfl)) _
  have toks2 := htk.fr hfa hT (by simp only [Two]; omega)
  have o2 := hfa.blk o1 (by simp only [Two]; omega)
  have l2 : ((w1.setCell ⟨w.heap.size + 1, 0, none⟩ (.int .i64 0)).setCell ⟨w.heap.size + 1 + 1, 0, none⟩ (.int .i64 0)).heap[w.heap.size + 1]? = some (.cells #[.int .i64 0] 3 (0, 0)) := blk_set_other _ (blk_set (o := 0) (.int .i64 0) l1) (by omega)
  have e2 : ((w1.setCell ⟨w.heap.size + 1, 0, none⟩ (.int .i64 0)).setCell ⟨w.heap.size + 1 + 1, 0, none⟩ (.int .i64 0)).heap[w.heap.size + 1 + 1]? = some (.cells #[.int .i64 0] 28 (0, 0)) := blk_set (o := 0) (.int .i64 0) (blk_set_other _ e1 (by omega))
  have z2 : ((w1.setCell ⟨w.heap.size + 1, 0, none⟩ (.int .i64 0)).setCell ⟨w.heap.size + 1 + 1, 0, none⟩ (.int .i64 0)).heap.size = w1.heap.size := by simp [World.setCell]
  have hfw : Fr No w ((w1.setCell ⟨w.heap.size + 1, 0, none⟩ (.int .i64 0)).setCell ⟨w.heap.size + 1 + 1, 0, none⟩ (.int .i64 0)) := ((((((Fr.refl No w).alloc _).alloc _).alloc _).trans hf1).setNew (by omega) _).setNew (by omega) _
  go_wp2_with fail
  generalize hW2 : ((w1.setCell ⟨w.heap.size + 1, 0, none⟩ (.int .i64 0)).setCell ⟨w.heap.size + 1 + 1, 0, none⟩ (.int .i64 0)) = W2 at *
  clear hW2 hfa
  rw [← z2]
  have hps : Ps (W2.heap.size + 1) T l.length cap W2.heap.size 0 l ⟨0, false, -1, false, -1⟩ ((W2.alloc (.cells #[.slice none 0 0, .pointer none] 49)).alloc (.cells #[.slice (some ⟨T, 0, none⟩) l.length cap, .int .i64 0, .pointer (some ⟨W2.heap.size, 0, none⟩), .int .i64 0, .bool false, .int .i64 (-1), .bool false, .int .i64 (-1)] 51)) :=
    ⟨blk_newAt (by simp) _, toks2.fr (((Fr.refl No W2).alloc _).alloc _) (by omega) (fun q => q), rfl, hlen, Nat.zero_le _, by simp; omega, by omega, by omega⟩
  have hsc : Sc W2.heap.size ((W2.alloc (.cells #[.slice none 0 0, .pointer none] 49)).alloc (.cells #[.slice (some ⟨T, 0, none⟩) l.length cap, .int .i64 0, .pointer (some ⟨W2.heap.size, 0, none⟩), .int .i64 0, .bool false, .int .i64 (-1), .bool false, .int .i64 (-1)] 51)) :=
    ⟨49, blk_alloc _ (blk_new W2 _)⟩
  refine (hprog _ T cap _ _ (hG _ _ hw ((hfw.alloc _).alloc _)) hps hsc).mono ?_
  rintro e w3 ⟨x, a, len, c, rfl, hrd, hR, h3, hf3⟩
  have hfw3 : Fr No w w3 := ((hfw.alloc _).alloc _).trans' hf3 (fun i hi q => by simp only [Only] at q; omega)
  have o3 := hf3.blk (blk_alloc _ (blk_alloc _ o2)) (by simp only [Only]; omega)
  have l3 := hf3.blk (blk_alloc _ (blk_alloc _ l2)) (by simp only [Only]; omega)
  have e3 := hf3.blk (blk_alloc _ (blk_alloc _ e2)) (by simp only [Only]; omega)
  have rd3 : Rd No (w3.alloc (.cells #[.int .i64 x.op, .string x.name, .int .i64 x.n, .slice a len c] 27)) x (.agg #[.int .i64 x.op, .string x.name, .int .i64 x.n, .slice a len c]) :=
    (Rd.weak (fun _ _ q => q.elim) _ _ hrd).fr ((Fr.refl No w3).alloc _) (fun _ _ q => q)
  have Hrd := Lib.hid hrd
  clear hrd
  go_wp2_with fail
  refine (hcheck _ x _ (hG _ _ hw (hfw3.alloc _)) rd3 hR).mono ?_
  rintro e w4 ⟨rfl, hf4⟩
  have n4 := hf4.blk (blk_new w3 _) (fun q => q)
  have o4 := hf4.blk (blk_alloc _ o3) (fun q => q)
  have l4 := hf4.blk (blk_alloc _ l3) (fun q => q)
  have e4 := hf4.blk (blk_alloc _ e3) (fun q => q)
  obtain ⟨g0, g1, g2, g3, r0, r1, r2, r3, hz4⟩ := cells4 o4
  obtain ⟨m0, m1, m2, m3, v0, v1, v2, v3, hz5⟩ := cells4 n4
  have lc4 := cell_of_one l4
  have lf4 := free_of_one l4
  have ec4 := cell_of_one e4
  have ef4 := free_of_one e4
  have zL := blk_lt l4
  have zE := blk_lt e4
  clear rd3
  have fin : ∀ w6, Fr (Three w.heap.size (w.heap.size + 1) (w.heap.size + 1 + 1)) w4 w6 → ParsePost R w (.returned (.tuple #[.agg #[.int .i64 x.op, .string x.name, .int .i64 x.n, .slice a len c], .int .i64 0, .int .i64 0])) w6 := by
    intro w6 hf6
    refine ⟨x, a, len, c, rfl, ?_, hR, ?_⟩
    · refine Rd.weak (F := Lt (w.heap.size + 3)) (fun b _ q => by simp only [Lt] at *; omega) _ _ ?_
      have h1 : Rd (Lt (w.heap.size + 3)) w3 x (.agg #[.int .i64 x.op, .string x.name, .int .i64 x.n, .slice a len c]) := Rd.weak (fun b _ q => by simp only [Lt] at *; simp; omega) _ _ Hrd.out
      exact ((h1.fr ((Fr.refl No w3).alloc _) (fun _ _ q => q.elim)).fr hf4 (fun _ _ q => q.elim)).fr hf6 (fun b _ q => by simp only [Three] at q; simp only [Lt]; omega)
    · exact (((hfw3.alloc _).trans hf4).trans' hf6 (fun i hi q => by simp only [Three] at q; omega))
  have Hfin := Lib.hid fin
  clear fin
  go_wp2_with fail
  have hfs := Fr.set4 (Fr.refl (Only w.heap.size) w4) (.int .i64 x.op) (.string x.name) (.int .i64 x.n) (.slice a len c)
  have o5 := blk_set (o := 3) (.slice a len c) (blk_set (o := 2) (.int .i64 x.n) (blk_set (o := 1) (.string x.name) (blk_set (o := 0) (.int .i64 x.op) o4)))
  have l5 := hfs.blk l4 (by simp only [Only]; omega)
  have e5 := hfs.blk e4 (by simp only [Only]; omega)
  generalize ((((w4.setCell ⟨w.heap.size, 0, none⟩ (.int .i64 x.op)).setCell ⟨w.heap.size, 1, none⟩ (.string x.name)).setCell ⟨w.heap.size, 2, none⟩ (.int .i64 x.n)).setCell ⟨w.heap.size, 3, none⟩ (.slice a len c)) = w5 at *
  have hA : Fr (Three w.heap.size (w.heap.size + 1) (w.heap.size + 1 + 1)) w4 w5 := hfs.mono (fun _ _ q => Or.inl q)
  have hB : Fr (Three w.heap.size (w.heap.size + 1) (w.heap.size + 1 + 1)) w4 ((w5.setCell ⟨w.heap.size + 1, 0, none⟩ (.int .i64 0)).setCell ⟨w.heap.size + 1 + 1, 0, none⟩ (.int .i64 0)) :=
    (hA.setCell (p := ⟨w.heap.size + 1, 0, none⟩) (Or.inl (show Three w.heap.size (w.heap.size + 1) (w.heap.size + 1 + 1) (w.heap.size + 1) from Or.inr (Or.inl rfl))) _).setCell (p := ⟨w.heap.size + 1 + 1, 0, none⟩) (Or.inl (show Three w.heap.size (w.heap.size + 1) (w.heap.size + 1 + 1) (w.heap.size + 1 + 1) from Or.inr (Or.inr rfl))) _
  have o6 := blk_set_other (c := w.heap.size + 1 + 1) (o := 0) (.int .i64 0) (blk_set_other (c := w.heap.size + 1) (o := 0) (.int .i64 0) o5 (by omega)) (by omega)
  have l6 := blk_set_other (c := w.heap.size + 1 + 1) (o := 0) (.int .i64 0) (blk_set (o := 0) (.int .i64 0) l5) (by omega)
  have e6 := blk_set (o := 0) (.int .i64 0) (blk_set_other (c := w.heap.size + 1) (o := 0) (.int .i64 0) e5 (by omega))
  generalize ((w5.setCell ⟨w.heap.size + 1, 0, none⟩ (.int .i64 0)).setCell ⟨w.heap.size + 1 + 1, 0, none⟩ (.int .i64 0)) = w6 at *
  refine leaves_cons (f := 19) (args := #[.pointer (some ⟨w.heap.size, 0, none⟩), .pointer (some ⟨w.heap.size + 1, 0, none⟩), .pointer (some ⟨w.heap.size + 1 + 1, 0, none⟩)]) (by simp) (by simp [go_sem]) ?_
  refine (parse_back _ _ _ _).mono ?_
  rintro e u' w7 ⟨rfl, rfl, hf7⟩
  have o7 := hf7.blk o6 (fun q => q)
  have l7 := hf7.blk l6 (fun q => q)
  have e7 := hf7.blk e6 (fun q => q)
  have k0 := blk_cell (o := 0) o7 rfl
  have k1 := blk_cell (o := 1) o7 rfl
  have k2 := blk_cell (o := 2) o7 rfl
  have k3 := blk_cell (o := 3) o7 rfl
  have kl := blk_cell (o := 0) l7 rfl
  have ke := blk_cell (o := 0) e7 rfl
  have fin := Hfin.out _ (hB.transNo hf7)
  simp [Leaves, settle, results, Tryz.results8, go_sem, k0, k1, k2, k3, kl, ke]
  exact fin
end Go.Proofs.YtngkobejdjjeeaaGreatDoor
