/- cexpr over a row of operators between ones. -/
import Derived.Test.YtngkobejdjjeeaaGreatDoorA7
set_option linter.unusedSimpArgs false
set_option linter.unusedVariables false
namespace Go.Proofs.YtngkobejdjjeeaaGreatDoor
open Go.RowKit

theorem Chain.noAssign {l : List Tok} {ks : List Nat} (h : Chain l ks) : isTok (tokAt l 1) 7 assignSigns = false := by
  rcases ks with _ | ⟨k, ks⟩
  · have := h.over
    simp only [List.length_nil, Nat.mul_zero, Nat.zero_add] at this
    rw [this]
    simp [isTok, Tok.over]
  · have h2 := (h.sgn 0 k rfl).2
    have h9 := h.ops k (by simp)
    rw [Nat.mul_zero, Nat.zero_add] at h2
    have : ∀ k, k < 9 → Lib.containsS assignSigns (opText k) = false := by decide
    simp [isTok, h2, this k h9]

/-- What a function of the parser leaves that hands back a node: a node that R holds of, in new memory, the parser in the state st'. -/
def NodePost (p T n cap s : Nat) (line : Int) (l : List Tok) (R : Nod → Prop) (st' : St) (w : World) (e : Ending) (w' : World) : Prop :=
  ∃ (x : Nod) (a : Option Addr) (len c : Nat), e = .returned (.agg #[.int .i64 x.op, .string x.name, .int .i64 x.n, .slice a len c]) ∧
    Rd (Lt w.heap.size) w' x (.agg #[.int .i64 x.op, .string x.name, .int .i64 x.n, .slice a len c]) ∧ R x ∧ Ps p T n cap s line l st' w' ∧ Fr (Only p) w w'

/-- What cexpr leaves: the tree of the whole row in new memory, the parser behind it. -/
def CexprPost (p T n cap s : Nat) (line : Int) (l : List Tok) (ks : List Nat) (st : St) : World → Ending → World → Prop :=
  NodePost p T n cap s line l (IsT ks) { st with i := 2 * ks.length + 1, first := -1, cmd := false }

/-- A result's variable takes its value at the end: the tree goes on to be read. -/
theorem node_end {p T n cap s : Nat} {line : Int} {l : List Tok} {R : Nod → Prop} {st' : St} {w w0 w1 w2 : World} {x : Nod} {a : Option Addr} {len c : Nat} (hp : p < w.heap.size) (hT : T < w.heap.size)
    (h0 : Fr (Only p) w w0) (hz0 : w.heap.size < w0.heap.size)
    (hrd : Rd (Lt w0.heap.size) w1 x (.agg #[.int .i64 x.op, .string x.name, .int .i64 x.n, .slice a len c])) (hR : R x) (hf1 : Fr (Only p) w0 w1) (hf2 : Fr (Only p) w1 w2)
    (h2 : Ps p T n cap s line l st' w2) :
    NodePost p T n cap s line l R st' w (.returned (.agg #[.int .i64 x.op, .string x.name, .int .i64 x.n, .slice a len c]))
      ((((w2.setCell ⟨w.heap.size, 0, none⟩ (.int .i64 x.op)).setCell ⟨w.heap.size, 1, none⟩ (.string x.name)).setCell ⟨w.heap.size, 2, none⟩ (.int .i64 x.n)).setCell ⟨w.heap.size, 3, none⟩ (.slice a len c)) := by
  have hfx := Fr.set4 (Fr.refl (Only w.heap.size) w2) (.int .i64 x.op) (.string x.name) (.int .i64 x.n) (.slice a len c)
  refine ⟨x, a, len, c, rfl, ?_, hR, ?_, ?_⟩
  · refine Rd.weak (F := Lt w0.heap.size) (fun b _ q => by simp only [Lt] at *; omega) _ _ ?_
    exact (hrd.fr hf2 (fun b _ q => by simp only [Only] at q; simp only [Lt]; omega)).fr hfx (fun b _ q => by simp only [Only] at q; simp only [Lt]; omega)
  · exact h2.fr hfx (by simp only [Only]; omega) (by simp only [Only]; omega)
  · exact (((h0.trans hf1).trans hf2).trans' hfx (fun i hi q => by simp only [Only] at q; omega))

set_option maxHeartbeats 1000000 in
theorem cexpr_chain (p T n cap s : Nat) (line : Int) (l : List Tok) (ks : List Nat) (hc : Chain l ks) (st : St) (hi : st.i = 0) (htgt : st.tgt = -1) (w : World) (h : Ps p T n cap s line l st w) :
    Calls Tryz.prog 145 #[.pointer (some ⟨p, 0, none⟩)] w (CexprPost p T n cap s line l ks st w) := by
  have ha := fun w h => assigns_no p T n cap s line l st w h (by rw [hi]; exact hc.noAssign)
  have hex := fun w h => expr_chain p T n cap s line l ks hc { st with first := 0, cmd := false } hi rfl w h
  have hp := h.lt
  have hT := h.hT
  have Hi := Lib.hid hi
  have Htg := Lib.hid htgt
  clear hi htgt
  go_enter Tryz.func145, Tryz.ntmps145
  go_wp2_with fail
  refine (ha _ (h.alloc _)).mono ?_
  rintro e w1 ⟨rfl, hf1⟩
  have h1 := ((h.alloc _).frNo hf1)
  have hp1 := h1.lt
  have c1 := h1.c1
  rw [Hi.out] at c1
  have f5 := h1.fz 5
  have c5 := h1.c5
  have f6 := h1.fz 6
  have c6 := h1.c6
  have b1 := hf1.blk (blk_new w _) (fun q => q)
  have hz1 := blk_lt b1
  have hps2 : ∀ o, Ps p T n cap s line l { st with first := 0, cmd := false } (((w1.setCell ⟨p, 5, none⟩ (.int .i64 0)).setCell ⟨p, 6, none⟩ (.bool false)).alloc o) := fun o =>
    ((h1.set (st' := { st with first := 0 }) h1.hi rfl).set (st' := { st with first := 0, cmd := false }) h1.hi rfl).alloc o
  have hfr2 : ∀ o, Fr (Only p) w (((w1.setCell ⟨p, 5, none⟩ (.int .i64 0)).setCell ⟨p, 6, none⟩ (.bool false)).alloc o) := fun o =>
    ((((Fr.refl _ _).alloc _).transNo hf1).setOnly _).setOnly _ |>.alloc _
  have b2 : ∀ o, (((w1.setCell ⟨p, 5, none⟩ (.int .i64 0)).setCell ⟨p, 6, none⟩ (.bool false)).alloc o).heap[w.heap.size]? = some (.cells #[.int .i64 0, .string ⟨#[]⟩, .int .i64 0, .slice none 0 0] 27 (0, 0)) := fun o =>
    blk_alloc _ (blk_set_other _ (blk_set_other _ b1 (by omega)) (by omega))
  go_wp2_with fail
  refine (hex _ (hps2 _)).mono ?_
  rintro e w3 ⟨x, a, len, c, rfl, hrd, hT1, h3, hf3⟩
  obtain ⟨N, hN⟩ : ∃ N, N = 2 * ks.length + 1 := ⟨_, rfl⟩
  have hp3 := h3.lt
  have k1 := h3.c1
  have k5 := h3.c5
  have k6 := h3.c6
  have k7 := h3.c7
  simp only [← hN, Htg.out] at k1 k7
  have q5 := h3.fz 5
  have b3 := hf3.blk (b2 _) (not_only hp)
  obtain ⟨g0, g1, g2, g3, r0, r1, r2, r3, hz3⟩ := cells4 b3
  have hne : ((-1 : Int) == (N : Int)) = false := by rw [beq_eq_false_iff_ne]; omega
  have hlt3 := hf3.size
  simp [World.setCell] at hlt3
  have hps4 : Ps p T n cap s line l { st with i := N, first := -1, cmd := false } (w3.setCell ⟨p, 5, none⟩ (.int .i64 (-1))) := h3.set (st' := { st with i := N, first := -1, cmd := false }) (by show N ≤ n; rw [hN]; exact h3.hi) (by subst hN; rfl)
  have fin := fun (w2 : World) (hf2 : Fr (Only p) w3 w2) (h2 : Ps p T n cap s line l { st with i := N, first := -1, cmd := false } w2) => show CexprPost p T n cap s line l ks st w _ _ from node_end (st' := { st with i := 2 * ks.length + 1, first := -1, cmd := false }) (w2 := w2) hp hT (hfr2 _) (by simp [World.setCell]; omega) hrd hT1 hf3 hf2 (by subst hN; exact h2)
  have Hfin := Lib.hid fin
  clear fin hrd hT1 hN hps2 hfr2 b2
  by_cases h17 : x.op = 17
  · have h17' : (x.op == 17) = true := by simp [h17]
    clear h17
    go_wp2_with fail
    go_quiet (fail)
    go_wp2_with fail
    refine bodyPost_ret (v := .agg #[.int .i64 x.op, .string x.name, .int .i64 x.n, .slice a len c]) ?_ rfl (Hfin.out _ ?_ ?_)
    · simp [results, Tryz.results145, go_sem, g0, g1, g2, g3, hz3]
    · (repeat (first | with_reducible exact Fr.refl _ _ | with_reducible assumption | with_reducible refine Fr.drewN ?_ _ | with_reducible refine Fr.drew ?_ | with_reducible refine Fr.alloc ?_ _ | with_reducible refine Fr.setNew ?_ (by first | omega | (simp; omega)) _ | with_reducible refine Fr.setOnly ?_ _ | with_reducible refine Fr.trans ?_ (by with_reducible assumption) | with_reducible refine Fr.transNo ?_ (by with_reducible assumption)))
    · (repeat (first | with_reducible assumption | with_reducible refine Ps.drewN ?_ _ | with_reducible refine Ps.drew ?_ | with_reducible refine Ps.alloc ?_ _ | with_reducible refine Ps.put ?_ (by omega) (by omega) _ | with_reducible refine Ps.frNo ?_ (by with_reducible assumption)))
  · have h17' : (x.op == 17) = false := by simp [h17]
    clear h17
    go_wp2_with fail
    go_quiet (fail)
    go_wp2_with fail
    refine bodyPost_ret (v := .agg #[.int .i64 x.op, .string x.name, .int .i64 x.n, .slice a len c]) ?_ rfl (Hfin.out _ ?_ ?_)
    · simp [results, Tryz.results145, go_sem, g0, g1, g2, g3, hz3]
    · (repeat (first | with_reducible exact Fr.refl _ _ | with_reducible assumption | with_reducible refine Fr.drewN ?_ _ | with_reducible refine Fr.drew ?_ | with_reducible refine Fr.alloc ?_ _ | with_reducible refine Fr.setNew ?_ (by first | omega | (simp; omega)) _ | with_reducible refine Fr.setOnly ?_ _ | with_reducible refine Fr.trans ?_ (by with_reducible assumption) | with_reducible refine Fr.transNo ?_ (by with_reducible assumption)))
    · (repeat (first | with_reducible assumption | with_reducible refine Ps.drewN ?_ _ | with_reducible refine Ps.drew ?_ | with_reducible refine Ps.alloc ?_ _ | with_reducible refine Ps.put ?_ (by omega) (by omega) _ | with_reducible refine Ps.frNo ?_ (by with_reducible assumption)))
end Go.Proofs.YtngkobejdjjeeaaGreatDoor
