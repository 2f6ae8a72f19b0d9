/- binary, over a row of operators between ones. -/
import Derived.Test.YtngkobejdjjeeaaGreatDoorP0
import Derived.Deep.LoopGhost
import Derived.Deep.DeepFit
set_option linter.unusedSimpArgs false
set_option linter.unusedVariables false
namespace Go.Proofs.YtngkobejdjjeeaaGreatDoor
open Go.RowKit

/-- All blocks below B. -/
def Lt (B : Nat) : Nat → Prop := fun b => b < B

/-- What binary of a level leaves, at the number j: m operators read, their tree in new memory. -/
def BinPost (p T n cap s : Nat) (line : Int) (l : List Tok) (ks : List Nat) (j lev : Nat) (st : St) (w : World) (e : Ending) (w' : World) : Prop :=
  ∃ (m : Nat) (x : Nod) (a : Option Addr) (len c : Nat), e = .returned (.agg #[.int .i64 x.op, .string x.name, .int .i64 x.n, .slice a len c]) ∧
    Rd (Lt w.heap.size) w' x (.agg #[.int .i64 x.op, .string x.name, .int .i64 x.n, .slice a len c]) ∧ IsT ((ks.drop j).take m) x ∧ j + m ≤ ks.length ∧
    (∀ y ∈ (ks.drop j).take m, lev ≤ rank y) ∧ (∀ y, ks[j + m]? = some y → rank y < lev) ∧ Ps p T n cap s line l { st with i := 2 * (j + m) + 1 } w' ∧ Fr (Only p) w w'

theorem binary8 (p T n cap s : Nat) (line : Int) (l : List Tok) (ks : List Nat) (hc : Chain l ks) (j : Nat) (hj : j ≤ ks.length) (st : St) (hi : st.i = 2 * j) (hcmd : st.cmd = false) (L : Int) (hL : L = 8)
    (w : World) (h : Ps p T n cap s line l st w) : Calls Tryz.prog 147 #[.pointer (some ⟨p, 0, none⟩), .int .i64 L] w (BinPost p T n cap s line l ks j 8 st w) := by
  have hL' : L > 7 := by omega
  clear hL
  have hu := fun w h => unary_num p T n cap s line l st w h 1 (by rw [hi]; exact hc.num j hj) hcmd (by rw [hi]; exact hc.noTail hj)
  have hp := h.lt
  have hT := h.hT
  have fin : ∀ w', Ps p T n cap s line l st.next w' → Fr (Only p) w w' → BinPost p T n cap s line l ks j 8 st w (.returned (.agg #[.int .i64 4, .string ⟨#[]⟩, .int .i64 1, .slice none 0 0])) w' := by
    intro w' hps hfr
    refine ⟨0, .mk 4 ⟨#[]⟩ 1 [], none, 0, 0, rfl, Rd.mk Kid.nil rfl (Nat.le_refl _), ?_, by omega, by simp, ?_, ?_, hfr⟩
    · rw [List.take_zero]; exact IsT.one
    · intro y _; have := rank_le y; omega
    · have e : st.next = { st with i := 2 * (j + 0) + 1 } := by simp [St.next, hi]
      rw [← e]; exact hps
  have Hi := Lib.hid hi
  have Hc := Lib.hid hcmd
  clear hi hcmd
  go_enter Tryz.func147, Tryz.ntmps147
  go_wp2_with fail
  refine (hu _ (h.alloc _)).mono ?_
  rintro e w1 ⟨rfl, h1, hf1⟩
  have b1 := hf1.blk (blk_new w _) (not_only hp)
  obtain ⟨g0, g1, g2, g3, q0, q1, q2, q3, hz⟩ := cells4 b1
  go_wp2_with fail
  refine bodyPost_ret (v := .agg #[.int .i64 4, .string ⟨#[]⟩, .int .i64 1, .slice none 0 0]) ?_ rfl (fin _ ?_ ?_)
  · simp [results, Tryz.results147, go_sem, g0, g1, g2, g3]
  · (repeat (first | with_reducible assumption | with_reducible refine Ps.drewN ?_ _ | with_reducible refine Ps.drew ?_ | with_reducible refine Ps.alloc ?_ _ | with_reducible refine Ps.put ?_ (by omega) (by omega) _ | with_reducible refine Ps.frNo ?_ (by with_reducible assumption)))
  · (repeat (first | with_reducible exact Fr.refl _ _ | with_reducible assumption | with_reducible refine Fr.drewN ?_ _ | with_reducible refine Fr.drew ?_ | with_reducible refine Fr.alloc ?_ _ | with_reducible refine Fr.setNew ?_ (by first | omega | (simp; omega)) _ | with_reducible refine Fr.setOnly ?_ _ | with_reducible refine Fr.trans ?_ (by with_reducible assumption) | with_reducible refine Fr.transNo ?_ (by with_reducible assumption)))

/-- Two nodes, side by side in a new row. -/
theorem rd_pair {F : Nat → Prop} {w : World} {K la ca lb cb : Nat} {t : TypeId} {fr : Nat × Nat} {x y : Nod} {a b : Option Addr}
    (hK : w.heap[K]? = some (.cells #[.int .i64 x.op, .string x.name, .int .i64 x.n, .slice a la ca, .int .i64 y.op, .string y.name, .int .i64 y.n, .slice b lb cb] t fr)) (hF : ¬ F K)
    (hx : Rd F w x (.agg #[.int .i64 x.op, .string x.name, .int .i64 x.n, .slice a la ca])) (hy : Rd F w y (.agg #[.int .i64 y.op, .string y.name, .int .i64 y.n, .slice b lb cb])) :
    Kid F w [x, y] (some ⟨K, 0, none⟩) :=
  Kid.cons hF (blk_lt hK) (blk_cell hK rfl) (blk_cell hK rfl) (blk_cell hK rfl) (blk_cell hK rfl) hx
    (Kid.cons hF (blk_lt hK) (blk_cell hK rfl) (blk_cell hK rfl) (blk_cell hK rfl) (blk_cell hK rfl) hy Kid.nil)

/-- Old blocks, and the variable left. -/
def OldOr (B Lb : Nat) : Nat → Prop := fun b => b < B ∨ b = Lb
/-- The parser's block, and the variable left. -/
def Two (p Lb : Nat) : Nat → Prop := fun b => b = p ∨ b = Lb

/-- What the loop of binary goes round with: m operators read so far, their tree in the variable left. -/
def BinLoop (p T n cap s : Nat) (line : Int) (l : List Tok) (ks : List Nat) (j lev : Nat) (st : St) (w : World) (Lb : Nat) (k : Nat) (wr : World) : Prop :=
  ∃ (m : Nat) (x : Nod) (a : Option Addr) (len c : Nat), wr.heap[Lb]? = some (.cells #[.int .i64 x.op, .string x.name, .int .i64 x.n, .slice a len c] 27 (0, 0)) ∧
    Rd (OldOr (w.heap.size + 1) Lb) wr x (.agg #[.int .i64 x.op, .string x.name, .int .i64 x.n, .slice a len c]) ∧ IsT ((ks.drop j).take m) x ∧ j + m ≤ ks.length ∧
    (∀ y ∈ (ks.drop j).take m, lev ≤ rank y) ∧ (∀ y, ks[j + m]? = some y → rank y ≤ lev) ∧ Ps p T n cap s line l { st with i := 2 * (j + m) + 1 } wr ∧ Fr (Two p Lb) w wr ∧ k + (j + m) = ks.length ∧
    wr.heap[w.heap.size]? = some (.cells #[.int .i64 0, .string ⟨#[]⟩, .int .i64 0, .slice none 0 0] 27 (0, 0))

/-- The way out of the loop. -/
theorem bin_out {p T n cap s : Nat} {line : Int} {l : List Tok} {ks : List Nat} {j lev : Nat} {st : St} {w wr w3 : World} {Lb m : Nat} {x : Nod} {a : Option Addr} {len c : Nat} (hp : p < w.heap.size) (hT : T < w.heap.size) (hLw : w.heap.size < Lb)
    (hrd : Rd (OldOr (w.heap.size + 1) Lb) wr x (.agg #[.int .i64 x.op, .string x.name, .int .i64 x.n, .slice a len c])) (hT1 : IsT ((ks.drop j).take m) x) (hm : j + m ≤ ks.length)
    (hall : ∀ y ∈ (ks.drop j).take m, lev ≤ rank y) (h1 : Ps p T n cap s line l { st with i := 2 * (j + m) + 1 } wr) (hf1 : Fr (Two p Lb) w wr) (hf3 : Fr No wr w3) (hn3 : ∀ y, ks[j + m]? = some y → rank y < lev) :
    BinPost p T n cap s line l ks j lev st w (.returned (.agg #[.int .i64 x.op, .string x.name, .int .i64 x.n, .slice a len c]))
      ((((w3.setCell ⟨w.heap.size, 0, none⟩ (.int .i64 x.op)).setCell ⟨w.heap.size, 1, none⟩ (.string x.name)).setCell ⟨w.heap.size, 2, none⟩ (.int .i64 x.n)).setCell ⟨w.heap.size, 3, none⟩ (.slice a len c)) := by
  have hfx := Fr.set4 (Fr.refl (Only w.heap.size) w3) (.int .i64 x.op) (.string x.name) (.int .i64 x.n) (.slice a len c)
  have h3 := h1.frNo hf3
  refine ⟨m, x, a, len, c, rfl, ?_, hT1, hm, hall, hn3, h3.fr hfx (by simp only [Only]; omega) (by simp only [Only]; omega), ?_⟩
  · refine Rd.weak (F := OldOr (w.heap.size + 1) Lb) (fun b _ q => Or.inl (by simp only [Lt] at q; omega)) _ _ ?_
    exact (hrd.fr hf3 (fun _ _ q => q.elim)).fr hfx (fun b _ q => Or.inl (by simp only [Only] at q; omega))
  · have hf13 : Fr (Two p Lb) w w3 := hf1.transNo hf3
    exact (hf13.trans' hfx (fun i hi q => by simp only [Only] at q; omega)).mono (fun i hi q => by simp only [Two] at q; simp only [Only]; omega)

theorem take_step {ks : List Nat} {j m m' y : Nat} (hy : ks[j + m]? = some y) : (ks.drop j).take (m + 1 + m') = (ks.drop j).take m ++ y :: (ks.drop (j + m + 1)).take m' := by
  have h1 : (ks.drop j).take (m + 1 + m') = (ks.drop j).take m ++ ((ks.drop j).drop m).take (1 + m') := by
    rw [show m + 1 + m' = m + (1 + m') from by omega, List.take_add]
  rw [h1, List.drop_drop, show 1 + m' = m' + 1 from by omega]
  have hlt : j + m < ks.length := (List.getElem?_eq_some_iff.1 hy).1
  have hg : ks[j + m] = y := (List.getElem?_eq_some_iff.1 hy).2
  rw [List.drop_eq_getElem_cons hlt, hg, List.take_succ_cons]

theorem rank2 (z : Nat) (h : rank z = 2) : z = 2 := by
  unfold rank at h
  split at h <;> omega

/-- Behind an == the next operator is looser than it. -/
theorem eq_next {ks : List Nat} (he : EqOk ks) {a y m' : Nat} (hy : ks[a]? = some y) (hr : rank y = 2) (hall : ∀ z ∈ (ks.drop (a + 1)).take m', 2 + 1 ≤ rank z) (hn : ∀ z, ks[a + 1 + m']? = some z → rank z < 2 + 1) :
    ∀ z, ks[a + 1 + m']? = some z → rank z < 2 := by
  intro z hz
  have h3 := hn z hz
  rcases Nat.lt_or_ge (rank z) 2 with h | h
  · exact h
  · exfalso
    have e1 := rank2 z (by omega)
    have e2 := rank2 y hr
    subst e1 e2
    obtain ⟨i, x, h1, h2, h4, h5⟩ := he a (a + 1 + m') (by omega) hy hz
    have : x ∈ (ks.drop (a + 1)).take m' := by
      rw [List.mem_iff_getElem?]
      refine ⟨i - (a + 1), ?_⟩
      rw [List.getElem?_take_of_lt (by omega), List.getElem?_drop, show a + 1 + (i - (a + 1)) = i from by omega]
      exact h4
    have := hall x this
    omega

theorem op_case (y : Nat) (hy : y < 9) : y = 0 ∨ y = 1 ∨ (2 ≤ y ∧ ((opText y).toList == [124, 124]) = false ∧ ((opText y).toList == [38, 38]) = false ∧ ((opText y).toList == [33, 61]) = false ∧ opOf y = 17 ∧ nameOf y = opText y) := by
  rcases y with _ | _ | _ | _ | _ | _ | _ | _ | _ | y
  all_goals first
    | omega
    | (left; rfl)
    | (right; left; rfl)
    | (right; right; exact ⟨by omega, by simp [opText], by simp [opText], by simp [opText], rfl, rfl⟩)

/-- A round: the operator y and its right operand are read. -/
theorem bin_step {p T n cap s : Nat} {line : Int} {l : List Tok} {ks : List Nat} {j lev : Nat} {st : St} {w wr w4 w5 w6 : World} {Lb m y m' : Nat} {x x' : Nod} {a a' : Option Addr} {len c len' c' : Nat} (hp : p < w.heap.size) (hT : T < w.heap.size) (hLw : w.heap.size < Lb)
    (bL : wr.heap[Lb]? = some (.cells #[.int .i64 x.op, .string x.name, .int .i64 x.n, .slice a len c] 27 (0, 0)))
    (hrd : Rd (OldOr (w.heap.size + 1) Lb) wr x (.agg #[.int .i64 x.op, .string x.name, .int .i64 x.n, .slice a len c])) (hT1 : IsT ((ks.drop j).take m) x)
    (hall : ∀ y ∈ (ks.drop j).take m, lev ≤ rank y) (hf1 : Fr (Two p Lb) w wr)
    (bR : wr.heap[w.heap.size]? = some (.cells #[.int .i64 0, .string ⟨#[]⟩, .int .i64 0, .slice none 0 0] 27 (0, 0)))
    (hy : ks[j + m]? = some y) (hr : rank y = lev)
    (hf4 : Fr (Only p) wr w4) (hf5 : Fr (Only p) w4 w5)
    (hrd' : Rd (Lt w4.heap.size) w5 x' (.agg #[.int .i64 x'.op, .string x'.name, .int .i64 x'.n, .slice a' len' c'])) (hT' : IsT ((ks.drop (j + m + 1)).take m') x') (hm' : j + m + 1 + m' ≤ ks.length)
    (hall' : ∀ y ∈ (ks.drop (j + m + 1)).take m', lev + 1 ≤ rank y) (hnext' : ∀ y, ks[j + m + 1 + m']? = some y → rank y < lev + 1)
    (h5 : Ps p T n cap s line l { st with i := 2 * (j + m + 1 + m') + 1 } w5)
    (hf6 : Fr No ((w5.alloc (.cells #[.int .i64 x'.op, .string x'.name, .int .i64 x'.n, .slice a' len' c'] 27)).alloc (.cells #[.int .i64 x.op, .string x.name, .int .i64 x.n, .slice a len c, .int .i64 x'.op, .string x'.name, .int .i64 x'.n, .slice a' len' c'] 27)) w6) :
    BinLoop p T n cap s line l ks j lev st w Lb (ks.length - (j + m + 1 + m'))
      ((((w6.setCell ⟨Lb, 0, none⟩ (.int .i64 (opOf y))).setCell ⟨Lb, 1, none⟩ (.string (nameOf y))).setCell ⟨Lb, 2, none⟩ (.int .i64 0)).setCell ⟨Lb, 3, none⟩ (.slice (some ⟨w5.heap.size + 1, 0, none⟩) 2 2)) := by
  have hLs := blk_lt bL
  have hz4 := hf4.size
  have hz5 := hf5.size
  have hz6 := hf6.size
  simp at hz6
  have hf56 : Fr No w5 w6 := (((Fr.refl No w5).alloc _).alloc _).trans hf6
  have hf46 : Fr (Only p) w4 w6 := hf5.transNo hf56
  have hf16 : Fr (Only p) wr w6 := hf4.trans hf46
  have hfx := Fr.set4 (Fr.refl (Only Lb) w6) (.int .i64 (opOf y)) (.string (nameOf y)) (.int .i64 0) (.slice (some ⟨w5.heap.size + 1, 0, none⟩) 2 2)
  have bL6 := hf16.blk bL (by simp only [Only]; omega)
  have bR6 := hf16.blk bR (by simp only [Only]; omega)
  have bK6 := hf6.blk (blk_newAt (w := w5.alloc (.cells #[.int .i64 x'.op, .string x'.name, .int .i64 x'.n, .slice a' len' c'] 27)) (k := w5.heap.size + 1) (by simp) (.cells #[.int .i64 x.op, .string x.name, .int .i64 x.n, .slice a len c, .int .i64 x'.op, .string x'.name, .int .i64 x'.n, .slice a' len' c'] 27)) (fun q => q)
  have bKx := hfx.blk bK6 (by simp only [Only]; omega)
  have h6 := h5.frNo hf56
  refine ⟨m + 1 + m', .mk (opOf y) (nameOf y) 0 [x, x'], some ⟨w5.heap.size + 1, 0, none⟩, 2, 2, ?_, ?_, ?_, by omega, ?_, ?_, ?_, ?_, by omega, ?_⟩
  · exact blk_set _ (blk_set _ (blk_set _ (blk_set _ bL6)))
  · refine Rd.mk ?_ rfl (Nat.le_refl _)
    have hx1 : Rd (OldOr (w.heap.size + 1) Lb) w6 x (.agg #[.int .i64 x.op, .string x.name, .int .i64 x.n, .slice a len c]) := hrd.fr hf16 (fun b _ q => Or.inl (by simp only [Only] at q; omega))
    have hx2 := hx1.fr hfx (fun b _ q => Or.inr q)
    have hy1 : Rd (Lt w4.heap.size) w6 x' (.agg #[.int .i64 x'.op, .string x'.name, .int .i64 x'.n, .slice a' len' c']) := hrd'.fr hf56 (fun _ _ q => q.elim)
    have hy2 := hy1.fr hfx (fun b _ q => by simp only [Only] at q; simp only [Lt]; omega)
    have hy3 := Rd.weak (F' := OldOr (w.heap.size + 1) Lb) (fun b _ q => by rcases q with q | q <;> simp only [Lt] <;> omega) _ _ hy2
    exact rd_pair bKx (by rintro (q | q) <;> omega) hx2 hy3
  · rw [take_step hy]
    exact IsT.op (fun z hz => by rw [hr]; exact hall z hz) (fun z hz => by rw [hr]; have := hall' z hz; omega) hT1 hT'
  · intro z hz
    rw [take_step hy] at hz
    rcases List.mem_append.1 hz with hz | hz
    · exact hall z hz
    · rcases List.mem_cons.1 hz with hz | hz
      · subst hz; omega
      · have := hall' z hz; omega
  · intro z hz
    have := hnext' z (by rw [show j + m + 1 + m' = j + (m + 1 + m') from by omega]; exact hz)
    omega
  · have e : j + (m + 1 + m') = j + m + 1 + m' := by omega
    rw [e]
    exact h6.fr hfx (by simp only [Only]; omega) (by simp only [Only]; omega)
  · have a1 : Fr (Two p Lb) w w6 := hf1.trans' hf16 (fun i _ q => Or.inl q)
    exact a1.trans' hfx (fun i _ q => Or.inr q)
  · exact hfx.blk bR6 (by simp only [Only]; omega)

/-- The loop left by break. -/
theorem bin_break {p T n cap s : Nat} {line : Int} {l : List Tok} {ks : List Nat} {j lev : Nat} {st : St} {w wf : World} {Lb k : Nat} {o nn : Int} {nm : ByteArray} {a : Option Addr} {len c : Nat} (hp : p < w.heap.size) (hT : T < w.heap.size) (hLw : w.heap.size < Lb)
    (hb : BinLoop p T n cap s line l ks j lev st w Lb k wf) (hc : wf.heap[Lb]? = some (.cells #[.int .i64 o, .string nm, .int .i64 nn, .slice a len c] 27 (0, 0)))
    (hn : ∀ m, k + (j + m) = ks.length → ∀ z, ks[j + m]? = some z → rank z < lev) :
    BinPost p T n cap s line l ks j lev st w (.returned (.agg #[.int .i64 o, .string nm, .int .i64 nn, .slice a len c]))
      ((((wf.setCell ⟨w.heap.size, 0, none⟩ (.int .i64 o)).setCell ⟨w.heap.size, 1, none⟩ (.string nm)).setCell ⟨w.heap.size, 2, none⟩ (.int .i64 nn)).setCell ⟨w.heap.size, 3, none⟩ (.slice a len c)) := by
  obtain ⟨m, x, a', len', c', bL, hrd, hT1, hm, hall, _, h1, hf1, hk, _⟩ := hb
  rw [hc] at bL
  simp only [Option.some.injEq, Obj.cells.injEq, Array.mk.injEq, List.cons.injEq, Value.int.injEq, Value.string.injEq, Value.slice.injEq, true_and, and_true] at bL
  obtain ⟨rfl, rfl, rfl, rfl, rfl, rfl⟩ := bL
  exact bin_out hp hT hLw hrd hT1 hm hall h1 hf1 (Fr.refl No wf) (hn m hk)

set_option maxHeartbeats 4000000 in
theorem binary_lev (p T n cap s : Nat) (line : Int) (l : List Tok) (ks : List Nat) (hc : Chain l ks) (lev : Nat) (hlev : lev ≤ 7)
    (ih : ∀ (j : Nat), j ≤ ks.length → ∀ (st : St), st.i = 2 * j → st.cmd = false → ∀ (L : Int), L = (lev + 1 : Nat) → ∀ (w : World), Ps p T n cap s line l st w → Calls Tryz.prog 147 #[.pointer (some ⟨p, 0, none⟩), .int .i64 L] w (BinPost p T n cap s line l ks j (lev + 1) st w))
    (j : Nat) (hj : j ≤ ks.length) (st : St) (hi : st.i = 2 * j) (hcmd : st.cmd = false) (w : World) (h : Ps p T n cap s line l st w) :
    Calls Tryz.prog 147 #[.pointer (some ⟨p, 0, none⟩), .int .i64 lev] w (BinPost p T n cap s line l ks j lev st w) := by
  have hp := h.lt
  have hT := h.hT
  have hlev' : (lev : Int) ≤ 7 := by omega
  have hl0 : (0 : Int) ≤ lev := by omega
  have Hi := Lib.hid hi
  have Hc := Lib.hid hcmd
  clear hi hcmd
  go_enter Tryz.func147, Tryz.ntmps147
  go_wp2_with fail
  refine (ih j hj st Hi.out Hc.out _ (by omega) _ (h.alloc _)).mono ?_
  rintro e w1 ⟨m, x, a, len, c, rfl, hrd, hT1, hm, hall, hnext, h1, hf1⟩
  have b1 := hf1.blk (blk_new w _) (not_only hp)
  have hz := blk_lt b1
  have hp1 := h1.lt
  go_wp2_with fail
  have start : BinLoop p T n cap s line l ks j lev st w w1.heap.size (ks.length - (j + m)) (w1.alloc (.cells #[.int .i64 x.op, .string x.name, .int .i64 x.n, .slice a len c] 27)) := by
    refine ⟨m, x, a, len, c, blk_new _ _, ?_, hT1, hm, fun y hy => by have := hall y hy; omega, fun y hy => by have := hnext y hy; omega, h1.alloc _, ?_, by omega, blk_alloc _ b1⟩
    · refine Rd.fr ((Fr.refl No _).alloc _) (fun _ _ q => q.elim) _ _ (Rd.weak ?_ _ _ hrd)
      intro b hb hF
      rcases hF with hF | hF
      · simp only [Lt]; simpa using hF
      · omega
    · exact (((Fr.refl _ _).alloc _).trans' hf1 (fun i _ q => Or.inl q)).alloc _
  obtain ⟨Lb, hLb⟩ : ∃ Lb, Lb = w1.heap.size := ⟨_, rfl⟩
  rw [← hLb] at start ⊢
  have hLw : w.heap.size < Lb := by omega
  clear hrd hT1 hall hnext b1 hf1 h1 hp1 hz hLb
  go_loopg [6] (ks.length - (j + m)) (fun k u6 wr => BinLoop p T n cap s line l ks j lev st w Lb k wr)
  case atStart => exact start
  case round =>
    obtain ⟨m, x, a, len, c, bL, hrd, hT1, hm, hall, hnext, h1, hf1, hk, bR⟩ := hrel
    have hp1 := h1.lt
    have hLs := blk_lt bL
    have hll : (levelOps lev).length ≤ 1000 := by unfold levelOps; split <;> simp
    have k6 : wr.cell? ⟨p, 6, none⟩ = some (.bool false) := by have := h1.c6; rw [show (St.mk (2 * (j + m) + 1) st.noDo st.first st.cmd st.tgt).cmd = false from Hc.out] at this; exact this
    have htok := hc.isLevel (j := j + m) hm (lev := lev) hlev
    rcases hy : ks[j + m]? with _ | y
    · rw [hy] at htok
      simp only at htok
      have Htok := Lib.hid htok
      have Hy := Lib.hid hy
      clear htok hy
      go_wp2_with fail
      refine (level_any lev hlev _).mono ?_
      rintro e w2 ⟨rfl, hs2, hz2, hf2⟩
      have h2 := h1.frNo hf2
      go_wp2_with fail
      refine (is_any p T n cap s line l _ 7 wr.heap.size _ _ (levelOps lev) _ h2 rfl hll hz2 hs2).mono ?_
      rintro e w3 ⟨rfl, hf3⟩
      rw [Htok.out]
      have hf13 : Fr No wr w3 := hf2.trans hf3
      obtain ⟨g0, g1, g2, g3, q0, q1, q2, q3, hz4⟩ := cells4 (hf13.blk bL (fun q => q))
      obtain ⟨m0, m1, m2, m3, r0, r1, r2, r3, hz5⟩ := cells4 (hf13.blk bR (fun q => q))
      go_wp2_with fail
      refine bodyPost_ret (v := .agg #[.int .i64 x.op, .string x.name, .int .i64 x.n, .slice a len c]) ?_ rfl (bin_out hp hT hLw hrd hT1 hm hall h1 hf1 hf13 (fun y q => by rw [Hy.out] at q; cases q))
      simp [results, Tryz.results147, go_sem, m0, m1, m2, m3]
    · rw [hy] at htok
      simp only at htok
      have hyl := hnext y hy
      by_cases hr : rank y = lev
      · have hj2 : j + m < ks.length := (List.getElem?_eq_some_iff.1 hy).1
        have hy9 : y < 9 := by
          have h' := hc.ops _ (List.getElem_mem hj2)
          rw [(List.getElem?_eq_some_iff.1 hy).2] at h'
          exact h'
        have htok' : isTok (tokAt l (2 * (j + m) + 1)) 7 (levelOps lev) = true := by rw [htok]; simp [hr]
        obtain ⟨hsk, hst⟩ := hc.sgn _ _ hy
        have hz0 := h1.lt
        have Hy := Lib.hid hy
        have Hr := Lib.hid hr
        have Hst := Lib.hid hst
        have Hsk := Lib.hid hsk
        have Htok := Lib.hid htok'
        clear htok hy hr hst hsk htok' hyl
        go_wp2_with fail
        refine (level_any lev hlev _).mono ?_
        rintro e w2 ⟨rfl, hs2, hz2, hf2⟩
        have h2 := h1.frNo hf2
        go_wp2_with fail
        refine (is_any p T n cap s line l _ 7 wr.heap.size _ _ (levelOps lev) _ h2 rfl hll hz2 hs2).mono ?_
        rintro e w3 ⟨rfl, hf3⟩
        have h3 := h2.frNo hf3
        rw [Htok.out]
        go_wp2_with fail
        refine (word_ok p T n cap s line l _ 7 w3 h3 (by omega) Hsk.out).mono ?_
        rintro e w4 ⟨rfl, h4, hf4⟩
        rw [Hst.out]
        rw [show ({ st with i := 2 * (j + m) + 1 } : St).next = { st with i := 2 * (j + m + 1) } from by simp only [St.next, St.mk.injEq, and_true]; omega] at h4
        have hf14 : Fr (Only p) wr w4 := ((Fr.refl (Only p) wr).transNo (hf2.trans hf3)).trans hf4
        go_wp2_with fail
        refine (ih (j + m + 1) (by omega) { st with i := 2 * (j + m + 1) } rfl Hc.out _ (by omega) _ h4).mono ?_
        rintro e w5 ⟨m', x', a', len', c', rfl, hrd', hT', hm', hall', hnext', h5, hf5⟩
        have hz4 := hf14.size
        have hz5 := hf5.size
        have hz5' : Lb < w5.heap.size := by omega
        have hp5 := h5.lt
        have bL5 := (hf14.trans hf5).blk bL (by simp only [Only]; omega)
        have bR5 := (hf14.trans hf5).blk bR (by simp only [Only]; omega)
        obtain ⟨g0, g1, g2, g3, q0, q1, q2, q3, hz6⟩ := cells4 bL5
        have step := fun w6 hf6 => bin_step (w6 := w6) hp hT hLw bL hrd hT1 hall hf1 bR Hy.out Hr.out hf14 hf5 hrd' hT' hm' hall' hnext' h5 hf6
        have Hstep := Lib.hid step
        have Hall := Lib.hid hall'
        have Hnext := Lib.hid hnext'
        clear step hrd hrd' hall hall' hT1 hT' hnext hnext' bL bR
        have hcase := op_case y hy9
        rcases hcase with rfl | rfl | ⟨hy2, t1, t2, t3, ho, hnm⟩
        · have hlv : lev = 0 := Hr.out.symm
          subst hlv
          have e0 : opText 0 = ⟨#[124, 124]⟩ := rfl
          rw [e0]
          go_wp2_with fail
          refine (node_any _ _ _ _ _ _).mono ?_
          rintro e w6 ⟨rfl, hf6⟩
          have hstep := Hstep.out w6 hf6
          have hsz6 := hf6.size
          simp at hsz6
          have bL6 := hf6.blk (blk_alloc _ (blk_alloc _ bL5)) (fun q => q)
          obtain ⟨m0, m1, m2, m3, r0, r1, r2, r3, hz7⟩ := cells4 bL6
          have Hs := Lib.hid hstep
          clear hstep
          go_wp2_with fail
          go_roundg (ks.length - (j + m + 1 + m'))
          case measure => omega
          case rel => exact Hs.out
        · have hlv : lev = 1 := Hr.out.symm
          subst hlv
          have e0 : opText 1 = ⟨#[38, 38]⟩ := rfl
          rw [e0]
          go_wp2_with fail
          refine (node_any _ _ _ _ _ _).mono ?_
          rintro e w6 ⟨rfl, hf6⟩
          have hstep := Hstep.out w6 hf6
          have hsz6 := hf6.size
          simp at hsz6
          have bL6 := hf6.blk (blk_alloc _ (blk_alloc _ bL5)) (fun q => q)
          obtain ⟨m0, m1, m2, m3, r0, r1, r2, r3, hz7⟩ := cells4 bL6
          have Hs := Lib.hid hstep
          clear hstep
          go_wp2_with fail
          go_roundg (ks.length - (j + m + 1 + m'))
          case measure => omega
          case rel => exact Hs.out
        · have hl4 : ((lev : Int) == 4) = false := by
            have : ∀ y, y < 9 → rank y ≠ 4 := by decide
            have := this y hy9
            rw [Hr.out] at this
            rw [beq_eq_false_iff_ne]; omega
          by_cases hl2 : lev = 2
          · have hl2' : ((lev : Int) == 2) = true := by rw [hl2]; rfl
            have Hl2 := Lib.hid hl2
            clear hl2
            have Ho := Lib.hid ho
            have Hnm := Lib.hid hnm
            clear ho hnm
            go_wp2_with fail
            refine (node_any _ _ _ _ _ _).mono ?_
            rintro e w6 ⟨rfl, hf6⟩
            have hstep := Hstep.out w6 hf6
            have hsz6 := hf6.size
            simp at hsz6
            have bL6 := hf6.blk (blk_alloc _ (blk_alloc _ bL5)) (fun q => q)
            have bR6 := hf6.blk (blk_alloc _ (blk_alloc _ bR5)) (fun q => q)
            obtain ⟨m0, m1, m2, m3, r0, r1, r2, r3, hz7⟩ := cells4 bL6
            obtain ⟨v0, v1, v2, v3, s0, s1, s2, s3, hz8⟩ := cells4 bR6
            have hRL : w.heap.size ≠ Lb := by omega
            rw [Ho.out, Hnm.out] at hstep
            have Hs := Lib.hid hstep
            clear hstep
            have Hn : Hid (∀ mm, ks.length - (j + m + 1 + m') + (j + mm) = ks.length → ∀ z, ks[j + mm]? = some z → rank z < lev) := by
              intro mm hmm z hz
              have e : j + mm = j + m + 1 + m' := by omega
              rw [e] at hz
              have h2 : rank y = 2 := Hr.out.trans Hl2.out
              rw [Hl2.out]
              exact eq_next hc.eq Hy.out h2 (by have := Hall.out; rw [Hl2.out] at this; exact this) (by have := Hnext.out; rw [Hl2.out] at this; exact this) z hz
            go_wp2_with fail
            refine bodyPost_ret (v := .agg #[.int .i64 17, .string (opText y), .int .i64 0, .slice (some ⟨w5.heap.size + 1, 0, none⟩) 2 2]) ?_ rfl (bin_break hp hT hLw Hs.out (blk_set _ (blk_set _ (blk_set _ (blk_set _ bL6)))) Hn.out)
            simp [results, Tryz.results147, go_sem, v0, v1, v2, v3, hRL, Ne.symm hRL]
          · have hl2' : ((lev : Int) == 2) = false := by rw [beq_eq_false_iff_ne]; omega
            have Ho := Lib.hid ho
            have Hnm := Lib.hid hnm
            clear ho hnm
            go_wp2_with fail
            refine (node_any _ _ _ _ _ _).mono ?_
            rintro e w6 ⟨rfl, hf6⟩
            have hstep := Hstep.out w6 hf6
            have hsz6 := hf6.size
            simp at hsz6
            have bL6 := hf6.blk (blk_alloc _ (blk_alloc _ bL5)) (fun q => q)
            obtain ⟨m0, m1, m2, m3, r0, r1, r2, r3, hz7⟩ := cells4 bL6
            rw [Ho.out, Hnm.out] at hstep
            have Hs := Lib.hid hstep
            clear hstep
            go_wp2_with fail
            go_roundg (ks.length - (j + m + 1 + m'))
            case measure => omega
            case rel => exact Hs.out
      · have htok' : isTok (tokAt l (2 * (j + m) + 1)) 7 (levelOps lev) = false := by rw [htok]; simp [hr]
        have Htok := Lib.hid htok'
        have hlt : rank y < lev := by omega
        have Hy := Lib.hid hy
        clear htok htok' hy hr hyl
        go_wp2_with fail
        refine (level_any lev hlev _).mono ?_
        rintro e w2 ⟨rfl, hs2, hz2, hf2⟩
        have h2 := h1.frNo hf2
        go_wp2_with fail
        refine (is_any p T n cap s line l _ 7 wr.heap.size _ _ (levelOps lev) _ h2 rfl hll hz2 hs2).mono ?_
        rintro e w3 ⟨rfl, hf3⟩
        rw [Htok.out]
        have hf13 : Fr No wr w3 := hf2.trans hf3
        obtain ⟨g0, g1, g2, g3, q0, q1, q2, q3, hz4⟩ := cells4 (hf13.blk bL (fun q => q))
        obtain ⟨m0, m1, m2, m3, r0, r1, r2, r3, hz5⟩ := cells4 (hf13.blk bR (fun q => q))
        go_wp2_with fail
        refine bodyPost_ret (v := .agg #[.int .i64 x.op, .string x.name, .int .i64 x.n, .slice a len c]) ?_ rfl (bin_out hp hT hLw hrd hT1 hm hall h1 hf1 hf13 (fun z q => by rw [Hy.out] at q; cases q; exact hlt))
        simp [results, Tryz.results147, go_sem, m0, m1, m2, m3]
end Go.Proofs.YtngkobejdjjeeaaGreatDoor
