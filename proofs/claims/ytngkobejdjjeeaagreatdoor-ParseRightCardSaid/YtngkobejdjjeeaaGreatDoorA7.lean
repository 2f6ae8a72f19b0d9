/- expr, and what is no assignment. -/
import Derived.Test.YtngkobejdjjeeaaGreatDoorA6
set_option linter.unusedSimpArgs false
set_option linter.unusedVariables false
namespace Go.Proofs.YtngkobejdjjeeaaGreatDoor
open Go.RowKit

theorem binary_chain (p T n cap s : Nat) (line : Int) (l : List Tok) (ks : List Nat) (hc : Chain l ks) (d : Nat) : ∀ (lev : Nat), lev + d = 8 → ∀ (j : Nat), j ≤ ks.length → ∀ (st : St), st.i = 2 * j → st.cmd = false → ∀ (L : Int), L = lev →
    ∀ (w : World), Ps p T n cap s line l st w → Calls Tryz.prog 147 #[.pointer (some ⟨p, 0, none⟩), .int .i64 L] w (BinPost p T n cap s line l ks j lev st w) := by
  induction d with
  | zero =>
    intro lev hl j hj st hi hcmd L hL w h
    have e : lev = 8 := by omega
    subst e
    exact binary8 p T n cap s line l ks hc j hj st hi hcmd L hL w h
  | succ d ih =>
    intro lev hl j hj st hi hcmd L hL w h
    subst hL
    exact binary_lev p T n cap s line l ks hc lev (by omega) (ih (lev + 1) (by omega)) j hj st hi hcmd w h

/-- What the whole row's expr leaves. -/
def ExprPost (p T n cap s : Nat) (line : Int) (l : List Tok) (ks : List Nat) (st : St) (w : World) (e : Ending) (w' : World) : Prop :=
  ∃ (x : Nod) (a : Option Addr) (len c : Nat), e = .returned (.agg #[.int .i64 x.op, .string x.name, .int .i64 x.n, .slice a len c]) ∧
    Rd (Lt w.heap.size) w' x (.agg #[.int .i64 x.op, .string x.name, .int .i64 x.n, .slice a len c]) ∧ IsT ks x ∧ Ps p T n cap s line l { st with i := 2 * ks.length + 1 } w' ∧ Fr (Only p) w w'

theorem expr_chain (p T n cap s : Nat) (line : Int) (l : List Tok) (ks : List Nat) (hc : Chain l ks) (st : St) (hi : st.i = 0) (hcmd : st.cmd = false) (w : World) (h : Ps p T n cap s line l st w) :
    Calls Tryz.prog 100 #[.pointer (some ⟨p, 0, none⟩)] w (ExprPost p T n cap s line l ks st w) := by
  have hb := fun w h => binary_chain p T n cap s line l ks hc 8 0 rfl 0 (Nat.zero_le _) st hi hcmd 0 rfl w h
  have hp := h.lt
  have hT := h.hT
  have hPost := fun e w' => (show BinPost p T n cap s line l ks 0 0 st (w.alloc (.cells #[.int .i64 0, .string ⟨#[]⟩, .int .i64 0, .slice none 0 0] 27)) e w' → _ from fun q => q)
  clear hi hcmd hPost
  go_enter Tryz.func100, Tryz.ntmps100
  go_wp2_with fail
  refine (hb _ (h.alloc _)).mono ?_
  rintro e w1 ⟨m, x, a, len, c, rfl, hrd, hT1, hm, _, hnext, h1, hf1⟩
  have b1 := hf1.blk (blk_new w _) (not_only hp)
  obtain ⟨g0, g1, g2, g3, q0, q1, q2, q3, hz⟩ := cells4 b1
  have em : m = ks.length := by
    rcases Nat.lt_or_ge m ks.length with hlt | hge
    · exfalso
      have := hnext _ (by rw [Nat.zero_add]; exact List.getElem?_eq_getElem hlt)
      omega
    · omega
  subst em
  have hfx := Fr.set4 (Fr.refl (Only w.heap.size) w1) (.int .i64 x.op) (.string x.name) (.int .i64 x.n) (.slice a len c)
  have fin : ExprPost p T n cap s line l ks st w (.returned (.agg #[.int .i64 x.op, .string x.name, .int .i64 x.n, .slice a len c])) ((((w1.setCell ⟨w.heap.size, 0, none⟩ (.int .i64 x.op)).setCell ⟨w.heap.size, 1, none⟩ (.string x.name)).setCell ⟨w.heap.size, 2, none⟩ (.int .i64 x.n)).setCell ⟨w.heap.size, 3, none⟩ (.slice a len c)) := by
    refine ⟨x, a, len, c, rfl, ?_, by simpa using hT1, ?_, ?_⟩
    · refine Rd.weak (F := Lt (w.heap.size + 1)) (fun b _ q => by simp only [Lt] at *; omega) _ _ ?_
      have hrd' : Rd (Lt (w.heap.size + 1)) w1 x (.agg #[.int .i64 x.op, .string x.name, .int .i64 x.n, .slice a len c]) := by simpa using hrd
      exact hrd'.fr hfx (fun b _ q => by simp only [Only] at q; simp only [Lt]; omega)
    · rw [Nat.zero_add] at h1
      exact h1.fr hfx (by simp only [Only]; omega) (by simp only [Only]; omega)
    · exact (((Fr.refl _ _).alloc _).trans hf1 |>.trans' hfx (fun i hi q => by simp only [Only] at q; omega)).mono (fun _ _ q => q)
  have Hfin := Lib.hid fin
  clear fin hrd hT1 hnext
  go_wp2_with fail
  refine bodyPost_ret (v := .agg #[.int .i64 x.op, .string x.name, .int .i64 x.n, .slice a len c]) ?_ rfl Hfin.out
  simp [results, Tryz.results100, go_sem, g0, g1, g2, g3]

/-- The signs of assignments. -/
def assignSigns : List ByteArray := [⟨#[61]⟩, ⟨#[43, 61]⟩, ⟨#[45, 61]⟩, ⟨#[42, 61]⟩, ⟨#[124, 124, 61]⟩]

theorem assigns_no (p T n cap s : Nat) (line : Int) (l : List Tok) (st : St) (w : World) (h : Ps p T n cap s line l st w) (hb : isTok (tokAt l (st.i + 1)) 7 assignSigns = false) :
   Calls Tryz.prog 185 #[.pointer (some ⟨p, 0, none⟩)] w fun e w' => e = .returned (.tuple #[.agg #[.int .i64 0, .string ⟨#[]⟩, .int .i64 0, .slice none 0 0], .bool false]) ∧ Fr No w w' := by
  have ht0 := fun w h => tok0 p T n cap s line l st w h
  have ht1 := fun w h => tok1 p T n cap s line l st w h
  generalize tokAt l st.i = t at *
  generalize tokAt l (st.i + 1) = u at *
  have hp := h.lt
  by_cases hk : u.kind = 7
  · have hk' : (u.kind != 7) = false := by simp [hk]
    have hcs : Lib.containsS assignSigns u.text = false := by simpa [isTok, hk] using hb
    have Hcs := Lib.hid hcs
    clear hk hb hcs
    go_enter Tryz.func185, Tryz.ntmps185
    go_wp2_with fail
    refine (ht0 _ (h.alloc _)).mono ?_
    rintro e w1 ⟨rfl, hf1⟩
    unfold Tok.val
    have h1 := (h.alloc _).frNo hf1
    go_wp2_with fail
    refine (ht1 _ h1).mono ?_
    rintro e w2 ⟨rfl, hf2⟩
    unfold Tok.val
    have hf02 : Fr No (w.alloc _) w2 := hf1.trans hf2
    have b2 := hf02.blk (blk_new w _) (fun q => q)
    obtain ⟨g0, g1, g2, g3, q0, q1, q2, q3, hz⟩ := cells4 b2
    go_wp2_with fail
    refine (contains_any (w2.heap.size + 1 + 1) 5 5 assignSigns u.text _ rfl (by omega) (by exact strs_new _ assignSigns (0, 0) _ (blk_newAt (by simp) _))).mono ?_
    rintro e w3 ⟨rfl, rfl⟩
    rw [Hcs.out]
    have hz1 : w.heap.size < w2.heap.size + 1 := by omega
    have hz2 : w.heap.size < w2.heap.size + 1 + 1 := by omega
    go_wp2_with fail
    refine bodyPost_ret (v := .tuple #[.agg #[.int .i64 0, .string ⟨#[]⟩, .int .i64 0, .slice none 0 0], .bool false]) ?_ rfl ⟨rfl, ?_⟩
    · simp [results, Tryz.results185, go_sem, g0, g1, g2, g3, hz, hz1, hz2]
    · (repeat (first | with_reducible exact Fr.refl _ _ | with_reducible assumption | with_reducible refine Fr.drewN ?_ _ | with_reducible refine Fr.drew ?_ | with_reducible refine Fr.alloc ?_ _ | with_reducible refine Fr.setNew ?_ (by first | omega | (simp; omega)) _ | with_reducible refine Fr.setOnly ?_ _ | with_reducible refine Fr.trans ?_ (by with_reducible assumption) | with_reducible refine Fr.transNo ?_ (by with_reducible assumption)))
  · have hk' : (u.kind != 7) = true := by simp [hk]
    clear hk hb
    go_enter Tryz.func185, Tryz.ntmps185
    go_wp2_with fail
    refine (ht0 _ (h.alloc _)).mono ?_
    rintro e w1 ⟨rfl, hf1⟩
    unfold Tok.val
    have h1 := (h.alloc _).frNo hf1
    go_wp2_with fail
    refine (ht1 _ h1).mono ?_
    rintro e w2 ⟨rfl, hf2⟩
    unfold Tok.val
    have hf02 : Fr No (w.alloc _) w2 := hf1.trans hf2
    have b2 := hf02.blk (blk_new w _) (fun q => q)
    obtain ⟨g0, g1, g2, g3, q0, q1, q2, q3, hz⟩ := cells4 b2
    go_wp2_with fail
    refine bodyPost_ret (v := .tuple #[.agg #[.int .i64 0, .string ⟨#[]⟩, .int .i64 0, .slice none 0 0], .bool false]) ?_ rfl ⟨rfl, ?_⟩
    · simp [results, Tryz.results185, go_sem, g0, g1, g2, g3, hz]
    · (repeat (first | with_reducible exact Fr.refl _ _ | with_reducible assumption | with_reducible refine Fr.drewN ?_ _ | with_reducible refine Fr.drew ?_ | with_reducible refine Fr.alloc ?_ _ | with_reducible refine Fr.setNew ?_ (by first | omega | (simp; omega)) _ | with_reducible refine Fr.setOnly ?_ _ | with_reducible refine Fr.trans ?_ (by with_reducible assumption) | with_reducible refine Fr.transNo ?_ (by with_reducible assumption)))
end Go.Proofs.YtngkobejdjjeeaaGreatDoor
