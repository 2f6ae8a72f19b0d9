/- take, near, word, closes, ends, node, seq of the parser. -/
import Derived.Test.YtngkobejdjjeeaaGreatDoorA1
import Derived.Test.YtngkobejdjjeeaaGreatDoorB0
set_option linter.unusedSimpArgs false
set_option linter.unusedVariables false
namespace Go.Proofs.YtngkobejdjjeeaaGreatDoor
open Go.RowKit

theorem strs_new (w : World) (cs : List ByteArray) (fr : Nat × Nat) (b : Nat) (h : w.heap[b]? = some (.cells (cs.map Value.string).toArray 9 fr)) : Strs w b cs := by
  intro j hj
  refine blk_cell h ?_
  simp [List.getD, hj]

/-- The present token stands in the list, if its kind is one. -/
theorem isTok_lt {l : List Tok} {i : Nat} {kind : Int} {zs : List ByteArray} (h : isTok (tokAt l i) kind zs = true) (hk : kind ≠ -1) : i < l.length := by
  rcases Nat.lt_or_ge i l.length with h' | h'
  · exact h'
  · exfalso
    have e : tokAt l i = Tok.over := by simp [tokAt, List.getD, List.getElem?_eq_none h']
    rw [e] at h
    simp [isTok, Tok.over] at h
    exact hk h.1.symm

theorem kind_lt {l : List Tok} {i : Nat} {kind : Int} (h : (tokAt l i).kind = kind) (hk : kind ≠ -1) : i < l.length := by
  rcases Nat.lt_or_ge i l.length with h' | h'
  · exact h'
  · exfalso
    have e : tokAt l i = Tok.over := by simp [tokAt, List.getD, List.getElem?_eq_none h']
    rw [e] at h
    exact hk h.symm

theorem take_no (p T n cap s : Nat) (line : Int) (l : List Tok) (st : St) (kind : Int) (x : ByteArray) (w : World) (h : Ps p T n cap s line l st w) (hb : isTok (tokAt l st.i) kind [x] = false) :
   Calls Tryz.prog 97 #[.pointer (some ⟨p, 0, none⟩), .int .i64 kind, .string x] w fun e w' => e = .returned (.bool false) ∧ Fr No w w' := by
  go_enter Tryz.func97, Tryz.ntmps97
  go_wp2_with fail
  refine (is_any p T n cap s line l st kind w.heap.size 1 1 [x] _ (h.alloc _) rfl (by omega) (by simp) (strs_new _ [x] (0, 0) _ (blk_new _ _))).mono ?_
  rintro e w1 ⟨rfl, hf⟩
  rw [hb]
  go_wp2_with fail
  go_ret
  refine ⟨rfl, ?_⟩
  (repeat (first | with_reducible exact Fr.refl _ _ | with_reducible assumption | with_reducible refine Fr.drewN ?_ _ | with_reducible refine Fr.drew ?_ | with_reducible refine Fr.alloc ?_ _ | with_reducible refine Fr.setNew ?_ (by first | omega | (simp; omega)) _ | with_reducible refine Fr.setOnly ?_ _ | with_reducible refine Fr.trans ?_ (by with_reducible assumption) | with_reducible refine Fr.transNo ?_ (by with_reducible assumption)))

/-- One place further. -/
def St.next (st : St) : St := { st with i := st.i + 1 }

theorem take_yes (p T n cap s : Nat) (line : Int) (l : List Tok) (st : St) (kind : Int) (x : ByteArray) (w : World) (h : Ps p T n cap s line l st w) (hk : kind ≠ -1) (hb : isTok (tokAt l st.i) kind [x] = true) :
   Calls Tryz.prog 97 #[.pointer (some ⟨p, 0, none⟩), .int .i64 kind, .string x] w fun e w' => e = .returned (.bool true) ∧ Ps p T n cap s line l st.next w' ∧ Fr (Only p) w w' := by
  have hlt := isTok_lt hb hk
  have hsm := h.small
  have hn := h.hn
  have hi : st.i < 1000000 := by omega
  go_enter Tryz.func97, Tryz.ntmps97
  go_wp2_with fail
  refine (is_any p T n cap s line l st kind w.heap.size 1 1 [x] _ (h.alloc _) rfl (by omega) (by simp) (strs_new _ [x] (0, 0) _ (blk_new _ _))).mono ?_
  rintro e w1 ⟨rfl, hf⟩
  have h1 := (h.alloc _).frNo hf
  have c1 := h1.c1
  have f1 := h1.fz 1
  have hp1 := h1.lt
  rw [hb]
  go_wp2_with fail
  go_ret
  refine ⟨rfl, h1.set (by show st.i + 1 ≤ n; omega) (by simp [St.next]), ?_⟩
  (repeat (first | with_reducible exact Fr.refl _ _ | with_reducible assumption | with_reducible refine Fr.drewN ?_ _ | with_reducible refine Fr.drew ?_ | with_reducible refine Fr.alloc ?_ _ | with_reducible refine Fr.setNew ?_ (by first | omega | (simp; omega)) _ | with_reducible refine Fr.setOnly ?_ _ | with_reducible refine Fr.trans ?_ (by with_reducible assumption) | with_reducible refine Fr.transNo ?_ (by with_reducible assumption)))

theorem near_no (p T n cap s : Nat) (line : Int) (l : List Tok) (st : St) (x : ByteArray) (w : World) (h : Ps p T n cap s line l st w) (hb : isTok (tokAt l st.i) 7 [x] = false) :
   Calls Tryz.prog 183 #[.pointer (some ⟨p, 0, none⟩), .string x] w fun e w' => e = .returned (.bool false) ∧ Fr No w w' := by
  go_enter Tryz.func183, Tryz.ntmps183
  go_wp2_with fail
  refine (is_any p T n cap s line l st 7 w.heap.size 1 1 [x] _ (h.alloc _) rfl (by omega) (by simp) (strs_new _ [x] (0, 0) _ (blk_new _ _))).mono ?_
  rintro e w1 ⟨rfl, hf⟩
  rw [hb]
  go_wp2_with fail
  go_ret
  refine ⟨rfl, ?_⟩
  (repeat (first | with_reducible exact Fr.refl _ _ | with_reducible assumption | with_reducible refine Fr.drewN ?_ _ | with_reducible refine Fr.drew ?_ | with_reducible refine Fr.alloc ?_ _ | with_reducible refine Fr.setNew ?_ (by first | omega | (simp; omega)) _ | with_reducible refine Fr.setOnly ?_ _ | with_reducible refine Fr.trans ?_ (by with_reducible assumption) | with_reducible refine Fr.transNo ?_ (by with_reducible assumption)))

theorem word_ok (p T n cap s : Nat) (line : Int) (l : List Tok) (st : St) (kind : Int) (w : World) (h : Ps p T n cap s line l st w) (hk : kind ≠ -1) (hb : (tokAt l st.i).kind = kind) :
   Calls Tryz.prog 184 #[.pointer (some ⟨p, 0, none⟩), .int .i64 kind] w fun e w' => e = .returned (.string (tokAt l st.i).text) ∧ Ps p T n cap s line l st.next w' ∧ Fr (Only p) w w' := by
  have hlt := kind_lt hb hk
  have hsm := h.small
  have hn := h.hn
  have hi : st.i < 1000000 := by omega
  have ht := tok0 p T n cap s line l st w h
  have hb' : ((tokAt l st.i).kind == kind) = true := by simp [hb]
  have hb2 : ((tokAt l st.i).kind != kind) = false := by simp [hb]
  generalize tokAt l st.i = t at *
  clear hb
  go_enter Tryz.func184, Tryz.ntmps184
  go_wp2_with fail
  refine ht.mono ?_
  rintro e w1 ⟨rfl, hf⟩
  unfold Tok.val
  have h1 := h.frNo hf
  have c1 := h1.c1
  have f1 := h1.fz 1
  have hp1 := h1.lt
  go_wp2_with fail
  go_ret
  refine ⟨rfl, ?_, ?_⟩
  · exact (h1.set (by show st.i + 1 ≤ n; omega) (by simp [St.next])).alloc _
  · (repeat (first | with_reducible exact Fr.refl _ _ | with_reducible assumption | with_reducible refine Fr.drewN ?_ _ | with_reducible refine Fr.drew ?_ | with_reducible refine Fr.alloc ?_ _ | with_reducible refine Fr.setNew ?_ (by first | omega | (simp; omega)) _ | with_reducible refine Fr.setOnly ?_ _ | with_reducible refine Fr.trans ?_ (by with_reducible assumption) | with_reducible refine Fr.transNo ?_ (by with_reducible assumption)))

theorem ends_no (p T n cap s : Nat) (line : Int) (l : List Tok) (st : St) (w : World) (h : Ps p T n cap s line l st w) (hb : ((tokAt l st.i).kind == 0) = false) :
   Calls Tryz.prog 56 #[.pointer (some ⟨p, 0, none⟩)] w fun e w' => e = .returned (.tuple #[]) ∧ Fr No w w' := by
  have ht := tok0 p T n cap s line l st w h
  generalize tokAt l st.i = t at *
  go_enter Tryz.func56, Tryz.ntmps56
  go_wp2_with fail
  go_loopw [2] (fun _ wr => wr = w) (fun _ _ => 0)
  case atStart => rfl
  case round =>
    subst hrel
    go_wp2_with fail
    refine ht.mono ?_
    rintro e w1 ⟨rfl, hf⟩
    unfold Tok.val
    go_wp2_with fail
    go_end0
    refine ⟨rfl, ?_⟩
    (repeat (first | with_reducible exact Fr.refl _ _ | with_reducible assumption | with_reducible refine Fr.drewN ?_ _ | with_reducible refine Fr.drew ?_ | with_reducible refine Fr.alloc ?_ _ | with_reducible refine Fr.setNew ?_ (by first | omega | (simp; omega)) _ | with_reducible refine Fr.setOnly ?_ _ | with_reducible refine Fr.trans ?_ (by with_reducible assumption) | with_reducible refine Fr.transNo ?_ (by with_reducible assumption)))

theorem node_any (op : Int) (x : ByteArray) (a : Option Addr) (m c : Nat) (w : World) :
   Calls Tryz.prog 55 #[.int .i64 op, .string x, .slice a m c] w fun e w' => e = .returned (.agg #[.int .i64 op, .string x, .int .i64 0, .slice a m c]) ∧ Fr No w w' := by
  go_enter Tryz.func55, Tryz.ntmps55
  go_wp2
  refine bodyPost_ret (v := .agg #[.int .i64 op, .string x, .int .i64 0, .slice a m c]) (by simp [results, Tryz.results55, go_sem]) rfl ⟨rfl, ?_⟩
  (repeat (first | with_reducible exact Fr.refl _ _ | with_reducible assumption | with_reducible refine Fr.drewN ?_ _ | with_reducible refine Fr.drew ?_ | with_reducible refine Fr.alloc ?_ _ | with_reducible refine Fr.setNew ?_ (by first | omega | (simp; omega)) _ | with_reducible refine Fr.setOnly ?_ _ | with_reducible refine Fr.trans ?_ (by with_reducible assumption) | with_reducible refine Fr.transNo ?_ (by with_reducible assumption)))

/-- A node's variable that was laid ahead of a call, behind it. -/
theorem new4 {S : Nat → Prop} {w w1 : World} (hf : Fr S (w.alloc (.cells #[.int .i64 0, .string ⟨#[]⟩, .int .i64 0, .slice none 0 0] 27)) w1) (hs : ¬ S w.heap.size) :
    w1.cell? ⟨w.heap.size, 0, none⟩ = some (.int .i64 0) ∧ w1.cell? ⟨w.heap.size, 1, none⟩ = some (.string ⟨#[]⟩) ∧ w1.cell? ⟨w.heap.size, 2, none⟩ = some (.int .i64 0) ∧ w1.cell? ⟨w.heap.size, 3, none⟩ = some (.slice none 0 0) ∧
    w1.frozen? ⟨w.heap.size, 0, none⟩ = false ∧ w1.frozen? ⟨w.heap.size, 1, none⟩ = false ∧ w1.frozen? ⟨w.heap.size, 2, none⟩ = false ∧ w1.frozen? ⟨w.heap.size, 3, none⟩ = false ∧ w.heap.size < w1.heap.size := by
  have hb := hf.blk (blk_new w _) hs
  exact ⟨blk_cell (o := 0) hb rfl, blk_cell (o := 1) hb rfl, blk_cell (o := 2) hb rfl, blk_cell (o := 3) hb rfl, blk_free hb, blk_free hb, blk_free hb, blk_free hb, blk_lt hb⟩

/-- The cells of a node's variable whose block is known. -/
theorem cells4 {w : World} {k : Nat} {t : TypeId} {a b c d : Value} (hb : w.heap[k]? = some (.cells #[a, b, c, d] t (0, 0))) :
    w.cell? ⟨k, 0, none⟩ = some a ∧ w.cell? ⟨k, 1, none⟩ = some b ∧ w.cell? ⟨k, 2, none⟩ = some c ∧ w.cell? ⟨k, 3, none⟩ = some d ∧
    w.frozen? ⟨k, 0, none⟩ = false ∧ w.frozen? ⟨k, 1, none⟩ = false ∧ w.frozen? ⟨k, 2, none⟩ = false ∧ w.frozen? ⟨k, 3, none⟩ = false ∧ k < w.heap.size :=
  ⟨blk_cell (o := 0) hb rfl, blk_cell (o := 1) hb rfl, blk_cell (o := 2) hb rfl, blk_cell (o := 3) hb rfl, blk_free hb, blk_free hb, blk_free hb, blk_free hb, blk_lt hb⟩

theorem seq_any (a : Option Addr) (m c : Nat) (w : World) :
   Calls Tryz.prog 99 #[.slice a m c] w fun e w' => e = .returned (.agg #[.int .i64 26, .string ⟨#[]⟩, .int .i64 0, .slice a m c]) ∧ Fr No w w' := by
  go_enter Tryz.func99, Tryz.ntmps99
  go_wp2_with fail
  refine (node_any _ _ _ _ _ _).mono ?_
  rintro e w1 ⟨rfl, hf⟩
  obtain ⟨g0, g1, g2, g3, q0, q1, q2, q3, hz⟩ := new4 hf (fun q => q)
  go_wp2_with fail
  refine bodyPost_ret (v := .agg #[.int .i64 26, .string ⟨#[]⟩, .int .i64 0, .slice a m c]) ?_ rfl ⟨rfl, ?_⟩
  · simp [results, Tryz.results99, go_sem, g0, g1, g2, g3]
  (repeat (first | with_reducible exact Fr.refl _ _ | with_reducible assumption | with_reducible refine Fr.drewN ?_ _ | with_reducible refine Fr.drew ?_ | with_reducible refine Fr.alloc ?_ _ | with_reducible refine Fr.setNew ?_ (by first | omega | (simp; omega)) _ | with_reducible refine Fr.setOnly ?_ _ | with_reducible refine Fr.trans ?_ (by with_reducible assumption) | with_reducible refine Fr.transNo ?_ (by with_reducible assumption)))
end Go.Proofs.YtngkobejdjjeeaaGreatDoor
