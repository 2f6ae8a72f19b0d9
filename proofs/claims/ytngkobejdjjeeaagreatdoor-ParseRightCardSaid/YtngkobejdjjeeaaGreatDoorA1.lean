/- The parser's smallest functions: tok, is, take, near: what each answers, and that it turns nothing but the place. -/
import Derived.Test.YtngkobejdjjeeaaGreatDoorA0
import Derived.Test.YtngkobejdjjeeaaGreatDoorShelf
set_option linter.unusedSimpArgs false
set_option linter.unusedVariables false
namespace Go.Proofs.YtngkobejdjjeeaaGreatDoor
open Go.RowKit

theorem tok_over (p T n cap s : Nat) (line : Int) (l : List Tok) (st : St) (d : Nat) (hd : d ≤ 1) (w : World) (h : Ps p T n cap s line l st w) (hge : n ≤ st.i + d) :
   Calls Tryz.prog 28 #[.pointer (some ⟨p, 0, none⟩), .int .i64 d] w fun e w' => e = .returned Tok.over.val ∧ Fr No w w' := by
  have hp := h.lt
  have h0 := h.c0
  have h1 := h.c1
  have hs := h.small
  have hi := h.hi
  have hge' : ¬ (st.i : Int) + d < (n : Int) := by omega
  clear hge
  go_enter Tryz.func28, Tryz.ntmps28
  go_wp2
  go_quiet (fail)
  go_wp2
  refine bodyPost_ret (v := Tok.over.val) (by simp [results, Tryz.results28, go_sem, Tok.val, Tok.over]) rfl ⟨rfl, ?_⟩
  (repeat (first | with_reducible exact Fr.refl _ _ | with_reducible assumption | with_reducible refine Fr.drewN ?_ _ | with_reducible refine Fr.drew ?_ | with_reducible refine Fr.alloc ?_ _ | with_reducible refine Fr.setNew ?_ (by first | omega | (simp; omega)) _ | with_reducible refine Fr.setOnly ?_ _ | with_reducible refine Fr.trans ?_ (by with_reducible assumption) | with_reducible refine Fr.transNo ?_ (by with_reducible assumption)))

theorem tok_in0 (p T n cap s : Nat) (line : Int) (l : List Tok) (st : St) (w : World) (t : Tok) (h : Ps p T n cap s line l st w) (hlt : st.i < n) (ht : l[st.i]? = some t) :
   Calls Tryz.prog 28 #[.pointer (some ⟨p, 0, none⟩), .int .i64 0] w fun e w' => e = .returned t.val ∧ Fr No w w' := by
  have hp := h.lt
  have h0 := h.c0
  have h1 := h.c1
  have hs := h.small
  have hi := h.hi
  have hT := h.hT
  obtain ⟨t0, t1, t2, t3, t4⟩ := h.toks _ _ ht
  clear ht h
  go_enter Tryz.func28, Tryz.ntmps28
  go_wp2
  go_quiet (fail)
  go_wp2
  go_region
  all_goals go_wp2
  refine bodyPost_ret (v := t.val) (by simp [results, Tryz.results28, go_sem, Tok.val]) rfl ⟨rfl, ?_⟩
  (repeat (first | with_reducible exact Fr.refl _ _ | with_reducible assumption | with_reducible refine Fr.drewN ?_ _ | with_reducible refine Fr.drew ?_ | with_reducible refine Fr.alloc ?_ _ | with_reducible refine Fr.setNew ?_ (by first | omega | (simp; omega)) _ | with_reducible refine Fr.setOnly ?_ _ | with_reducible refine Fr.trans ?_ (by with_reducible assumption) | with_reducible refine Fr.transNo ?_ (by with_reducible assumption)))

theorem tok_in1 (p T n cap s : Nat) (line : Int) (l : List Tok) (st : St) (w : World) (t : Tok) (h : Ps p T n cap s line l st w) (hlt : st.i + 1 < n) (ht : l[st.i + 1]? = some t) :
   Calls Tryz.prog 28 #[.pointer (some ⟨p, 0, none⟩), .int .i64 1] w fun e w' => e = .returned t.val ∧ Fr No w w' := by
  have hp := h.lt
  have h0 := h.c0
  have h1 := h.c1
  have hs := h.small
  have hi := h.hi
  have hT := h.hT
  obtain ⟨t0, t1, t2, t3, t4⟩ := h.toks _ _ ht
  clear ht h
  have hlt' : (st.i : Int) + 1 < n := by omega
  go_enter Tryz.func28, Tryz.ntmps28
  go_wp2
  go_quiet (fail)
  go_wp2
  go_region
  all_goals go_wp2
  refine bodyPost_ret (v := t.val) (by simp [results, Tryz.results28, go_sem, Tok.val]) rfl ⟨rfl, ?_⟩
  (repeat (first | with_reducible exact Fr.refl _ _ | with_reducible assumption | with_reducible refine Fr.drewN ?_ _ | with_reducible refine Fr.drew ?_ | with_reducible refine Fr.alloc ?_ _ | with_reducible refine Fr.setNew ?_ (by first | omega | (simp; omega)) _ | with_reducible refine Fr.setOnly ?_ _ | with_reducible refine Fr.trans ?_ (by with_reducible assumption) | with_reducible refine Fr.transNo ?_ (by with_reducible assumption)))

theorem tok0 (p T n cap s : Nat) (line : Int) (l : List Tok) (st : St) (w : World) (h : Ps p T n cap s line l st w) :
   Calls Tryz.prog 28 #[.pointer (some ⟨p, 0, none⟩), .int .i64 0] w fun e w' => e = .returned (tokAt l st.i).val ∧ Fr No w w' := by
  by_cases hlt : st.i < n
  · have hl : st.i < l.length := h.hn ▸ hlt
    have e : tokAt l st.i = l[st.i] := by simp [tokAt, List.getD, hl]
    rw [e]
    exact tok_in0 p T n cap s line l st w _ h hlt (List.getElem?_eq_getElem hl)
  · have hl : ¬ st.i < l.length := h.hn ▸ hlt
    have e : tokAt l st.i = Tok.over := by simp [tokAt, List.getD, List.getElem?_eq_none (Nat.le_of_not_lt hl)]
    rw [e]
    exact tok_over p T n cap s line l st 0 (by omega) w h (by omega)

theorem tok1 (p T n cap s : Nat) (line : Int) (l : List Tok) (st : St) (w : World) (h : Ps p T n cap s line l st w) :
   Calls Tryz.prog 28 #[.pointer (some ⟨p, 0, none⟩), .int .i64 1] w fun e w' => e = .returned (tokAt l (st.i + 1)).val ∧ Fr No w w' := by
  by_cases hlt : st.i + 1 < n
  · have hl : st.i + 1 < l.length := h.hn ▸ hlt
    have e : tokAt l (st.i + 1) = l[st.i + 1] := by simp [tokAt, List.getD, hl]
    rw [e]
    exact tok_in1 p T n cap s line l st w _ h hlt (List.getElem?_eq_getElem hl)
  · have hl : ¬ st.i + 1 < l.length := h.hn ▸ hlt
    have e : tokAt l (st.i + 1) = Tok.over := by simp [tokAt, List.getD, List.getElem?_eq_none (Nat.le_of_not_lt hl)]
    rw [e]
    exact tok_over p T n cap s line l st 1 (by omega) w h (by omega)

/-- Texts lie in a row. -/
def Strs (w : World) (b : Nat) (zs : List ByteArray) : Prop := ∀ j, j < zs.length → w.cell? ⟨b, j, none⟩ = some (.string (zs.getD j ByteArray.empty))

/-- 'is': the present token is of a kind, and has one of some texts. -/
def isTok (t : Tok) (kind : Int) (zs : List ByteArray) : Bool := t.kind == kind && Lib.containsS zs t.text

theorem Strs.fr {S : Nat → Prop} {w w' : World} {b : Nat} {zs : List ByteArray} (h : Strs w b zs) (hf : Fr S w w') (hb : b < w.heap.size) (hs : ¬ S b) : Strs w' b zs := fun j hj => (hf.cell hb hs).trans (h j hj)
theorem Strs.frNo {w w' : World} {b : Nat} {zs : List ByteArray} (h : Strs w b zs) (hf : Fr No w w') (hb : b < w.heap.size) : Strs w' b zs := h.fr hf hb (fun q => q)

theorem contains_any (b m c : Nat) (zs : List ByteArray) (x : ByteArray) (w : World) (hm : m = zs.length) (hm2 : m ≤ 1000) (hz : Strs w b zs) :
    Calls Tryz.prog 124 #[.slice (some ⟨b, 0, none⟩) m c, .string x] w fun e w' => e = .returned (.bool (Lib.containsS zs x)) ∧ w = w' := by
  refine (Tryz.slices_Contains_string b 0 m c zs x w (by omega) (by omega) (fun j hj => by rw [Nat.zero_add]; exact hz j hj)).mono ?_
  rintro e w' ⟨rfl, rfl⟩
  exact ⟨by rw [hm, List.take_length], rfl⟩

theorem is_any (p T n cap s : Nat) (line : Int) (l : List Tok) (st : St) (kind : Int) (b m c : Nat) (zs : List ByteArray) (w : World) (h : Ps p T n cap s line l st w)
    (hm : m = zs.length) (hm2 : m ≤ 1000) (hb : b < w.heap.size) (hz : Strs w b zs) :
   Calls Tryz.prog 94 #[.pointer (some ⟨p, 0, none⟩), .int .i64 kind, .slice (some ⟨b, 0, none⟩) m c] w fun e w' => e = .returned (.bool (isTok (tokAt l st.i) kind zs)) ∧ Fr No w w' := by
  have ht := tok0 p T n cap s line l st w h
  generalize tokAt l st.i = t at *
  have Hm := Lib.hid hm
  clear hm
  by_cases hk : t.kind = kind
  · have hk' : (t.kind == kind) = true := by simp [hk]
    have hr : isTok t kind zs = Lib.containsS zs t.text := by simp [isTok, hk']
    rw [hr]
    have Hk := Lib.hid hk
    clear hk hr
    go_enter Tryz.func94, Tryz.ntmps94
    go_wp2_with fail
    refine ht.mono ?_
    rintro e w1 ⟨rfl, hf⟩
    unfold Tok.val
    have hz1 : Strs w1 b zs := hz.frNo hf hb
    have hb1 := Nat.lt_of_lt_of_le hb hf.size
    go_wp2_with (go_at_call 124; refine (contains_any b m c zs t.text _ Hm.out hm2 (hz1.frNo ((Fr.refl _ _).alloc _) hb1)).mono ?_; rintro e w2 ⟨rfl, rfl⟩)
    go_ret
    refine ⟨rfl, ?_⟩
    (repeat (first | with_reducible exact Fr.refl _ _ | with_reducible assumption | with_reducible refine Fr.drewN ?_ _ | with_reducible refine Fr.drew ?_ | with_reducible refine Fr.alloc ?_ _ | with_reducible refine Fr.setNew ?_ (by first | omega | (simp; omega)) _ | with_reducible refine Fr.setOnly ?_ _ | with_reducible refine Fr.trans ?_ (by with_reducible assumption) | with_reducible refine Fr.transNo ?_ (by with_reducible assumption)))
  · have hk' : (t.kind == kind) = false := by simp [hk]
    have hr : isTok t kind zs = false := by simp [isTok, hk']
    rw [hr]
    clear hr
    go_enter Tryz.func94, Tryz.ntmps94
    go_wp2_with fail
    refine ht.mono ?_
    rintro e w1 ⟨rfl, hf⟩
    unfold Tok.val
    go_wp2_with fail
    go_ret
    refine ⟨rfl, ?_⟩
    (repeat (first | with_reducible exact Fr.refl _ _ | with_reducible assumption | with_reducible refine Fr.drewN ?_ _ | with_reducible refine Fr.drew ?_ | with_reducible refine Fr.alloc ?_ _ | with_reducible refine Fr.setNew ?_ (by first | omega | (simp; omega)) _ | with_reducible refine Fr.setOnly ?_ _ | with_reducible refine Fr.trans ?_ (by with_reducible assumption) | with_reducible refine Fr.transNo ?_ (by with_reducible assumption)))
end Go.Proofs.YtngkobejdjjeeaaGreatDoor
