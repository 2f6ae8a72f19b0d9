/- closes, value, and a number as primary, postfix, unary. -/
import Derived.Test.YtngkobejdjjeeaaGreatDoorA2
import Derived.Lib.AtoiErrMem
set_option linter.unusedSimpArgs false
set_option linter.unusedVariables false
namespace Go.Proofs.YtngkobejdjjeeaaGreatDoor
open Go.RowKit

/-- The keywords, and the signs, that end statements. -/
def closeWords : List ByteArray := [⟨#[101, 110, 100]⟩, ⟨#[101, 108, 115, 101]⟩, ⟨#[101, 108, 115, 105, 102]⟩, ⟨#[119, 104, 101, 110]⟩, ⟨#[105, 110]⟩, ⟨#[114, 101, 115, 99, 117, 101]⟩, ⟨#[101, 110, 115, 117, 114, 101]⟩]
def closeSigns : List ByteArray := [⟨#[125]⟩, ⟨#[41]⟩]

theorem closes_over (p T n cap s : Nat) (line : Int) (l : List Tok) (st : St) (w : World) (h : Ps p T n cap s line l st w) (hb : (tokAt l st.i).kind = -1) :
   Calls Tryz.prog 57 #[.pointer (some ⟨p, 0, none⟩)] w fun e w' => e = .returned (.bool true) ∧ Fr No w w' := by
  have ht := tok0 p T n cap s line l st w h
  have hb' : ((tokAt l st.i).kind == -1) = true := by simp [hb]
  generalize tokAt l st.i = t at *
  clear hb
  go_enter Tryz.func57, Tryz.ntmps57
  go_wp2_with fail
  refine ht.mono ?_
  rintro e w1 ⟨rfl, hf⟩
  unfold Tok.val
  go_wp2_with fail
  go_ret
  refine ⟨rfl, ?_⟩
  (repeat (first | with_reducible exact Fr.refl _ _ | with_reducible assumption | with_reducible refine Fr.drewN ?_ _ | with_reducible refine Fr.drew ?_ | with_reducible refine Fr.alloc ?_ _ | with_reducible refine Fr.setNew ?_ (by first | omega | (simp; omega)) _ | with_reducible refine Fr.setOnly ?_ _ | with_reducible refine Fr.trans ?_ (by with_reducible assumption) | with_reducible refine Fr.transNo ?_ (by with_reducible assumption)))

theorem closes_no (p T n cap s : Nat) (line : Int) (l : List Tok) (st : St) (w : World) (h : Ps p T n cap s line l st w) (hb : ((tokAt l st.i).kind == -1) = false)
    (hw : isTok (tokAt l st.i) 8 closeWords = false) (hs : isTok (tokAt l st.i) 7 closeSigns = false) :
   Calls Tryz.prog 57 #[.pointer (some ⟨p, 0, none⟩)] w fun e w' => e = .returned (.bool false) ∧ Fr No w w' := by
  have ht := tok0 p T n cap s line l st w h
  have hi1 := is_any p T n cap s line l st 8
  have hi2 := is_any p T n cap s line l st 7
  generalize tokAt l st.i = t at *
  go_enter Tryz.func57, Tryz.ntmps57
  go_wp2_with fail
  refine ht.mono ?_
  rintro e w1 ⟨rfl, hf⟩
  unfold Tok.val
  have h1 := h.frNo hf
  go_wp2_with fail
  refine (hi1 w1.heap.size 7 7 closeWords _ (h1.alloc _) rfl (by omega) (by simp) (strs_new _ closeWords (0, 0) _ (blk_new _ _))).mono ?_
  rintro e w2 ⟨rfl, hf2⟩
  have h2 := (h1.alloc _).frNo hf2
  rw [hw]
  go_wp2_with fail
  refine (hi2 w2.heap.size 2 2 closeSigns _ (h2.alloc _) rfl (by omega) (by simp) (strs_new _ closeSigns (0, 0) _ (blk_new _ _))).mono ?_
  rintro e w3 ⟨rfl, hf3⟩
  rw [hs]
  go_wp2_with fail
  go_ret
  refine ⟨rfl, ?_⟩
  (repeat (first | with_reducible exact Fr.refl _ _ | with_reducible assumption | with_reducible refine Fr.drewN ?_ _ | with_reducible refine Fr.drew ?_ | with_reducible refine Fr.alloc ?_ _ | with_reducible refine Fr.setNew ?_ (by first | omega | (simp; omega)) _ | with_reducible refine Fr.setOnly ?_ _ | with_reducible refine Fr.trans ?_ (by with_reducible assumption) | with_reducible refine Fr.transNo ?_ (by with_reducible assumption)))

theorem atoi_ok (x : ByteArray) (v : Int) (hs : x.size ≤ 18) (hv : Lib.atoi x.data.toList = some v) (w : World) :
   Calls Tryz.prog 239 #[.string x] w fun e w' => e = .returned (.tuple #[.int .i64 v, .nilIface]) ∧ Fr No w w' := by
  refine (Tryz.strconv_Atoi x v hs hv w).mono ?_
  rintro e w' ⟨rfl, t, rfl⟩
  exact ⟨rfl, Fr.below (Lib.bytesWorld_below _ _ _)⟩

theorem value_ok (p T n cap s : Nat) (line : Int) (l : List Tok) (st : St) (w : World) (h : Ps p T n cap s line l st w) (v : Int) (hk : (tokAt l st.i).kind = 4) (hs : (tokAt l st.i).text.size ≤ 18)
    (hv : Lib.atoi (tokAt l st.i).text.data.toList = some v) (hmax : v ≤ 1000000000000000) :
   Calls Tryz.prog 228 #[.pointer (some ⟨p, 0, none⟩)] w fun e w' => e = .returned (.int .i64 v) ∧ Ps p T n cap s line l st.next w' ∧ Fr (Only p) w w' := by
  have hlt := kind_lt hk (by omega)
  have hsm := h.small
  have hn := h.hn
  have hi : st.i < 1000000 := by omega
  have ht := tok0 p T n cap s line l st w h
  generalize tokAt l st.i = t at *
  have ha := atoi_ok t.text v hs hv
  clear hk
  go_enter Tryz.func228, Tryz.ntmps228
  go_wp2_with fail
  refine ht.mono ?_
  rintro e w1 ⟨rfl, hf⟩
  unfold Tok.val
  have h1 := h.frNo hf
  go_wp2_with fail
  refine (ha _).mono ?_
  rintro e w2 ⟨rfl, hf2⟩
  have h2 := h1.frNo hf2
  have c1 := h2.c1
  have f1 := h2.fz 1
  have hmax' : ¬ v > 1000000000000000 := by omega
  go_wp2_with fail
  trace_state
  go_ret
  refine ⟨rfl, h2.set (by show st.i + 1 ≤ n; omega) (by simp [St.next]), ?_⟩
  (repeat (first | with_reducible exact Fr.refl _ _ | with_reducible assumption | with_reducible refine Fr.drewN ?_ _ | with_reducible refine Fr.drew ?_ | with_reducible refine Fr.alloc ?_ _ | with_reducible refine Fr.setNew ?_ (by first | omega | (simp; omega)) _ | with_reducible refine Fr.setOnly ?_ _ | with_reducible refine Fr.trans ?_ (by with_reducible assumption) | with_reducible refine Fr.transNo ?_ (by with_reducible assumption)))
end Go.Proofs.YtngkobejdjjeeaaGreatDoor
