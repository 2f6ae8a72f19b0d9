/- A number as primary, postfix, unary. -/
import Derived.Test.YtngkobejdjjeeaaGreatDoorA3
set_option linter.unusedSimpArgs false
set_option linter.unusedVariables false
namespace Go.Proofs.YtngkobejdjjeeaaGreatDoor
open Go.RowKit

/-- A number's node. -/
def intV (v : Int) : Value := .agg #[.int .i64 4, .string ⟨#[]⟩, .int .i64 v, .slice none 0 0]

theorem not_only {p b : Nat} (h : p < b) : ¬ Only p b := fun q => by simp only [Only] at q; omega

theorem primary_num (p T n cap s : Nat) (line : Int) (l : List Tok) (st : St) (may : Bool) (w : World) (h : Ps p T n cap s line l st w) (v : Int) (hk : (tokAt l st.i).kind = 4) (hs : (tokAt l st.i).text.size ≤ 18)
    (hv : Lib.atoi (tokAt l st.i).text.data.toList = some v) (hmax : v ≤ 1000000000000000) :
   Calls Tryz.prog 221 #[.pointer (some ⟨p, 0, none⟩), .bool may] w fun e w' => e = .returned (.tuple #[.agg #[.int .i64 4, .string ⟨#[]⟩, .int .i64 v, .slice none 0 0], .bool false]) ∧ Ps p T n cap s line l st.next w' ∧ Fr (Only p) w w' := by
  have ht := fun w h => tok0 p T n cap s line l st w h
  have hval := fun w h => value_ok p T n cap s line l st w h v hk hs hv hmax
  have hk' : ((tokAt l st.i).kind == 4) = true := by simp [hk]
  generalize tokAt l st.i = t at *
  have hp := h.lt
  have hT := h.hT
  clear hk hv hs
  go_enter Tryz.func221, Tryz.ntmps221
  go_wp2_with fail
  refine (ht _ (h.alloc _)).mono ?_
  rintro e w1 ⟨rfl, hf⟩
  unfold Tok.val
  have h1 := (h.alloc _).frNo hf
  go_wp2_with fail
  refine (hval _ (h1.alloc _)).mono ?_
  rintro e w2 ⟨rfl, h2, hf2⟩
  obtain ⟨g0, g1, g2, g3, q0, q1, q2, q3, hz⟩ := new4 ((hf.ofNo.alloc _).trans hf2) (not_only hp)
  go_wp2_with fail
  refine bodyPost_ret (v := .tuple #[.agg #[.int .i64 4, .string ⟨#[]⟩, .int .i64 v, .slice none 0 0], .bool false]) ?_ rfl ⟨rfl, ?_, ?_⟩
  · simp [results, Tryz.results221, go_sem, g0, g1, g2, g3]
  · (repeat (first | with_reducible assumption | with_reducible refine Ps.drewN ?_ _ | with_reducible refine Ps.drew ?_ | with_reducible refine Ps.alloc ?_ _ | with_reducible refine Ps.put ?_ (by omega) (by omega) _ | with_reducible refine Ps.frNo ?_ (by with_reducible assumption)))
  · (repeat (first | with_reducible exact Fr.refl _ _ | with_reducible assumption | with_reducible refine Fr.drewN ?_ _ | with_reducible refine Fr.drew ?_ | with_reducible refine Fr.alloc ?_ _ | with_reducible refine Fr.setNew ?_ (by first | omega | (simp; omega)) _ | with_reducible refine Fr.setOnly ?_ _ | with_reducible refine Fr.trans ?_ (by with_reducible assumption) | with_reducible refine Fr.transNo ?_ (by with_reducible assumption)))

/-- What stands behind a number goes on no postfix. -/
structure NoTail (t : Tok) : Prop where
  dot : isTok t 7 [⟨#[46]⟩, ⟨#[38, 46]⟩] = false
  brack : isTok t 7 [⟨#[91]⟩] = false
  colons : isTok t 7 [⟨#[58, 58]⟩] = false

theorem postfix_num (p T n cap s : Nat) (line : Int) (l : List Tok) (st : St) (w : World) (h : Ps p T n cap s line l st w) (v : Int) (hk : (tokAt l st.i).kind = 4) (hs : (tokAt l st.i).text.size ≤ 18)
    (hv : Lib.atoi (tokAt l st.i).text.data.toList = some v) (hmax : v ≤ 1000000000000000) (hcmd : st.cmd = false) (ht : NoTail (tokAt l (st.i + 1))) :
   Calls Tryz.prog 213 #[.pointer (some ⟨p, 0, none⟩)] w fun e w' => e = .returned (.agg #[.int .i64 4, .string ⟨#[]⟩, .int .i64 v, .slice none 0 0]) ∧ Ps p T n cap s line l st.next w' ∧ Fr (Only p) w w' := by
  have hpr := fun may w h => primary_num p T n cap s line l st may w h v hk hs hv hmax
  have hp := h.lt
  have hT := h.hT
  have c1 := h.c1
  have c5 := h.c5
  clear hk hv hs
  go_enter Tryz.func213, Tryz.ntmps213
  go_wp2_with fail
  go_quiet (fail)
  go_wp2_with fail
  refine (hpr _ _ ((h.alloc _).drewN _)).mono ?_
  rintro e w1 ⟨rfl, h1, hf⟩
  have hf1 : Fr (Only p) (w.alloc _) w1 := ((Fr.refl _ _).drewN _).trans hf
  have hnxt : tokAt l st.next.i = tokAt l (st.i + 1) := rfl
  have b1 := hf1.blk (blk_new w _) (not_only hp)
  have hz := blk_lt b1
  have hp1 := h1.lt
  have k6 : w1.cell? ⟨p, 6, none⟩ = some (.bool false) := by have := h1.c6; rw [show st.next.cmd = false from hcmd] at this; exact this
  go_wp2_with fail
  refine wp_loop_rounds 1 ?_
  rw [rounds_succ]
  go_wp2_with fail
  refine (is_any p T n cap s line l st.next 7 (w1.heap.size + 1) 2 2 [⟨#[46]⟩, ⟨#[38, 46]⟩] _ ((h1.alloc _).alloc _) rfl (by omega) (by simp) (strs_new _ [⟨#[46]⟩, ⟨#[38, 46]⟩] (0, 0) _ (blk_newAt (by simp) _))).mono ?_
  rintro e w2 ⟨rfl, hf2⟩
  rw [hnxt, ht.dot]
  have h2 := ((h1.alloc _).alloc _).frNo hf2
  go_wp2_with fail
  refine (near_no p T n cap s line l st.next _ _ h2 (hnxt ▸ ht.brack)).mono ?_
  rintro e w3 ⟨rfl, hf3⟩
  have h3 := h2.frNo hf3
  go_wp2_with fail
  refine (near_no p T n cap s line l st.next _ _ h3 (hnxt ▸ ht.colons)).mono ?_
  rintro e w4 ⟨rfl, hf4⟩
  have h4 := h3.frNo hf4
  have hf14 : Fr No (w1.alloc _) w4 := ((((Fr.refl No _).alloc _).trans hf2).trans hf3).trans hf4
  have b4 := hf14.blk (blk_alloc _ b1) (fun q => q)
  have n4 := hf14.blk (blk_new w1 _) (fun q => q)
  obtain ⟨g0, g1, g2, g3, q0, q1, q2, q3, hz4⟩ := cells4 b4
  obtain ⟨m0, m1, m2, m3, r0, r1, r2, r3, hz5⟩ := cells4 n4
  go_wp2_with fail
  refine bodyPost_ret (v := .agg #[.int .i64 4, .string ⟨#[]⟩, .int .i64 v, .slice none 0 0]) ?_ rfl ⟨rfl, ?_, ?_⟩
  · simp [results, Tryz.results213, go_sem, g0, g1, g2, g3]
  · (repeat (first | with_reducible assumption | with_reducible refine Ps.drewN ?_ _ | with_reducible refine Ps.drew ?_ | with_reducible refine Ps.alloc ?_ _ | with_reducible refine Ps.put ?_ (by omega) (by omega) _ | with_reducible refine Ps.frNo ?_ (by with_reducible assumption)))
  · (repeat (first | with_reducible exact Fr.refl _ _ | with_reducible assumption | with_reducible refine Fr.drewN ?_ _ | with_reducible refine Fr.drew ?_ | with_reducible refine Fr.alloc ?_ _ | with_reducible refine Fr.setNew ?_ (by first | omega | (simp; omega)) _ | with_reducible refine Fr.setOnly ?_ _ | with_reducible refine Fr.trans ?_ (by with_reducible assumption) | with_reducible refine Fr.transNo ?_ (by with_reducible assumption)))
end Go.Proofs.YtngkobejdjjeeaaGreatDoor
