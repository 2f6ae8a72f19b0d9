/- A number as unary; the signs of a level. -/
import Derived.Test.YtngkobejdjjeeaaGreatDoorA4
set_option linter.unusedSimpArgs false
set_option linter.unusedVariables false
namespace Go.Proofs.YtngkobejdjjeeaaGreatDoor
open Go.RowKit

theorem isTok_kind {t : Tok} {k : Int} (h : t.kind ≠ k) (zs : List ByteArray) : isTok t k zs = false := by simp [isTok, h]

/-- A token that is a number. -/
structure IsNum (t : Tok) (v : Int) : Prop where
  kind : t.kind = 4
  size : t.text.size ≤ 18
  val : Lib.atoi t.text.data.toList = some v
  max : v ≤ 1000000000000000

theorem unary_num (p T n cap s : Nat) (line : Int) (l : List Tok) (st : St) (w : World) (h : Ps p T n cap s line l st w) (v : Int) (hn : IsNum (tokAt l st.i) v) (hcmd : st.cmd = false) (ht : NoTail (tokAt l (st.i + 1))) :
   Calls Tryz.prog 188 #[.pointer (some ⟨p, 0, none⟩)] w fun e w' => e = .returned (.agg #[.int .i64 4, .string ⟨#[]⟩, .int .i64 v, .slice none 0 0]) ∧ Ps p T n cap s line l st.next w' ∧ Fr (Only p) w w' := by
  have hno := fun zs => isTok_kind (t := tokAt l st.i) (k := 7) (by rw [hn.kind]; omega) zs
  have hpo := fun w h => postfix_num p T n cap s line l st w h v hn.kind hn.size hn.val hn.max hcmd ht
  have hp := h.lt
  have hT := h.hT
  go_enter Tryz.func188, Tryz.ntmps188
  go_wp2_with fail
  refine (take_no p T n cap s line l st 7 _ _ (h.alloc _) (hno _)).mono ?_
  rintro e w1 ⟨rfl, hf1⟩
  have h1 := (h.alloc _).frNo hf1
  go_wp2_with fail
  refine (take_no p T n cap s line l st 7 _ _ h1 (hno _)).mono ?_
  rintro e w2 ⟨rfl, hf2⟩
  have h2 := h1.frNo hf2
  go_wp2_with fail
  refine (hpo _ h2).mono ?_
  rintro e w3 ⟨rfl, h3, hf3⟩
  have hf03 : Fr (Only p) (w.alloc _) w3 := (((Fr.refl _ _).transNo hf1).transNo hf2).trans hf3
  have b3 := hf03.blk (blk_new w _) (not_only hp)
  obtain ⟨g0, g1, g2, g3, q0, q1, q2, q3, hz⟩ := cells4 b3
  go_wp2_with fail
  refine bodyPost_ret (v := .agg #[.int .i64 4, .string ⟨#[]⟩, .int .i64 v, .slice none 0 0]) ?_ rfl ⟨rfl, ?_, ?_⟩
  · simp [results, Tryz.results188, go_sem, g0, g1, g2, g3]
  · (repeat (first | with_reducible assumption | with_reducible refine Ps.drewN ?_ _ | with_reducible refine Ps.drew ?_ | with_reducible refine Ps.alloc ?_ _ | with_reducible refine Ps.put ?_ (by omega) (by omega) _ | with_reducible refine Ps.frNo ?_ (by with_reducible assumption)))
  · (repeat (first | with_reducible exact Fr.refl _ _ | with_reducible assumption | with_reducible refine Fr.drewN ?_ _ | with_reducible refine Fr.drew ?_ | with_reducible refine Fr.alloc ?_ _ | with_reducible refine Fr.setNew ?_ (by first | omega | (simp; omega)) _ | with_reducible refine Fr.setOnly ?_ _ | with_reducible refine Fr.trans ?_ (by with_reducible assumption) | with_reducible refine Fr.transNo ?_ (by with_reducible assumption)))

/-- The signs of a level. -/
def levelOps : Nat → List ByteArray
  | 0 => [⟨#[124, 124]⟩]
  | 1 => [⟨#[38, 38]⟩]
  | 2 => [⟨#[61, 61]⟩, ⟨#[33, 61]⟩, ⟨#[61, 61, 61]⟩, ⟨#[60, 61, 62]⟩]
  | 3 => [⟨#[60]⟩, ⟨#[60, 61]⟩, ⟨#[62]⟩, ⟨#[62, 61]⟩]
  | 4 => [⟨#[46, 46]⟩]
  | 5 => [⟨#[60, 60]⟩]
  | 6 => [⟨#[43]⟩, ⟨#[45]⟩]
  | _ => [⟨#[42]⟩, ⟨#[47]⟩, ⟨#[37]⟩]

/-- What level leaves: the signs in a new row. -/
def LevelPost (n : Nat) (w : World) (e : Ending) (w' : World) : Prop :=
  e = .returned (.slice (some ⟨w.heap.size, 0, none⟩) (levelOps n).length (levelOps n).length) ∧ Strs w' w.heap.size (levelOps n) ∧ w.heap.size < w'.heap.size ∧ Fr No w w'

theorem level_any (n : Nat) (hn : n ≤ 7) (w : World) : Calls Tryz.prog 189 #[.int .i64 n] w (LevelPost n w) := by
  have fin : ∀ (zs : List ByteArray), zs = levelOps n → LevelPost n w (.returned (.slice (some ⟨w.heap.size, 0, none⟩) zs.length zs.length)) (w.alloc (.cells (zs.map Value.string).toArray 9)) := by
    rintro zs rfl
    exact ⟨rfl, strs_new _ _ _ _ (blk_new _ _), by simp, (Fr.refl _ _).alloc _⟩
  rcases n with _ | _ | _ | _ | _ | _ | _ | _ | n
  all_goals first
    | (go_enter Tryz.func189, Tryz.ntmps189
       go_wp2
       go_ret
       exact fin _ rfl)
    | omega
end Go.Proofs.YtngkobejdjjeeaaGreatDoor
