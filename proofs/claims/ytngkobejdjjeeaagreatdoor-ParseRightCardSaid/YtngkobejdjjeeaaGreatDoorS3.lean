/- scanner.peek, add, word. -/
import Derived.Test.YtngkobejdjjeeaaGreatDoorS2
set_option linter.unusedSimpArgs false
set_option linter.unusedVariables false
namespace Go.Proofs.YtngkobejdjjeeaaGreatDoor
open Go.RowKit

attribute [local go_sem ↓] Go.wp_at_zero Go.wp_at_succ

theorem byte_at {src : ByteArray} {i : Nat} {c : UInt8} (hc : src.data.toList[i]? = some c) : ∃ h : i < src.size, src[i]'h = c := by
  rw [Array.getElem?_toList] at hc
  obtain ⟨h, e⟩ := Array.getElem?_eq_some_iff.1 hc
  exact ⟨h, e⟩

theorem peek_in0 (S : Nat) (src : ByteArray) (i : Nat) (sp : Bool) (v : Value) (l : List Tok) (w : World) (h : Sn S src i sp v l w) (c : UInt8) (hc : src.data.toList[i]? = some c) :
    Calls Tryz.prog 48 #[.pointer (some ⟨S, 0, none⟩), .int .i64 0] w fun e w' => e = .returned (.int .u8 c.toNat) ∧ ∃ m, w' = w.drewN m := by
  have c0 := h.c0
  have c1 := h.c1
  have hs := h.small
  obtain ⟨hlt, hg⟩ := byte_at hc
  have hlt' : (i : Int) < src.size := by omega
  go_enter Tryz.func48, Tryz.ntmps48
  go_wp2_with fail
  go_quiet (fail)
  go_wp2_with fail
  go_region
  all_goals go_wp2
  go_ret
  exact ⟨rfl, _, rfl⟩

theorem peek_in1 (S : Nat) (src : ByteArray) (i : Nat) (sp : Bool) (v : Value) (l : List Tok) (w : World) (h : Sn S src i sp v l w) (c : UInt8) (hc : src.data.toList[i + 1]? = some c) :
    Calls Tryz.prog 48 #[.pointer (some ⟨S, 0, none⟩), .int .i64 1] w fun e w' => e = .returned (.int .u8 c.toNat) ∧ ∃ m, w' = w.drewN m := by
  have c0 := h.c0
  have c1 := h.c1
  have hs := h.small
  obtain ⟨hlt, hg⟩ := byte_at hc
  have hlt' : (i : Int) + 1 < src.size := by omega
  have ht : ((i : Int) + 1).toNat = i + 1 := by omega
  go_enter Tryz.func48, Tryz.ntmps48
  go_wp2_with fail
  go_quiet (fail)
  go_wp2_with fail
  go_region
  all_goals go_wp2
  go_ret
  exact ⟨rfl, _, rfl⟩

theorem peek_over0 (S : Nat) (src : ByteArray) (i : Nat) (sp : Bool) (v : Value) (l : List Tok) (w : World) (h : Sn S src i sp v l w) (hi : i = src.size) :
    Calls Tryz.prog 48 #[.pointer (some ⟨S, 0, none⟩), .int .i64 0] w fun e w' => e = .returned (.int .u8 0) ∧ ∃ m, w' = w.drewN m := by
  have c0 := h.c0
  have c1 := h.c1
  have hs := h.small
  have hlt' : ¬ (i : Int) < src.size := by omega
  have hi2 := h.hi
  clear hi
  go_enter Tryz.func48, Tryz.ntmps48
  go_wp2_with fail
  go_quiet (fail)
  go_wp2_with fail
  refine bodyPost_ret (v := .int .u8 0) (by simp [results, Tryz.results48, go_sem]) rfl ⟨rfl, _, rfl⟩

theorem Fr.ofRow {S : Nat} {w w' : World} {e : TypeId} {size : Nat} {v : Value} {n : Nat} {xs : List Value} (h : w.ownsRow (S + 1) e size v n xs) (hg : w.grownBy w' v.ownBlock) : Fr (Ge S) w w' :=
  ⟨hg.os, hg.tape, hg.output, hg.size, fun k hk hn => hg.block k hk (fun e => by
    have := (h.lt k e.symm).1
    simp only [Ge] at hn
    omega)⟩

theorem own_ne {S : Nat} {w : World} {e : TypeId} {size : Nat} {v : Value} {n : Nat} {xs : List Value} (h : w.ownsRow (S + 1) e size v n xs) : some S ≠ v.ownBlock := fun q => by
  have := (h.lt S q.symm).1
  omega

set_option maxHeartbeats 1000000 in
theorem add_tok (S : Nat) (src : ByteArray) (i : Nat) (sp : Bool) (v : Value) (l : List Tok) (w : World) (h : Sn S src i sp v l w) (hl : l.length < i) (kind : Int) (text : ByteArray) :
    Calls Tryz.prog 41 #[.pointer (some ⟨S, 0, none⟩), .int .i64 kind, .string text, .int .i64 1] w fun e w' =>
      e = .returned (.tuple #[]) ∧ (∃ v', Sn S src i false v' (l ++ [⟨kind, text, sp, 1, none, 0, 0⟩]) w') ∧ Fr (Ge S) w w' := by
  have c3 := h.c3
  have c5 := h.c5
  have hS := h.lt
  have hsm := h.small
  have hi := h.hi
  have hown := h.own
  have hb := h.blk
  obtain ⟨i0, hi0, hz0', hz1', hz2'⟩ := info_parts info73
  go_enter Tryz.func41, Tryz.ntmps41
  go_wp2_with fail
  refine wp_region_noPanic ?_
  go_region_law
    (first
      | (refine step_append_lies _ (by rfl) _ _ _ (by rfl) (S + 1) 73 i0 _ 5 64 Tryz.underlying43 hi0 hz0' hz1' hz2' rfl (by omega) v l.length (l.flatMap tokCells) (by rfl) (by exact (hown.drew.alloc _)) ⟨_, 0, none⟩ 1 1 _ (by rfl) (by rfl) (World.news_of_block (t := 73) (fr := (0, 0)) (heap_alloc_new _ _)) (by simp [Value.oneCell']) (by omega) (by unfold maxLen; omega) (by omega) (by simp; omega) _ rfl ?_; intro gg gcap w5 hown5 hgrow5 hat5 hlt5; have hf5 := Fr.ofRow (hown.drew.alloc _) hgrow5; have b5 := (hgrow5.block S (by simp; omega) (own_ne hown)).trans (blk_alloc _ hb); have k3 := blk_cell (o := 3) b5 rfl; have f3 := blk_free (o := 3) b5; have z5 := blk_lt b5))
  all_goals
    refine NoPanic.normal ?_
    have b6 := blk_set (o := 3) (.slice (some ⟨gg, 0, none⟩) (l.length + 1) gcap) b5
    have f6 := blk_free (o := 5) b6
    have z6 := blk_lt b6
    have k6 := blk_cell (o := 5) b6 rfl
    go_wp2_with fail
    go_end0
    refine ⟨rfl, ⟨_, blk_set (o := 5) (.bool false) b6, ?_, hi, hsm, ?_⟩, ?_⟩
    · have := ownsRow_setCell_below (ownsRow_setCell_below hown5 (a := ⟨S, 3, none⟩) (by simp) (.slice (some ⟨gg, 0, none⟩) (l.length + 1) gcap)) (a := ⟨S, 5, none⟩) (by simp) (.bool false)
      simpa [tokCells] using this
    · simp; omega
    · exact ((((Fr.refl (Ge S) w).drew.alloc _).trans hf5).setCell (p := ⟨S, 3, none⟩) (Or.inl (Nat.le_refl _)) _).setCell (p := ⟨S, 5, none⟩) (Or.inl (Nat.le_refl _)) _

/-- A step that stays in the scanner's own block. -/
theorem Fr.at {S : Nat} {a w : World} {o : Nat} (h : Fr (Ge S) a w) (u : Value) : Fr (Ge S) a (w.setCell ⟨S, o, none⟩ u) := h.setCell (p := ⟨S, o, none⟩) (Or.inl (Nat.le_refl _)) u
end Go.Proofs.YtngkobejdjjeeaaGreatDoor
