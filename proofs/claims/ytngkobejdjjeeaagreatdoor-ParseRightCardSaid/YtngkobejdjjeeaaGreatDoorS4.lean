/- scanner.digits: a number of one digit. -/
import Derived.Test.YtngkobejdjjeeaaGreatDoorS3
set_option linter.unusedSimpArgs false
set_option linter.unusedVariables false
namespace Go.Proofs.YtngkobejdjjeeaaGreatDoor
open Go.RowKit

attribute [local go_sem ↓] Go.wp_at_zero Go.wp_at_succ

theorem info5 : (Tryz.prog.info? 5).map (fun i => (i.zero, i.size, i.bytes)) = some (some (.int .u8 0), 1, 1) := by kernel_rfl

set_option maxHeartbeats 4000000 in
set_option maxRecDepth 100000 in
theorem digits_one (S : Nat) (src : ByteArray) (i : Nat) (sp : Bool) (v : Value) (l : List Tok) (w : World) (h : Sn S src i sp v l w) (c : UInt8) (hc : src.data.toList[i]? = some c) (hd : digitB c.toNat = true) (hz : c ≠ 48)
    (hn : i + 1 = src.size ∨ src.data.toList[i + 1]? = some 32) :
    Calls Tryz.prog 45 #[.pointer (some ⟨S, 0, none⟩)] w fun e w' =>
      e = .returned (.tuple #[]) ∧ (∃ v', Sn S src (i + 1) false v' (l ++ [⟨4, ⟨#[c]⟩, sp, 1, none, 0, 0⟩]) w') ∧ Fr (Ge S) w w' := by
  have c0 := h.c0
  have c1 := h.c1
  have c2 := h.c2
  have f1 := h.fz 1
  have hS := h.lt
  have hsm := h.small
  have hi := h.hi
  obtain ⟨hlt, hg⟩ := byte_at hc
  have hlt' : (i : Int) < src.size := by omega
  have hdig : ∀ w, Calls Tryz.prog 44 #[.int .u8 c.toNat] w fun e w' => e = .returned (.bool true) ∧ w' = w := fun w => hd ▸ isDigit_any c.toNat w
  have hz' : ((c.toNat : Int) == 48) = false := by
    rw [beq_eq_false_iff_ne]
    intro q
    apply hz
    apply UInt8.toNat.inj
    have : c.toNat = 48 := by omega
    simpa using this
  have hl0 : letterB 0 = false := by decide
  have hl32 : letterB 32 = false := by decide
  go_enter Tryz.func45, Tryz.ntmps45
  go_wp2_with fail
  refine wp_loop_rounds 1 ?_
  rw [rounds_succ]
  go_wp2_with fail
  refine wp_loop_rounds 2 ?_
  rw [rounds_succ]
  go_wp2_with fail
  go_quiet (exact Calls.quiet_of_same (hdig _))
  go_wp2_with fail
  obtain ⟨i0, hi0, hz0', hz1', hz2'⟩ := info_parts info5
  have hb := h.blk
  refine wp_region_post ?_
  intro Q0 hQ0
  go_region_law
    (first
      | (refine step_append_lies _ (by rfl) _ _ _ (by rfl) 0 5 i0 _ 1 1 Tryz.underlying64 hi0 hz0' hz1' hz2' rfl (by omega) (.slice none 0 0) 0 [] (by rfl) (World.ownsRow_nil _ _ _ _) ⟨_, 0, none⟩ 1 1 _ (by rfl) (by rfl) (World.news_of_block (t := 5) (fr := (0, 0)) (heap_alloc_new _ _)) (by simp [Value.oneCell']) (by omega) (by unfold maxLen; omega) (by omega) (by omega) _ rfl ?_; intro gg gcap w5 hown5 hgrow5 hat5 hlt5; have hf5 := Fr.grown (S := No) hgrow5))
  all_goals
    refine NoPanic.normal ?_
    rw [hQ0]
    have h5 := (((h.drewN nq).drew).alloc (.cells #[.int .u8 c.toNat] 5)).frNo hf5
    have k1 := h5.c1
    have l1 := h5.fz 1
    have z5 := h5.lt
    have h6 := h5.setInt ((i : Int) + 1) (i + 1) (by omega) (by omega) (by have := h.few; omega)
    have z6 := h6.lt
    have p0 := h6.c0
    have p1 := h6.c1
    have p2 := h6.c2
    rw [Int.natCast_add, Int.natCast_one] at p1
    have hgg : gg ≠ S := by
      rcases hat5 with q | q
      · cases q
      · rw [q]; simp; omega
    have t5 := hown5.cellAt 0 (by omega)
    have t6 : (w5.setCell ⟨S, 1, none⟩ (.int .i64 ((i : Int) + 1))).cell? ⟨gg, 0, none⟩ = some (.int .u8 c.toNat) := by
      exact (World.cell?_setCell_far w5 ⟨S, 1, none⟩ ⟨gg, 0, none⟩ _ (fun q => hgg q.symm)).trans t5
    have hfr : Fr (Ge S) w (w5.setCell ⟨S, 1, none⟩ (.int .i64 ((i : Int) + 1))) := ((((Fr.refl (Ge S) w).drewN nq).drew.alloc (.cells #[.int .u8 c.toNat] 5)).transNo hf5).at _
    have hback : ∀ n, (convert 64 9 (.slice (some ⟨gg, 0, none⟩) 1 gcap)).run Tryz.prog ((w5.setCell ⟨S, 1, none⟩ (.int .i64 ((i : Int) + 1))).drewN n) = .ok (.string ⟨#[c]⟩) ((w5.setCell ⟨S, 1, none⟩ (.int .i64 ((i : Int) + 1))).drewN n) := fun n =>
      run_convert_bytes_back (P := Tryz.prog) _ 64 9 5 ⟨gg, 0, none⟩ gcap [c] Tryz.underlying64 Tryz.underlying5 Tryz.underlying9 (fun j hj => by
        have e : j = 0 := by simpa using hj
        subst e
        exact t6)
    go_wp2_with fail
    rw [rounds_succ]
    generalize hW6 : w5.setCell ⟨S, 1, none⟩ (.int .i64 ((i : Int) + 1)) = W6 at *
    rcases hn with hn | hn
    · have hend : decide ((i : Int) + 1 < src.size) = false := by simp; omega
      go_wp2_with fail
      go_quiet (fail)
      go_wp2_with fail
      refine (peek_over0 S src (i + 1) sp v l _ (h6.drewN _) hn).mono ?_
      rintro e w7 ⟨rfl, m7, rfl⟩
      go_wp2_with fail
      refine (peek_over0 S src (i + 1) sp v l _ (h6.drewN _) hn).mono ?_
      rintro e w8 ⟨rfl, m8, rfl⟩
      go_wp2_with fail
      refine (isLetter_any _ _).mono ?_
      rintro e w9 ⟨rfl, rfl⟩
      rw [hl0]
      go_wp2_with fail
      refine (add_tok S src (i + 1) sp v l _ (h6.drewN _) (by have := h6.few; have := h.few; omega) 4 ⟨#[c]⟩).mono ?_
      rintro e w10 ⟨rfl, ⟨v', h10⟩, hf10⟩
      go_wp2_with fail
      go_end0
      exact ⟨rfl, ⟨v', h10⟩, (hfr.drewN _).trans hf10⟩
    · obtain ⟨hlt1, hg1⟩ := byte_at hn
      have hlt1' : (i : Int) + 1 < src.size := by omega
      have ht1 : ((i : Int) + 1).toNat = i + 1 := by omega
      have hd32 : ∀ w, Calls Tryz.prog 44 #[.int .u8 32] w fun e w' => e = .returned (.bool false) ∧ w' = w := fun w => isDigit_any 32 w
      go_wp2_with fail
      go_quiet (exact Calls.quiet_of_same (hd32 _))
      go_wp2_with fail
      refine (peek_in0 S src (i + 1) sp v l _ (h6.drewN _) 32 hn).mono ?_
      rintro e w7 ⟨rfl, m7, rfl⟩
      go_wp2_with fail
      refine (peek_in0 S src (i + 1) sp v l _ (h6.drewN _) 32 hn).mono ?_
      rintro e w8 ⟨rfl, m8, rfl⟩
      go_wp2_with fail
      refine (isLetter_any _ _).mono ?_
      rintro e w9 ⟨rfl, rfl⟩
      rw [hl32]
      go_wp2_with fail
      refine (add_tok S src (i + 1) sp v l _ (h6.drewN _) (by have := h6.few; have := h.few; omega) 4 ⟨#[c]⟩).mono ?_
      rintro e w10 ⟨rfl, ⟨v', h10⟩, hf10⟩
      go_wp2_with fail
      go_end0
      exact ⟨rfl, ⟨v', h10⟩, (hfr.drewN _).trans hf10⟩
end Go.Proofs.YtngkobejdjjeeaaGreatDoor
