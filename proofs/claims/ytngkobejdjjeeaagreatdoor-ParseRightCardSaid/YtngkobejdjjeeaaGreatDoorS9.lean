/- IsKeyword of the name p; scanner.word, full, words of it. -/
import Derived.Test.YtngkobejdjjeeaaGreatDoorS8
import Derived.ChangeAgain
set_option linter.unusedSimpArgs false
set_option linter.unusedVariables false
namespace Go.Proofs.YtngkobejdjjeeaaGreatDoor
open Go.RowKit

theorem shaped_fr {w w' : World} (h : w.ShapedOpen Tryz.prog) (hf : Fr No w w') : w'.ShapedOpen Tryz.prog := by
  refine h.keptBut (may := fun _ => False) ⟨hf.os, hf.output, fun i hi => ?_⟩ (fun _ q => q.elim)
  rw [hf.block i hi (fun q => q)]
  cases hx : w.heap[i]? with
  | none => rfl
  | some o => cases o <;> simp

def kwBytes : ByteArray := ⟨#[32, 97, 108, 105, 97, 115, 32, 98, 101, 103, 105, 110, 32, 98, 114, 101, 97, 107, 32, 99, 97, 115, 101, 32, 99, 108, 97, 115, 115, 32, 100, 101, 102, 32, 100, 111, 32, 101, 108, 115, 101, 32, 101, 108, 115, 105, 102, 32, 101, 110, 100, 32, 101, 110, 115, 117, 114, 101, 32, 102, 97, 108, 115, 101, 32, 105, 102, 32, 105, 110, 32, 109, 111, 100, 117, 108, 101, 32, 110, 101, 120, 116, 32, 110, 105, 108, 32, 114, 101, 115, 99, 117, 101, 32, 114, 101, 116, 114, 121, 32, 114, 101, 116, 117, 114, 110, 32, 115, 101, 108, 102, 32, 115, 117, 112, 101, 114, 32, 116, 104, 101, 110, 32, 116, 114, 117, 101, 32, 117, 110, 100, 101, 102, 32, 117, 110, 108, 101, 115, 115, 32, 117, 110, 116, 105, 108, 32, 117, 115, 105, 110, 103, 32, 119, 104, 101, 110, 32, 119, 104, 105, 108, 101, 32, 121, 105, 101, 108, 100, 32]⟩

set_option maxRecDepth 100000 in
theorem isKeyword_p (w : World) (hw : w.ShapedOpen Tryz.prog) : Calls Tryz.prog 85 #[.string ⟨#[112]⟩] w fun e w' => e = .returned (.bool false) ∧ w' = w := by
  have h1 : Calls Tryz.prog 130 #[.string ⟨#[112]⟩, .string ⟨#[32]⟩] w fun e w' => e = .returned (.bool false) ∧ w' = w :=
    Tryz.strings_Contains_shaped ⟨#[112]⟩ ⟨#[32]⟩ _ hw (by decide)
  have h2 : Calls Tryz.prog 130 #[.string kwBytes, .string ⟨#[32, 112, 32]⟩] w fun e w' => e = .returned (.bool false) ∧ w' = w := by
    have := Tryz.strings_Contains_shaped kwBytes ⟨#[32, 112, 32]⟩ w hw (by decide +kernel)
    rw [show Lib.contains kwBytes.data.toList (⟨#[32, 112, 32]⟩ : ByteArray).data.toList = false from by decide +kernel] at this
    exact this
  unfold kwBytes at h2
  go_enter Tryz.func85, Tryz.ntmps85
  go_wp2_with fail
  refine h1.mono ?_
  rintro e w1 ⟨rfl, rfl⟩
  go_wp2_with fail
  refine h2.mono ?_
  rintro e w1 ⟨rfl, rfl⟩
  go_wp2_with fail
  go_ret
  exact ⟨rfl, rfl⟩

set_option maxHeartbeats 1000000 in
set_option maxRecDepth 100000 in
theorem word_p (S : Nat) (src : ByteArray) (sp : Bool) (v : Value) (w : World) (h : Sn S src 0 sp v [] w) (h0 : src.data.toList[0]? = some 112) (h1 : src.data.toList[1]? = some 32) (hx : src.extract 0 1 = ⟨#[112]⟩) :
    Calls Tryz.prog 50 #[.pointer (some ⟨S, 0, none⟩)] w fun e w' => e = .returned (.string ⟨#[112]⟩) ∧ Sn S src 1 sp v [] w' ∧ Fr (Ge S) w w' := by
  have c0 := h.c0
  have c1 := h.c1
  have f1 := h.fz 1
  have hS := h.lt
  have hsm := h.small
  obtain ⟨hlt0, hg0⟩ := byte_at h0
  obtain ⟨hlt1, hg1⟩ := byte_at h1
  have hl0 : (0 : Int) < src.size := by omega
  have hl1 : (1 : Int) < src.size := by omega
  have w112 : ∀ w, Calls Tryz.prog 88 #[.int .u8 112] w fun e w' => e = .returned (.bool true) ∧ w' = w := fun w => isWord_any 112 w
  have w32 : ∀ w, Calls Tryz.prog 88 #[.int .u8 32] w fun e w' => e = .returned (.bool false) ∧ w' = w := fun w => isWord_any 32 w
  go_enter Tryz.func50, Tryz.ntmps50
  go_wp2_with fail
  refine wp_loop_rounds 2 ?_
  rw [rounds_succ]
  go_wp2_with fail
  go_quiet (exact Calls.quiet_of_same (w112 _))
  go_wp2_with fail
  rw [rounds_succ]
  have h2 := (h.drewN nq).setInt 1 1 rfl (by omega) (by simp)
  have hf2 : Fr (Ge S) w ((w.drewN nq).setCell ⟨S, 1, none⟩ (.int .i64 1)) := ((Fr.refl (Ge S) w).drewN _).at _
  generalize (w.drewN nq).setCell ⟨S, 1, none⟩ (.int .i64 1) = w2 at *
  have p0 := h2.c0
  have p1 := h2.c1
  have z2 := h2.lt
  have ps : (1 : Int) ≤ src.size := by omega
  have pt : src.size ≤ 1000 := hsm
  go_wp2_with fail
  go_quiet (exact Calls.quiet_of_same (w32 _))
  go_wp2_with fail
  go_quiet (fail)
  go_wp2_with fail
  refine bodyPost_ret (v := .string ⟨#[112]⟩) (by simp [results, Tryz.results50, go_sem, hx]) rfl ⟨rfl, (h2.drewN _).drewN _, (hf2.drewN _).drewN _⟩

set_option maxHeartbeats 1000000 in
set_option maxRecDepth 100000 in
theorem full_p (S : Nat) (src : ByteArray) (sp : Bool) (v : Value) (w : World) (h : Sn S src 0 sp v [] w) (h0 : src.data.toList[0]? = some 112) (h1 : src.data.toList[1]? = some 32) (hx : src.extract 0 1 = ⟨#[112]⟩) :
    Calls Tryz.prog 84 #[.pointer (some ⟨S, 0, none⟩)] w fun e w' => e = .returned (.string ⟨#[112]⟩) ∧ Sn S src 1 sp v [] w' ∧ Fr (Ge S) w w' := by
  have hw := word_p S src sp v w h h0 h1 hx
  go_enter Tryz.func84, Tryz.ntmps84
  go_wp2_with fail
  refine hw.mono ?_
  rintro e w1 ⟨rfl, hs1, hf1⟩
  go_wp2_with fail
  refine (peek_in0 S src 1 sp v [] _ hs1 32 h1).mono ?_
  rintro e w2 ⟨rfl, m2, rfl⟩
  go_wp2_with fail
  refine bodyPost_ret (v := .string ⟨#[112]⟩) (by simp [results, Tryz.results84, go_sem]) rfl ⟨rfl, hs1.drewN _, hf1.drewN _⟩

set_option maxHeartbeats 2000000 in
set_option maxRecDepth 100000 in
theorem words_p (S : Nat) (src : ByteArray) (sp : Bool) (a : Option Addr) (cap : Nat) (w : World) (h : Sn S src 0 sp (.slice a 0 cap) [] w) (hw : ∀ w', Fr (Ge S) w w' → w'.ShapedOpen Tryz.prog) (h0 : src.data.toList[0]? = some 112) (h1 : src.data.toList[1]? = some 32) (hx : src.extract 0 1 = ⟨#[112]⟩) :
    Calls Tryz.prog 43 #[.pointer (some ⟨S, 0, none⟩)] w fun e w' => e = .returned (.tuple #[]) ∧ (∃ v', Sn S src 1 false v' [⟨1, ⟨#[112]⟩, sp, 1, none, 0, 0⟩] w') ∧ Fr (Ge S) w w' := by
  have hfull := fun n => full_p S src sp (.slice a 0 cap) _ (h.drewN n) h0 h1 hx
  have c0 := h.c0
  have c1 := h.c1
  have c2 := h.c2
  have hS := h.lt
  have hsm := h.small
  obtain ⟨hlt0, hg0⟩ := byte_at h0
  have hl0 : (0 : Int) < src.size := by omega
  have s112 : ∀ w, Calls Tryz.prog 47 #[.int .u8 112] w fun e w' => e = .returned (.bool true) ∧ w' = w := fun w => isSmall_any 112 w
  go_enter Tryz.func43, Tryz.ntmps43
  go_wp2_with fail
  go_quiet (exact Calls.quiet_of_same (s112 _))
  go_wp2_with fail
  refine (hfull _).mono ?_
  rintro e w1 ⟨rfl, hs1, hf1⟩
  go_wp2_with fail
  refine (peek_in0 S src 1 sp _ [] _ hs1 32 h1).mono ?_
  rintro e w2 ⟨rfl, m2, rfl⟩
  have hs2 := hs1.drewN m2
  have c3 := hs1.c3
  have z2 := hs1.lt
  go_wp2_with fail
  go_quiet (fail)
  go_wp2_with fail
  refine (isKeyword_p _ (hw _ (by exact (((Fr.refl (Ge S) w).drewN _).trans hf1).drewN _))).mono ?_
  rintro e w3 ⟨rfl, rfl⟩
  go_wp2_with fail
  refine (add_tok S src 1 sp _ [] _ (hs1.drewN _) (by simp) 1 ⟨#[112]⟩).mono ?_
  rintro e w10 ⟨rfl, ⟨v', h10⟩, hf10⟩
  go_wp2_with fail
  go_end0
  exact ⟨rfl, ⟨v', h10⟩, ((((Fr.refl (Ge S) w).drewN _).trans hf1).drewN _).trans hf10⟩

set_option maxRecDepth 100000 in
theorem next_p (S : Nat) (src : ByteArray) (sp : Bool) (a : Option Addr) (cap : Nat) (w : World) (h : Sn S src 0 sp (.slice a 0 cap) [] w) (hw : ∀ w', Fr (Ge S) w w' → w'.ShapedOpen Tryz.prog) (h0 : src.data.toList[0]? = some 112) (h1 : src.data.toList[1]? = some 32) (hx : src.extract 0 1 = ⟨#[112]⟩) :
    Calls Tryz.prog 26 #[.pointer (some ⟨S, 0, none⟩)] w fun e w' => e = .returned (.tuple #[]) ∧ (∃ v', Sn S src 1 false v' [⟨1, ⟨#[112]⟩, sp, 1, none, 0, 0⟩] w') ∧ Fr (Ge S) w w' := by
  have hwd := fun n => words_p S src sp a cap _ (h.drewN n) (fun w' hf => hw w' (((Fr.refl (Ge S) w).drewN n).trans hf)) h0 h1 hx
  have c0 := h.c0
  have c1 := h.c1
  have hS := h.lt
  obtain ⟨hlt, hg⟩ := byte_at h0
  have hlt' : (0 : Int) < src.size := by omega
  have hbl : ∀ w, Calls Tryz.prog 39 #[.int .u8 112] w fun e w' => e = .returned (.bool false) ∧ w' = w := fun w => isBlank_any 112 w
  have hle : ∀ w, Calls Tryz.prog 42 #[.int .u8 112] w fun e w' => e = .returned (.bool true) ∧ w' = w := fun w => isLetter_any 112 w
  go_enter Tryz.func26, Tryz.ntmps26
  go_wp2_with fail
  go_quiet (fail)
  go_wp2_with fail
  refine (hbl _).mono ?_
  rintro e w1 ⟨rfl, rfl⟩
  go_wp2_with fail
  refine (hle _).mono ?_
  rintro e w1 ⟨rfl, rfl⟩
  go_wp2_with fail
  refine (hwd _).mono ?_
  rintro e w2 ⟨rfl, ⟨v', h2⟩, hf2⟩
  go_wp2_with fail
  go_end0
  exact ⟨rfl, ⟨v', h2⟩, ((Fr.refl (Ge S) w).drewN _).trans hf2⟩

def pText : ByteArray := ⟨#[112, 32, 53]⟩
def pTok : Tok := ⟨1, ⟨#[112]⟩, false, 1, none, 0, 0⟩
def fiveTok : Tok := ⟨4, ⟨#[53]⟩, true, 1, none, 0, 0⟩
def pToks : List Tok := [pTok, fiveTok]

theorem scan_p (G : World → Prop) (hG : ∀ w w', G w → Fr No w w' → G w') (hsh : ∀ w, G w → w.ShapedOpen Tryz.prog) (w : World) (hw : G w) :
    Calls Tryz.prog 18 #[.string pText] w (ScanPost pToks w) := by
  refine scan_pass G hG pText pToks 4 ⟨[pTok], fiveTok, rfl, rfl⟩ rfl (fun i sp l => (i = 0 ∧ sp = false ∧ l = []) ∨ (i = 1 ∧ sp = false ∧ l = [pTok]) ∨ (i = 2 ∧ sp = true ∧ l = [pTok]) ∨ (i = 3 ∧ sp = false ∧ l = pToks)) (.inl ⟨rfl, rfl, rfl⟩) (by decide) ?_ ?_ w hw
  · intro S i sp v l w hw hGS hI hlt hs
    rcases hI with ⟨rfl, rfl, rfl⟩ | ⟨rfl, rfl, rfl⟩ | ⟨rfl, rfl, rfl⟩ | ⟨rfl, rfl, rfl⟩
    · obtain ⟨a, cap, rfl⟩ : ∃ a cap, v = .slice a 0 cap := by
        rcases hs.own.2 with ⟨h, _⟩ | ⟨g, cap, _, h, _⟩
        · exact ⟨_, _, h⟩
        · exact ⟨_, _, h⟩
      refine (next_p S pText false a cap w hs ?_ rfl rfl rfl).mono ?_
      · intro w' hf
        exact hsh _ (hGS _ hf)
      · rintro e w' ⟨rfl, ⟨v', h'⟩, hf⟩
        exact ⟨rfl, ⟨1, false, v', _, by omega, .inr (.inl ⟨rfl, rfl, rfl⟩), h'⟩, hf⟩
    · refine (next_blank S pText 1 false v [pTok] w hs rfl).mono ?_
      rintro e w' ⟨rfl, h', hf⟩
      exact ⟨rfl, ⟨2, true, v, _, by omega, .inr (.inr (.inl ⟨rfl, rfl, rfl⟩)), h'⟩, hf⟩
    · refine (next_num S pText 2 true v [pTok] w hs 53 rfl (.inr rfl) (.inl rfl)).mono ?_
      rintro e w' ⟨rfl, ⟨v', h'⟩, hf⟩
      exact ⟨rfl, ⟨3, false, v', _, by omega, .inr (.inr (.inr ⟨rfl, rfl, rfl⟩)), h'⟩, hf⟩
    · exact absurd hlt (by decide)
  · intro sp l hI
    rcases hI with ⟨h, _⟩ | ⟨h, _⟩ | ⟨h, _⟩ | ⟨_, _, rfl⟩
    · exact absurd h (by decide)
    · exact absurd h (by decide)
    · exact absurd h (by decide)
    · rfl
end Go.Proofs.YtngkobejdjjeeaaGreatDoor
