/- scanner.next: a blank, a number, a sign. -/
import Derived.Test.YtngkobejdjjeeaaGreatDoorS5
import Derived.Test.YtngkobejdjjeeaaGreatDoorP0
set_option linter.unusedSimpArgs false
set_option linter.unusedVariables false
namespace Go.Proofs.YtngkobejdjjeeaaGreatDoor
open Go.RowKit

theorem isBlank_any (c : Int) (w : World) : Calls Tryz.prog 39 #[.int .u8 c] w fun e w' => e = .returned (.bool (c == 32 || c == 9)) ∧ w' = w := by
  go_enter Tryz.func39, Tryz.ntmps39
  go_wp2
  all_goals go_ret
  all_goals simp_all

set_option maxRecDepth 100000 in
theorem next_blank (S : Nat) (src : ByteArray) (i : Nat) (sp : Bool) (v : Value) (l : List Tok) (w : World) (h : Sn S src i sp v l w) (hc : src.data.toList[i]? = some 32) :
    Calls Tryz.prog 26 #[.pointer (some ⟨S, 0, none⟩)] w fun e w' => e = .returned (.tuple #[]) ∧ Sn S src (i + 1) true v l w' ∧ Fr (Ge S) w w' := by
  have c0 := h.c0
  have c1 := h.c1
  have c5 := h.c5
  have f1 := h.fz 1
  have f5 := h.fz 5
  have hS := h.lt
  have hsm := h.small
  have hi := h.hi
  obtain ⟨hlt, hg⟩ := byte_at hc
  have hlt' : (i : Int) < src.size := by omega
  have hbl : ∀ w, Calls Tryz.prog 39 #[.int .u8 32] w fun e w' => e = .returned (.bool true) ∧ w' = w := fun w => isBlank_any 32 w
  go_enter Tryz.func26, Tryz.ntmps26
  go_wp2_with fail
  go_quiet (fail)
  go_wp2_with fail
  refine (hbl _).mono ?_
  rintro e w1 ⟨rfl, rfl⟩
  go_wp2_with fail
  go_end0
  exact ⟨rfl, ((h.drewN _).setInt _ (i + 1) (by omega) (by omega) (by have := h.few; omega)).setSp true, (((Fr.refl (Ge S) w).drewN _).at _).at _⟩

/-- What is neither a blank nor one of a few other signs. -/
def plainB (c : Int) : Bool := !(c == 32 || c == 9) && !(c == 10) && !(c == 35) && !(c == 59)

set_option maxHeartbeats 1000000 in
set_option maxRecDepth 100000 in
theorem next_num (S : Nat) (src : ByteArray) (i : Nat) (sp : Bool) (v : Value) (l : List Tok) (w : World) (h : Sn S src i sp v l w) (c : UInt8) (hc : src.data.toList[i]? = some c) (hcc : c = 49 ∨ c = 53)
    (hn : i + 1 = src.size ∨ src.data.toList[i + 1]? = some 32) :
    Calls Tryz.prog 26 #[.pointer (some ⟨S, 0, none⟩)] w fun e w' =>
      e = .returned (.tuple #[]) ∧ (∃ v', Sn S src (i + 1) false v' (l ++ [⟨4, ⟨#[c]⟩, sp, 1, none, 0, 0⟩]) w') ∧ Fr (Ge S) w w' := by
  have hdg := fun w h => digits_one S src i sp v l w h c hc (by rcases hcc with rfl | rfl <;> decide) (by rcases hcc with rfl | rfl <;> decide) hn
  have c0 := h.c0
  have c1 := h.c1
  have hS := h.lt
  have hsm := h.small
  have hi := h.hi
  obtain ⟨hlt, hg⟩ := byte_at hc
  have hlt' : (i : Int) < src.size := by omega
  rcases hcc with rfl | rfl
  · have hbl : ∀ w, Calls Tryz.prog 39 #[.int .u8 49] w fun e w' => e = .returned (.bool false) ∧ w' = w := fun w => isBlank_any 49 w
    have hle : ∀ w, Calls Tryz.prog 42 #[.int .u8 49] w fun e w' => e = .returned (.bool false) ∧ w' = w := fun w => isLetter_any 49 w
    have hdi : ∀ w, Calls Tryz.prog 44 #[.int .u8 49] w fun e w' => e = .returned (.bool true) ∧ w' = w := fun w => isDigit_any 49 w
    go_enter Tryz.func26, Tryz.ntmps26
    go_wp2_with fail
    go_quiet (fail)
    go_wp2_with fail
    refine (hbl _).mono ?_
    rintro e w1 ⟨rfl, rfl⟩
    go_wp2_with fail
    refine (hle _).mono ?_
    rintro e w1 ⟨rfl, rfl⟩
    go_wp2_with fail
    refine (hdi _).mono ?_
    rintro e w1 ⟨rfl, rfl⟩
    go_wp2_with fail
    refine (hdg _ (h.drewN _)).mono ?_
    rintro e w2 ⟨rfl, ⟨v', h2⟩, hf2⟩
    go_wp2_with fail
    go_end0
    exact ⟨rfl, ⟨v', h2⟩, ((Fr.refl (Ge S) w).drewN _).trans hf2⟩
  · have hbl : ∀ w, Calls Tryz.prog 39 #[.int .u8 53] w fun e w' => e = .returned (.bool false) ∧ w' = w := fun w => isBlank_any 53 w
    have hle : ∀ w, Calls Tryz.prog 42 #[.int .u8 53] w fun e w' => e = .returned (.bool false) ∧ w' = w := fun w => isLetter_any 53 w
    have hdi : ∀ w, Calls Tryz.prog 44 #[.int .u8 53] w fun e w' => e = .returned (.bool true) ∧ w' = w := fun w => isDigit_any 53 w
    go_enter Tryz.func26, Tryz.ntmps26
    go_wp2_with fail
    go_quiet (fail)
    go_wp2_with fail
    refine (hbl _).mono ?_
    rintro e w1 ⟨rfl, rfl⟩
    go_wp2_with fail
    refine (hle _).mono ?_
    rintro e w1 ⟨rfl, rfl⟩
    go_wp2_with fail
    refine (hdi _).mono ?_
    rintro e w1 ⟨rfl, rfl⟩
    go_wp2_with fail
    refine (hdg _ (h.drewN _)).mono ?_
    rintro e w2 ⟨rfl, ⟨v', h2⟩, hf2⟩
    go_wp2_with fail
    go_end0
    exact ⟨rfl, ⟨v', h2⟩, ((Fr.refl (Ge S) w).drewN _).trans hf2⟩

set_option maxHeartbeats 4000000 in
set_option maxRecDepth 100000 in
theorem next_sign (S : Nat) (src : ByteArray) (i : Nat) (sp : Bool) (v : Value) (l : List Tok) (w : World) (h : Sn S src i sp v l w) (hw : Sp w) (c : UInt8) (hc : src.data.toList[i]? = some c)
    (hcc : c = 124 ∨ c = 38 ∨ c = 61 ∨ c = 43 ∨ c = 45 ∨ c = 42 ∨ c = 47 ∨ c = 60) (hp : Lib.hasPrefix (src.data.toList.drop i) [60, 60, 126] = false)
    (x : ByteArray) (hx : bestOf (src.data.toList.drop i) 38 = x) (hxe : x.toList.isEmpty = false) (hx0 : 0 < x.size) (hxi : i + x.size ≤ src.size) :
    Calls Tryz.prog 26 #[.pointer (some ⟨S, 0, none⟩)] w fun e w' =>
      e = .returned (.tuple #[]) ∧ (∃ v', Sn S src (i + x.size) false v' (l ++ [⟨7, x, sp, 1, none, 0, 0⟩]) w') ∧ Fr (Ge S) w w' := by
  have hsg := fun n => signs_any S src i sp v l _ (h.drewN n) (hw.fr ((Fr.refl No w).drewN n)) x hx hxe hx0 hxi
  have hbg := fun n => begin_no S src i sp v l _ (h.drewN n) hp
  have c0 := h.c0
  have c1 := h.c1
  have hS := h.lt
  have hsm := h.small
  have hi := h.hi
  obtain ⟨hlt, hg⟩ := byte_at hc
  have hlt' : (i : Int) < src.size := by omega
  have hbl : ∀ w, Calls Tryz.prog 39 #[.int .u8 c.toNat] w fun e w' => e = .returned (.bool false) ∧ w' = w := fun w => (show (((c.toNat : Int) == 32) || ((c.toNat : Int) == 9)) = false from by rcases hcc with rfl | rfl | rfl | rfl | rfl | rfl | rfl | rfl <;> decide) ▸ isBlank_any c.toNat w
  have hle : ∀ w, Calls Tryz.prog 42 #[.int .u8 c.toNat] w fun e w' => e = .returned (.bool false) ∧ w' = w := fun w => (show letterB c.toNat = false from by rcases hcc with rfl | rfl | rfl | rfl | rfl | rfl | rfl | rfl <;> decide) ▸ isLetter_any c.toNat w
  have hdi : ∀ w, Calls Tryz.prog 44 #[.int .u8 c.toNat] w fun e w' => e = .returned (.bool false) ∧ w' = w := fun w => (show digitB c.toNat = false from by rcases hcc with rfl | rfl | rfl | rfl | rfl | rfl | rfl | rfl <;> decide) ▸ isDigit_any c.toNat w
  have e10 : ((c.toNat : Int) == 10) = false := by rcases hcc with rfl | rfl | rfl | rfl | rfl | rfl | rfl | rfl <;> decide
  have e35 : ((c.toNat : Int) == 35) = false := by rcases hcc with rfl | rfl | rfl | rfl | rfl | rfl | rfl | rfl <;> decide
  have e59 : ((c.toNat : Int) == 59) = false := by rcases hcc with rfl | rfl | rfl | rfl | rfl | rfl | rfl | rfl <;> decide
  have e39 : ((c.toNat : Int) == 39) = false := by rcases hcc with rfl | rfl | rfl | rfl | rfl | rfl | rfl | rfl <;> decide
  have e34 : ((c.toNat : Int) == 34) = false := by rcases hcc with rfl | rfl | rfl | rfl | rfl | rfl | rfl | rfl <;> decide
  have e64 : ((c.toNat : Int) == 64) = false := by rcases hcc with rfl | rfl | rfl | rfl | rfl | rfl | rfl | rfl <;> decide
  have e58 : ((c.toNat : Int) == 58) = false := by rcases hcc with rfl | rfl | rfl | rfl | rfl | rfl | rfl | rfl <;> decide
  clear hcc hp hx hxe hw
  rcases e60 : ((c.toNat : Int) == 60)
  · go_enter Tryz.func26, Tryz.ntmps26
    go_wp2_with fail
    go_quiet (fail)
    go_wp2_with fail
    refine (hbl _).mono ?_
    rintro e w1 ⟨rfl, rfl⟩
    go_wp2_with fail
    refine (hle _).mono ?_
    rintro e w1 ⟨rfl, rfl⟩
    go_wp2_with fail
    refine (hdi _).mono ?_
    rintro e w1 ⟨rfl, rfl⟩
    go_wp2_with fail
    refine (hsg _).mono ?_
    rintro e w2 ⟨rfl, ⟨v', h2⟩, hf2⟩
    go_wp2_with fail
    go_end0
    exact ⟨rfl, ⟨v', h2⟩, ((Fr.refl (Ge S) w).drewN _).trans hf2⟩
  · go_enter Tryz.func26, Tryz.ntmps26
    go_wp2_with fail
    go_quiet (fail)
    go_wp2_with fail
    refine (hbl _).mono ?_
    rintro e w1 ⟨rfl, rfl⟩
    go_wp2_with fail
    refine (hle _).mono ?_
    rintro e w1 ⟨rfl, rfl⟩
    go_wp2_with fail
    refine (hdi _).mono ?_
    rintro e w1 ⟨rfl, rfl⟩
    go_wp2_with fail
    refine (hbg _).mono ?_
    rintro e w2 ⟨rfl, m2, rfl⟩
    go_wp2_with fail
    refine (hsg _).mono ?_
    rintro e w2 ⟨rfl, ⟨v', h2⟩, hf2⟩
    go_wp2_with fail
    go_end0
    exact ⟨rfl, ⟨v', h2⟩, ((Fr.refl (Ge S) w).drewN _).trans hf2⟩
end Go.Proofs.YtngkobejdjjeeaaGreatDoor
