/- The scanner in memory, and its small functions. -/
import Derived.Test.YtngkobejdjjeeaaGreatDoorA0
import Derived.Test.YtngkobejdjjeeaaGreatDoorShelf
import Derived.Deep.LoopGhost
import Derived.Deep.DeepFit
import Derived.Deep.AppendLies
import Derived.Deep.RegionHeld3
import Derived.Deep.DrawnRows
set_option linter.unusedSimpArgs false
set_option linter.unusedVariables false
namespace Go.Proofs.YtngkobejdjjeeaaGreatDoor
open Go.RowKit

/-- A region that is shown not to panic, its post a letter. -/
theorem wp_region_post {P : Program} {id : Nat} {ops : Array Oper} {b : Bool} {Q : Exit → Act → World → Prop} {a : Act} {w : World} (h : ∀ Q0, Q0 = Q → (Code.region id ops b).wp P (NoPanic Q0) a w) : (Code.region id ops b).wp P Q a w :=
  wp_region_noPanic (h _ rfl)

/-- The bytes' kinds. -/
def smallB (c : Int) : Bool := decide (97 ≤ c) && decide (c ≤ 122) || c == 95
def letterB (c : Int) : Bool := smallB c || decide (65 ≤ c) && decide (c ≤ 90)
def digitB (c : Int) : Bool := decide (48 ≤ c) && decide (c ≤ 57)
def wordB (c : Int) : Bool := letterB c || digitB c

theorem isSmall_any (c : Int) (w : World) : Calls Tryz.prog 47 #[.int .u8 c] w fun e w' => e = .returned (.bool (smallB c)) ∧ w' = w := by
  unfold smallB
  go_enter Tryz.func47, Tryz.ntmps47
  go_wp2
  all_goals go_ret
  all_goals simp_all
  all_goals omega

theorem isLetter_any (c : Int) (w : World) : Calls Tryz.prog 42 #[.int .u8 c] w fun e w' => e = .returned (.bool (letterB c)) ∧ w' = w := by
  unfold letterB
  go_enter Tryz.func42, Tryz.ntmps42
  go_wp2_with fail
  refine (isSmall_any c w).mono ?_
  rintro e w1 ⟨rfl, rfl⟩
  rcases hs : smallB c
  all_goals go_wp2
  all_goals go_ret
  all_goals simp_all
  all_goals omega

theorem isDigit_any (c : Int) (w : World) : Calls Tryz.prog 44 #[.int .u8 c] w fun e w' => e = .returned (.bool (digitB c)) ∧ w' = w := by
  unfold digitB
  go_enter Tryz.func44, Tryz.ntmps44
  go_wp2
  all_goals go_ret
  all_goals simp_all
  all_goals omega

theorem isWord_any (c : Int) (w : World) : Calls Tryz.prog 88 #[.int .u8 c] w fun e w' => e = .returned (.bool (wordB c)) ∧ w' = w := by
  unfold wordB
  go_enter Tryz.func88, Tryz.ntmps88
  go_wp2_with fail
  refine (isLetter_any c w).mono ?_
  rintro e w1 ⟨rfl, rfl⟩
  rcases hs : letterB c
  · go_wp2_with fail
    refine (isDigit_any c _).mono ?_
    rintro e w1 ⟨rfl, rfl⟩
    go_wp2_with fail
    go_ret
    simp_all
  · go_wp2_with fail
    go_ret
    simp_all

/-- The cells of a token. -/
def tokCells (t : Tok) : List Value := [.int .i64 t.kind, .string t.text, .bool t.space, .int .i64 t.line, .slice t.pa t.pn t.pc]

/-- The scanner in block S over the text src: at the place i, a blank read or not; v: its tokens. -/
structure Sn (S : Nat) (src : ByteArray) (i : Nat) (sp : Bool) (v : Value) (l : List Tok) (w : World) : Prop where
  blk : w.heap[S]? = some (.cells #[.string src, .int .i64 i, .int .i64 1, v, .int .i64 0, .bool sp] 67 (0, 0))
  own : w.ownsRow (S + 1) 73 5 v l.length (l.flatMap tokCells)
  hi : i ≤ src.size
  small : src.size ≤ 1000
  few : l.length ≤ i

/-- Behind an append to a nil slice nothing old has turned. -/
theorem Fr.grown {S : Nat → Prop} {w w' : World} (h : w.grownBy w' none) : Fr S w w' := ⟨h.os, h.tape, h.output, h.size, fun k hk _ => h.block k hk (fun e => by cases e)⟩

/-- Blocks from S on. -/
def Ge (S : Nat) : Nat → Prop := fun k => S ≤ k

theorem ownsRow_frNo {w w' : World} {base : Nat} {e : TypeId} {size : Nat} {v : Value} {n : Nat} {xs : List Value} (h : w.ownsRow base e size v n xs) (hf : Fr No w w') : w'.ownsRow base e size v n xs :=
  h.kept (row := none) ⟨hf.os, hf.tape, hf.output, hf.size, fun k hk _ => hf.block k hk (fun q => q)⟩ (by cases h : v.ownBlock <;> simp)

namespace Sn
variable {S : Nat} {src : ByteArray} {i : Nat} {sp : Bool} {v : Value} {l : List Tok} {w : World}
theorem c0 (h : Sn S src i sp v l w) : w.cell? ⟨S, 0, none⟩ = some (.string src) := blk_cell h.blk rfl
theorem c1 (h : Sn S src i sp v l w) : w.cell? ⟨S, 1, none⟩ = some (.int .i64 i) := blk_cell h.blk rfl
theorem c2 (h : Sn S src i sp v l w) : w.cell? ⟨S, 2, none⟩ = some (.int .i64 1) := blk_cell h.blk rfl
theorem c3 (h : Sn S src i sp v l w) : w.cell? ⟨S, 3, none⟩ = some v := blk_cell h.blk rfl
theorem c5 (h : Sn S src i sp v l w) : w.cell? ⟨S, 5, none⟩ = some (.bool sp) := blk_cell h.blk rfl
theorem fz (h : Sn S src i sp v l w) (o : Nat) : w.frozen? ⟨S, o, none⟩ = false := blk_free h.blk
theorem lt (h : Sn S src i sp v l w) : S < w.heap.size := blk_lt h.blk
theorem frNo {w' : World} (h : Sn S src i sp v l w) (hf : Fr No w w') : Sn S src i sp v l w' := ⟨hf.blk h.blk (fun q => q), ownsRow_frNo h.own hf, h.hi, h.small, h.few⟩
theorem alloc (h : Sn S src i sp v l w) (o : Obj) : Sn S src i sp v l (w.alloc o) := h.frNo ((Fr.refl No w).alloc o)
theorem drew (h : Sn S src i sp v l w) : Sn S src i sp v l w.drew := h.frNo (Fr.refl No w).drew
theorem drewN (h : Sn S src i sp v l w) (n : Nat) : Sn S src i sp v l (w.drewN n) := h.frNo ((Fr.refl No w).drewN n)
theorem setAt (h : Sn S src i sp v l w) (j : Nat) (hj : j ≤ src.size) (hl : l.length ≤ j) : Sn S src j sp v l (w.setCell ⟨S, 1, none⟩ (.int .i64 j)) :=
  ⟨blk_set (o := 1) (.int .i64 j) h.blk, ownsRow_setCell_below h.own (by simp) _, hj, h.small, hl⟩
theorem setInt (h : Sn S src i sp v l w) (z : Int) (j : Nat) (hz : z = j) (hj : j ≤ src.size) (hl : l.length ≤ j) : Sn S src j sp v l (w.setCell ⟨S, 1, none⟩ (.int .i64 z)) := hz ▸ h.setAt j hj hl
theorem setSp (h : Sn S src i sp v l w) (b : Bool) : Sn S src i b v l (w.setCell ⟨S, 5, none⟩ (.bool b)) :=
  ⟨blk_set (o := 5) (.bool b) h.blk, ownsRow_setCell_below h.own (by simp) _, h.hi, h.small, h.few⟩
end Sn

theorem info73 : (Tryz.prog.info? 73).map (fun i => (i.zero, i.size, i.bytes)) = some (some (.agg #[.int .i64 0, .string ⟨#[]⟩, .bool false, .int .i64 0, .slice none 0 0]), 5, 64) := by kernel_rfl
end Go.Proofs.YtngkobejdjjeeaaGreatDoor
