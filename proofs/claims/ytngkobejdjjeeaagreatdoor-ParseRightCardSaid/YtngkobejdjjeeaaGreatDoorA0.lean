/- The frame of all walks: what a call may turn (some blocks that it names, and new ones), and the parser's block in memory. -/
import Derived.Test.YtngkobejdjjeeaaGreatDoorProg
import Derived.WalkKit
import Derived.Deep.QuietTactic
import Derived.BigQuiet
set_option linter.unusedSimpArgs false
set_option linter.unusedVariables false
namespace Go.Proofs.YtngkobejdjjeeaaGreatDoor
open Go.RowKit

/-- w' is w but for the blocks of S, and new ones. -/
structure Fr (S : Nat → Prop) (w w' : World) : Prop where
  os : w'.os = w.os
  tape : w'.tape = w.tape
  output : w'.output = w.output
  size : w.heap.size ≤ w'.heap.size
  block : ∀ k, k < w.heap.size → ¬ S k → w'.heap[k]? = w.heap[k]?

/-- no block at all -/
def No : Nat → Prop := fun _ => False
/-- one block -/
def Only (p : Nat) : Nat → Prop := fun k => k = p

theorem Fr.refl (S : Nat → Prop) (w : World) : Fr S w w := ⟨rfl, rfl, rfl, Nat.le_refl _, fun _ _ _ => rfl⟩
theorem Fr.trans {S : Nat → Prop} {a b c : World} (h : Fr S a b) (k : Fr S b c) : Fr S a c :=
  ⟨k.os.trans h.os, k.tape.trans h.tape, k.output.trans h.output, Nat.le_trans h.size k.size,
    fun i hi hs => (k.block i (Nat.lt_of_lt_of_le hi h.size) hs).trans (h.block i hi hs)⟩
theorem Fr.trans' {S S' : Nat → Prop} {a b c : World} (h : Fr S a b) (k : Fr S' b c) (hs : ∀ i, i < a.heap.size → S' i → S i) : Fr S a c :=
  ⟨k.os.trans h.os, k.tape.trans h.tape, k.output.trans h.output, Nat.le_trans h.size k.size,
    fun i hi hn => (k.block i (Nat.lt_of_lt_of_le hi h.size) (fun q => hn (hs i hi q))).trans (h.block i hi hn)⟩
theorem Fr.mono {S S' : Nat → Prop} {a b : World} (h : Fr S' a b) (hs : ∀ i, i < a.heap.size → S' i → S i) : Fr S a b := (Fr.refl S a).trans' h hs
theorem Fr.ofNo {S : Nat → Prop} {a b : World} (h : Fr No a b) : Fr S a b := h.mono fun _ _ q => q.elim
theorem Fr.transNo {S : Nat → Prop} {a b c : World} (h : Fr S a b) (k : Fr No b c) : Fr S a c := h.trans k.ofNo
theorem Fr.below {S : Nat → Prop} {a b : World} (h : Below a.heap.size a b) : Fr S a b := ⟨h.os, h.tape, h.output, h.size, fun k hk _ => h.block k hk⟩
theorem Fr.toBelow {a b : World} (h : Fr No a b) : Below a.heap.size a b := ⟨h.os, h.tape, h.output, h.size, fun k hk => h.block k hk (fun q => q)⟩
theorem Fr.drewN {S : Nat → Prop} {a w : World} (h : Fr S a w) (n : Nat) : Fr S a (w.drewN n) := ⟨h.os, h.tape, h.output, h.size, h.block⟩
theorem Fr.drew {S : Nat → Prop} {a w : World} (h : Fr S a w) : Fr S a w.drew := ⟨h.os, h.tape, h.output, h.size, h.block⟩
theorem Fr.alloc {S : Nat → Prop} {a w : World} (h : Fr S a w) (o : Obj) : Fr S a (w.alloc o) :=
  h.trans ⟨rfl, rfl, rfl, by simp, fun k hk _ => Below.heap_alloc _ _ _ (by omega)⟩
theorem Fr.setCell {S : Nat → Prop} {a w : World} (h : Fr S a w) {p : Addr} (hp : S p.block ∨ a.heap.size ≤ p.block) (u : Value) : Fr S a (w.setCell p u) :=
  h.trans' (S' := fun k => k = p.block) ⟨rfl, rfl, rfl, by simp [World.setCell], fun k _ hk => Below.heap_setCell _ _ _ _ hk⟩
    (fun i hi q => by rcases hp with hp | hp
                      · exact q ▸ hp
                      · omega)
theorem Fr.setNew {S : Nat → Prop} {a w : World} {b o : Nat} (h : Fr S a w) (hb : a.heap.size ≤ b) (u : Value) : Fr S a (w.setCell ⟨b, o, none⟩ u) := h.setCell (p := ⟨b, o, none⟩) (Or.inr hb) u
theorem Fr.setOnly {a w : World} {b o : Nat} (h : Fr (Only b) a w) (u : Value) : Fr (Only b) a (w.setCell ⟨b, o, none⟩ u) :=
  h.setCell (p := ⟨b, o, none⟩) (Or.inl (show Only b b from rfl)) u
theorem Fr.set4 {a w : World} {b : Nat} (h : Fr (Only b) a w) (v0 v1 v2 v3 : Value) : Fr (Only b) a ((((w.setCell ⟨b, 0, none⟩ v0).setCell ⟨b, 1, none⟩ v1).setCell ⟨b, 2, none⟩ v2).setCell ⟨b, 3, none⟩ v3) :=
  (((h.setOnly v0).setOnly v1).setOnly v2).setOnly v3
theorem Fr.cell {S : Nat → Prop} {w w' : World} (h : Fr S w w') {b o : Nat} (hb : b < w.heap.size) (hs : ¬ S b) : w'.cell? ⟨b, o, none⟩ = w.cell? ⟨b, o, none⟩ :=
  World.cell?_of_block (w := w) (a := ⟨b, o, none⟩) (h.block b hb hs)
theorem Fr.frozen {S : Nat → Prop} {w w' : World} (h : Fr S w w') {b o : Nat} (hb : b < w.heap.size) (hs : ¬ S b) : w'.frozen? ⟨b, o, none⟩ = w.frozen? ⟨b, o, none⟩ :=
  World.frozen?_of_block (w := w) (a := ⟨b, o, none⟩) (h.block b hb hs)

/-- What a known block gives. -/
theorem blk_cell {w : World} {b o : Nat} {cs : Array Value} {t : TypeId} {fr : Nat × Nat} {v : Value} (h : w.heap[b]? = some (.cells cs t fr)) (hv : cs[o]? = some v) : w.cell? ⟨b, o, none⟩ = some v := by
  simp [World.cell?, h, hv]
theorem blk_free {w : World} {b o : Nat} {cs : Array Value} {t : TypeId} (h : w.heap[b]? = some (.cells cs t (0, 0))) : w.frozen? ⟨b, o, none⟩ = false := by
  simp [World.frozen?, h]
theorem blk_lt {w : World} {b : Nat} {o : Obj} (h : w.heap[b]? = some o) : b < w.heap.size := lt_of_block h
theorem blk_set {w : World} {b o : Nat} {cs : Array Value} {t : TypeId} {fr : Nat × Nat} (v : Value) (h : w.heap[b]? = some (.cells cs t fr)) :
    (w.setCell ⟨b, o, none⟩ v).heap[b]? = some (.cells (cs.setIfInBounds o v) t fr) := by
  have hlt := lt_of_block h
  have h' : w.heap[b] = .cells cs t fr := by simpa [Array.getElem?_eq_getElem hlt] using h
  show (w.heap.modify b _)[b]? = _
  rw [Array.getElem?_eq_getElem (by simpa using hlt), Array.getElem_modify_self, h']
  rfl
theorem blk_set_other {w : World} {b c o : Nat} {x : Obj} (v : Value) (h : w.heap[b]? = some x) (hne : b ≠ c) : (w.setCell ⟨c, o, none⟩ v).heap[b]? = some x := by
  rw [Below.heap_setCell _ _ _ _ hne]; exact h
theorem blk_alloc {w : World} {b : Nat} {x : Obj} (o : Obj) (h : w.heap[b]? = some x) : (w.alloc o).heap[b]? = some x := by
  rw [Below.heap_alloc _ _ _ (lt_of_block h)]; exact h
theorem blk_new (w : World) (o : Obj) : (w.alloc o).heap[w.heap.size]? = some o := by
  show (w.heap.push o)[w.heap.size]? = _
  simp
theorem blk_newAt {w : World} {k : Nat} (h : k = w.heap.size) (o : Obj) : (w.alloc o).heap[k]? = some o := h ▸ blk_new w o
theorem blk_drewN {w : World} {b : Nat} {x : Obj} (n : Nat) (h : w.heap[b]? = some x) : (w.drewN n).heap[b]? = some x := h
theorem Fr.blk {S : Nat → Prop} {w w' : World} (h : Fr S w w') {b : Nat} {x : Obj} (hx : w.heap[b]? = some x) (hs : ¬ S b) : w'.heap[b]? = some x := by
  rw [h.block b (lt_of_block hx) hs]; exact hx

/-- A token, its parts as they lie in memory. -/
structure Tok where
  kind : Int
  text : ByteArray
  space : Bool
  line : Int
  pa : Option Addr
  pn : Nat
  pc : Nat
/-- Behind the last token. -/
def Tok.over : Tok := ⟨-1, ⟨#[]⟩, false, 0, none, 0, 0⟩
def Tok.val (t : Tok) : Value := .agg #[.int .i64 t.kind, .string t.text, .bool t.space, .int .i64 t.line, .slice t.pa t.pn t.pc]
/-- Tokens lie in a row. -/
def Toks (w : World) (T : Nat) (l : List Tok) : Prop :=
  ∀ j t, l[j]? = some t → w.cell? ⟨T, j * 5, none⟩ = some (.int .i64 t.kind) ∧ w.cell? ⟨T, j * 5 + 1, none⟩ = some (.string t.text) ∧ w.cell? ⟨T, j * 5 + 2, none⟩ = some (.bool t.space) ∧
    w.cell? ⟨T, j * 5 + 3, none⟩ = some (.int .i64 t.line) ∧ w.cell? ⟨T, j * 5 + 4, none⟩ = some (.slice t.pa t.pn t.pc)
def tokAt (l : List Tok) (i : Nat) : Tok := l.getD i Tok.over

/-- The parser's changing cells. -/
structure St where
  i : Nat
  noDo : Bool
  first : Int
  cmd : Bool
  tgt : Int
/-- The parser's block: its tokens in block T, its scope in block s. -/
structure Ps (p T n cap s : Nat) (line : Int) (l : List Tok) (st : St) (w : World) : Prop where
  blk : w.heap[p]? = some (.cells #[.slice (some ⟨T, 0, none⟩) n cap, .int .i64 st.i, .pointer (some ⟨s, 0, none⟩), .int .i64 line, .bool st.noDo, .int .i64 st.first, .bool st.cmd, .int .i64 st.tgt] 51 (0, 0))
  toks : Toks w T l
  hn : n = l.length
  small : n ≤ 1000000
  hi : st.i ≤ n
  hT : T < w.heap.size
  hTp : T ≠ p
  hsp : s ≠ p

theorem Toks.fr {w w' : World} {T : Nat} {l : List Tok} {S : Nat → Prop} (h : Toks w T l) (hf : Fr S w w') (hT : T < w.heap.size) (hs : ¬ S T) : Toks w' T l := by
  intro j t hj
  simp only [hf.cell hT hs]
  exact h j t hj

namespace Ps
variable {p T n cap s : Nat} {line : Int} {l : List Tok} {st : St} {w : World}
theorem c0 (h : Ps p T n cap s line l st w) : w.cell? ⟨p, 0, none⟩ = some (.slice (some ⟨T, 0, none⟩) n cap) := blk_cell h.blk rfl
theorem c1 (h : Ps p T n cap s line l st w) : w.cell? ⟨p, 1, none⟩ = some (.int .i64 st.i) := blk_cell h.blk rfl
theorem c2 (h : Ps p T n cap s line l st w) : w.cell? ⟨p, 2, none⟩ = some (.pointer (some ⟨s, 0, none⟩)) := blk_cell h.blk rfl
theorem c3 (h : Ps p T n cap s line l st w) : w.cell? ⟨p, 3, none⟩ = some (.int .i64 line) := blk_cell h.blk rfl
theorem c4 (h : Ps p T n cap s line l st w) : w.cell? ⟨p, 4, none⟩ = some (.bool st.noDo) := blk_cell h.blk rfl
theorem c5 (h : Ps p T n cap s line l st w) : w.cell? ⟨p, 5, none⟩ = some (.int .i64 st.first) := blk_cell h.blk rfl
theorem c6 (h : Ps p T n cap s line l st w) : w.cell? ⟨p, 6, none⟩ = some (.bool st.cmd) := blk_cell h.blk rfl
theorem c7 (h : Ps p T n cap s line l st w) : w.cell? ⟨p, 7, none⟩ = some (.int .i64 st.tgt) := blk_cell h.blk rfl
theorem fz (h : Ps p T n cap s line l st w) (o : Nat) : w.frozen? ⟨p, o, none⟩ = false := blk_free h.blk
theorem lt (h : Ps p T n cap s line l st w) : p < w.heap.size := lt_of_block h.blk
/-- What leaves the parser's block and the tokens alone. -/
theorem fr {S : Nat → Prop} {w' : World} (h : Ps p T n cap s line l st w) (hf : Fr S w w') (hp : ¬ S p) (hs : ¬ S T) : Ps p T n cap s line l st w' :=
  ⟨hf.blk h.blk hp, h.toks.fr hf h.hT hs, h.hn, h.small, h.hi, Nat.lt_of_lt_of_le h.hT hf.size, h.hTp, h.hsp⟩
theorem frNo {w' : World} (h : Ps p T n cap s line l st w) (hf : Fr No w w') : Ps p T n cap s line l st w' := h.fr hf (fun q => q) (fun q => q)
/-- A cell of the parser's block is written. -/
theorem set {st' : St} {o : Nat} {v : Value} (h : Ps p T n cap s line l st w) (hi : st'.i ≤ n)
    (he : (#[.slice (some ⟨T, 0, none⟩) n cap, .int .i64 st.i, .pointer (some ⟨s, 0, none⟩), .int .i64 line, .bool st.noDo, .int .i64 st.first, .bool st.cmd, .int .i64 st.tgt] : Array Value).setIfInBounds o v =
      #[.slice (some ⟨T, 0, none⟩) n cap, .int .i64 st'.i, .pointer (some ⟨s, 0, none⟩), .int .i64 line, .bool st'.noDo, .int .i64 st'.first, .bool st'.cmd, .int .i64 st'.tgt]) :
    Ps p T n cap s line l st' (w.setCell ⟨p, o, none⟩ v) := by
  refine ⟨he ▸ blk_set v h.blk, ?_, h.hn, h.small, hi, by simpa [World.setCell] using h.hT, h.hTp, h.hsp⟩
  exact h.toks.fr (S := Only p) ((Fr.refl (Only p) _).setCell (p := ⟨p, o, none⟩) (Or.inl rfl) v) h.hT h.hTp
/-- A cell of another block is written. -/
theorem put {b o : Nat} (h : Ps p T n cap s line l st w) (hp : p ≠ b) (hT : T ≠ b) (u : Value) : Ps p T n cap s line l st (w.setCell ⟨b, o, none⟩ u) :=
  h.fr (S := fun k => k = b) ((Fr.refl (fun k => k = b) _).setCell (p := ⟨b, o, none⟩) (Or.inl rfl) u) hp hT
theorem drewN (h : Ps p T n cap s line l st w) (m : Nat) : Ps p T n cap s line l st (w.drewN m) := h.frNo ((Fr.refl _ _).drewN m)
theorem drew (h : Ps p T n cap s line l st w) : Ps p T n cap s line l st w.drew := h.frNo ((Fr.refl _ _).drew)
theorem alloc (h : Ps p T n cap s line l st w) (o : Obj) : Ps p T n cap s line l st (w.alloc o) := h.frNo ((Fr.refl _ _).alloc o)
end Ps

-- a field of a struct at hand
@[go_sem] theorem field73_0 (v0 v1 v2 v3 v4 : Value) (w : World) : (Instr.field 73 (.agg #[v0, v1, v2, v3, v4]) 0).run Tryz.prog w = .ok v0 w := by kernel_rfl
@[go_sem] theorem field73_1 (v0 v1 v2 v3 v4 : Value) (w : World) : (Instr.field 73 (.agg #[v0, v1, v2, v3, v4]) 1).run Tryz.prog w = .ok v1 w := by kernel_rfl
@[go_sem] theorem field73_2 (v0 v1 v2 v3 v4 : Value) (w : World) : (Instr.field 73 (.agg #[v0, v1, v2, v3, v4]) 2).run Tryz.prog w = .ok v2 w := by kernel_rfl
@[go_sem] theorem field73_3 (v0 v1 v2 v3 v4 : Value) (w : World) : (Instr.field 73 (.agg #[v0, v1, v2, v3, v4]) 3).run Tryz.prog w = .ok v3 w := by kernel_rfl
@[go_sem] theorem field73_4 (v0 v1 v2 v3 v4 : Value) (w : World) : (Instr.field 73 (.agg #[v0, v1, v2, v3, v4]) 4).run Tryz.prog w = .ok v4 w := by kernel_rfl
@[go_sem] theorem field27_0 (v0 v1 v2 v3 : Value) (w : World) : (Instr.field 27 (.agg #[v0, v1, v2, v3]) 0).run Tryz.prog w = .ok v0 w := by kernel_rfl
@[go_sem] theorem field27_1 (v0 v1 v2 v3 : Value) (w : World) : (Instr.field 27 (.agg #[v0, v1, v2, v3]) 1).run Tryz.prog w = .ok v1 w := by kernel_rfl
@[go_sem] theorem field27_2 (v0 v1 v2 v3 : Value) (w : World) : (Instr.field 27 (.agg #[v0, v1, v2, v3]) 2).run Tryz.prog w = .ok v2 w := by kernel_rfl
@[go_sem] theorem field27_3 (v0 v1 v2 v3 : Value) (w : World) : (Instr.field 27 (.agg #[v0, v1, v2, v3]) 3).run Tryz.prog w = .ok v3 w := by kernel_rfl
end Go.Proofs.YtngkobejdjjeeaaGreatDoor
