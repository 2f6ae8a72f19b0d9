/- A tree in memory: what it is that a value reads as a node, and that it goes on to where nothing that it goes through is turned. -/
import Derived.Test.YtngkobejdjjeeaaGreatDoorA0
set_option linter.unusedSimpArgs false
set_option linter.unusedVariables false
namespace Go.Proofs.YtngkobejdjjeeaaGreatDoor
open Go.RowKit

inductive Nod where
  | mk (op : Int) (name : ByteArray) (n : Int) (kids : List Nod)

def Nod.op : Nod → Int | .mk op _ _ _ => op
def Nod.name : Nod → ByteArray | .mk _ x _ _ => x
def Nod.n : Nod → Int | .mk _ _ n _ => n
def Nod.kids : Nod → List Nod | .mk _ _ _ l => l

mutual
/-- The value v reads as the node, through blocks that are not in F. -/
def Rd (F : Nat → Prop) (w : World) : Nod → Value → Prop
  | .mk op name n kids, v => ∃ a cap, v = .agg #[.int .i64 op, .string name, .int .i64 n, .slice a kids.length cap] ∧ kids.length ≤ cap ∧ Kid F w kids a
/-- At an address there lie the nodes of a list, four cells each. -/
def Kid (F : Nat → Prop) (w : World) : List Nod → Option Addr → Prop
  | [], _ => True
  | k :: ks, a => ∃ b o, a = some ⟨b, o, none⟩ ∧ ¬ F b ∧ b < w.heap.size ∧
      (∃ x0 x1 x2 x3, w.cell? ⟨b, o, none⟩ = some x0 ∧ w.cell? ⟨b, o + 1, none⟩ = some x1 ∧ w.cell? ⟨b, o + 2, none⟩ = some x2 ∧ w.cell? ⟨b, o + 3, none⟩ = some x3 ∧ Rd F w k (.agg #[x0, x1, x2, x3])) ∧
      Kid F w ks (some ⟨b, o + 4, none⟩)
end

mutual
theorem Rd.fr {F S : Nat → Prop} {w w' : World} (hf : Fr S w w') (hs : ∀ b, b < w.heap.size → S b → F b) : (x : Nod) → (v : Value) → Rd F w x v → Rd F w' x v
  | .mk _ _ _ kids, v, h => by
    simp only [Rd] at h ⊢
    obtain ⟨a, cap, hv, hc, hk⟩ := h
    exact ⟨a, cap, hv, hc, Kid.fr hf hs kids a hk⟩
theorem Kid.fr {F S : Nat → Prop} {w w' : World} (hf : Fr S w w') (hs : ∀ b, b < w.heap.size → S b → F b) : (l : List Nod) → (a : Option Addr) → Kid F w l a → Kid F w' l a
  | [], _, _ => by simp only [Kid]
  | k :: ks, a, h => by
    simp only [Kid] at h ⊢
    obtain ⟨b, o, ha, hb, hlt, ⟨x0, x1, x2, x3, h0, h1, h2, h3, hk⟩, hr⟩ := h
    have hsb : ¬ S b := fun q => hb (hs b hlt q)
    refine ⟨b, o, ha, hb, Nat.lt_of_lt_of_le hlt hf.size, ⟨x0, x1, x2, x3, ?_, ?_, ?_, ?_, Rd.fr hf hs k _ hk⟩, Kid.fr hf hs ks _ hr⟩
    · rw [hf.cell hlt hsb]; exact h0
    · rw [hf.cell hlt hsb]; exact h1
    · rw [hf.cell hlt hsb]; exact h2
    · rw [hf.cell hlt hsb]; exact h3
end

mutual
theorem Rd.weak {F F' : Nat → Prop} {w : World} (hs : ∀ b, b < w.heap.size → F' b → F b) : (x : Nod) → (v : Value) → Rd F w x v → Rd F' w x v
  | .mk _ _ _ kids, v, h => by
    simp only [Rd] at h ⊢
    obtain ⟨a, cap, hv, hc, hk⟩ := h
    exact ⟨a, cap, hv, hc, Kid.weak hs kids a hk⟩
theorem Kid.weak {F F' : Nat → Prop} {w : World} (hs : ∀ b, b < w.heap.size → F' b → F b) : (l : List Nod) → (a : Option Addr) → Kid F w l a → Kid F' w l a
  | [], _, _ => by simp only [Kid]
  | k :: ks, a, h => by
    simp only [Kid] at h ⊢
    obtain ⟨b, o, ha, hb, hlt, ⟨x0, x1, x2, x3, h0, h1, h2, h3, hk⟩, hr⟩ := h
    exact ⟨b, o, ha, fun q => hb (hs b hlt q), hlt, ⟨x0, x1, x2, x3, h0, h1, h2, h3, Rd.weak hs k _ hk⟩, Kid.weak hs ks _ hr⟩
end

/-- What a reading gives of the value's own shape. -/
theorem Rd.shape {F : Nat → Prop} {w : World} {x : Nod} {v : Value} (h : Rd F w x v) :
    ∃ a cap, v = .agg #[.int .i64 x.op, .string x.name, .int .i64 x.n, .slice a x.kids.length cap] ∧ Kid F w x.kids a := by
  cases x
  simp only [Rd] at h
  obtain ⟨a, cap, hv, _, hk⟩ := h
  exact ⟨a, cap, hv, hk⟩

/-- The room of the kids' slice. -/
theorem Rd.cap {F : Nat → Prop} {w : World} {x : Nod} {op n : Value} {name : Value} {a : Option Addr} {m cap : Nat} (h : Rd F w x (.agg #[op, name, n, .slice a m cap])) : x.kids.length ≤ cap := by
  cases x
  simp only [Rd] at h
  obtain ⟨a', cap', hv, hc, _⟩ := h
  simp only [Value.agg.injEq, Array.mk.injEq, List.cons.injEq, Value.slice.injEq, and_true] at hv
  obtain ⟨_, _, _, _, _, rfl⟩ := hv
  exact hc

/-- A node is read off its own parts and its kids. -/
theorem Rd.mk {F : Nat → Prop} {w : World} {op : Int} {name : ByteArray} {n : Int} {kids : List Nod} {a : Option Addr} {m cap : Nat} (hk : Kid F w kids a) (hm : m = kids.length) (hc : m ≤ cap) :
    Rd F w (.mk op name n kids) (.agg #[.int .i64 op, .string name, .int .i64 n, .slice a m cap]) := by
  simp only [Rd]
  exact ⟨a, cap, by rw [hm], by omega, hk⟩

theorem Kid.nil {F : Nat → Prop} {w : World} {a : Option Addr} : Kid F w [] a := by simp only [Kid]

theorem Kid.cons {F : Nat → Prop} {w : World} {k : Nod} {ks : List Nod} {b o : Nat} {x0 x1 x2 x3 : Value} (hF : ¬ F b) (hb : b < w.heap.size)
    (h0 : w.cell? ⟨b, o, none⟩ = some x0) (h1 : w.cell? ⟨b, o + 1, none⟩ = some x1) (h2 : w.cell? ⟨b, o + 2, none⟩ = some x2) (h3 : w.cell? ⟨b, o + 3, none⟩ = some x3)
    (hk : Rd F w k (.agg #[x0, x1, x2, x3])) (hr : Kid F w ks (some ⟨b, o + 4, none⟩)) : Kid F w (k :: ks) (some ⟨b, o, none⟩) := by
  simp only [Kid]
  exact ⟨b, o, rfl, hF, hb, ⟨x0, x1, x2, x3, h0, h1, h2, h3, hk⟩, hr⟩

/-- The kid at an index, as it lies there. -/
theorem Kid.get {F : Nat → Prop} {w : World} {l : List Nod} {b o : Nat} {j : Nat} {k : Nod} (h : Kid F w l (some ⟨b, o, none⟩)) (hj : l[j]? = some k) :
    ¬ F b ∧ b < w.heap.size ∧ ∃ a cap, w.cell? ⟨b, o + j * 4, none⟩ = some (.int .i64 k.op) ∧ w.cell? ⟨b, o + j * 4 + 1, none⟩ = some (.string k.name) ∧ w.cell? ⟨b, o + j * 4 + 2, none⟩ = some (.int .i64 k.n) ∧
      w.cell? ⟨b, o + j * 4 + 3, none⟩ = some (.slice a k.kids.length cap) ∧ Kid F w k.kids a := by
  induction l generalizing o j with
  | nil => simp at hj
  | cons x xs ih =>
    simp only [Kid] at h
    obtain ⟨b', o', ha, hb, hlt, ⟨x0, x1, x2, x3, h0, h1, h2, h3, hk⟩, hr⟩ := h
    simp only [Option.some.injEq, Addr.mk.injEq, and_true] at ha
    obtain ⟨rfl, rfl⟩ := ha
    cases j with
    | zero =>
      simp at hj
      subst hj
      obtain ⟨a, cap, hv, hkk⟩ := hk.shape
      simp only [Value.agg.injEq, Array.mk.injEq, List.cons.injEq, and_true] at hv
      obtain ⟨rfl, rfl, rfl, rfl⟩ := hv
      exact ⟨hb, hlt, a, cap, by simpa using h0, by simpa using h1, by simpa using h2, by simpa using h3, hkk⟩
    | succ j =>
      have := ih hr (by simpa using hj)
      rw [show o + 4 + j * 4 = o + (j + 1) * 4 from by omega] at this
      exact this

/-- The address of kids that are some. -/
theorem Kid.addr {F : Nat → Prop} {w : World} {l : List Nod} {a : Option Addr} (h : Kid F w l a) (hl : l ≠ []) : ∃ b o, a = some ⟨b, o, none⟩ := by
  cases l with
  | nil => exact absurd rfl hl
  | cons x xs => simp only [Kid] at h; obtain ⟨b, o, ha, _⟩ := h; exact ⟨b, o, ha⟩

theorem Kid.tail {F : Nat → Prop} {w : World} {x : Nod} {l : List Nod} {b o : Nat} (h : Kid F w (x :: l) (some ⟨b, o, none⟩)) : Kid F w l (some ⟨b, o + 4, none⟩) := by
  simp only [Kid] at h
  obtain ⟨b', o', ha, _, _, _, hr⟩ := h
  simp only [Option.some.injEq, Addr.mk.injEq, and_true] at ha
  obtain ⟨rfl, rfl⟩ := ha
  exact hr

/-- A part of kids at the front. -/
theorem Kid.take {F : Nat → Prop} {w : World} {l : List Nod} {a : Option Addr} (h : Kid F w l a) (n : Nat) : Kid F w (l.take n) a := by
  induction l generalizing a n with
  | nil => simp only [List.take_nil, Kid]
  | cons x xs ih =>
    cases n with
    | zero => simp only [List.take_zero, Kid]
    | succ n =>
      simp only [Kid] at h
      obtain ⟨b, o, ha, hb, hlt, hk, hr⟩ := h
      simp only [List.take_succ_cons, Kid]
      exact ⟨b, o, ha, hb, hlt, hk, ih hr n⟩
end Go.Proofs.YtngkobejdjjeeaaGreatDoor
