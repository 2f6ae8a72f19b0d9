/- tree.small: a tree within the limits. -/
import Derived.Test.YtngkobejdjjeeaaGreatDoorC0
set_option linter.unusedSimpArgs false
set_option linter.unusedVariables false
namespace Go.Proofs.YtngkobejdjjeeaaGreatDoor
open Go.RowKit

mutual
def Nod.size : Nod → Nat
  | .mk _ _ _ ks => 1 + sizes ks
def sizes : List Nod → Nat
  | [] => 0
  | k :: ks => k.size + sizes ks
end
mutual
def Nod.depth : Nod → Nat
  | .mk _ _ _ ks => 1 + depths ks
def depths : List Nod → Nat
  | [] => 0
  | k :: ks => max k.depth (depths ks)
end
theorem Nod.size_eq (x : Nod) : x.size = 1 + sizes x.kids := by cases x; simp only [Nod.size, Nod.kids]
theorem Nod.depth_eq (x : Nod) : x.depth = 1 + depths x.kids := by cases x; simp only [Nod.depth, Nod.kids]
theorem sizes_take {ks : List Nod} {j : Nat} {k : Nod} (h : ks[j]? = some k) : sizes (ks.take (j + 1)) = sizes (ks.take j) + k.size ∧ k.size + sizes (ks.take j) ≤ sizes ks := by
  induction ks generalizing j with
  | nil => simp at h
  | cons x xs ih =>
    cases j with
    | zero => simp at h; subst h; simp [sizes]
    | succ j =>
      have := ih (j := j) (by simpa using h)
      simp only [List.take_succ_cons, sizes]
      omega
theorem depths_get {ks : List Nod} {j : Nat} {k : Nod} (h : ks[j]? = some k) : k.depth ≤ depths ks := by
  induction ks generalizing j with
  | nil => simp at h
  | cons x xs ih =>
    cases j with
    | zero => simp at h; subst h; simp only [depths]; omega
    | succ j =>
      have := ih (j := j) (by simpa using h)
      simp only [depths]
      omega
theorem Nod.size_pos (x : Nod) : 1 ≤ x.size := by rw [x.size_eq]; omega
theorem length_le_sizes (ks : List Nod) : ks.length ≤ sizes ks := by
  induction ks with
  | nil => simp [sizes]
  | cons x xs ih => have := x.size_pos; simp only [List.length_cons, sizes]; omega

theorem call60 (args : Array Value) (w : World) : (callFunc 60 args).run Tryz.prog w = .ok (.enter 60 args) w := by
  simp [go_sem, Tryz.func60]

/-- The block of the number of nodes that are left. -/
def LeftIs (L : Nat) (n : Nat) (w : World) : Prop := w.heap[L]? = some (.cells #[.int .i64 n] 3 (0, 0))

def SmallPost (L left : Nat) (x : Nod) (w : World) (e : Ending) (w' : World) : Prop := e = .returned (.bool true) ∧ LeftIs L (left - x.size) w' ∧ Fr (Only L) w w'

theorem LeftIs.frNo {L n : Nat} {w w' : World} (h : LeftIs L n w) (hf : Fr No w w') : LeftIs L n w' := hf.blk h (fun q => q)

theorem small1_ok (L left deep b1 b2 : Nat) (k : Nod) (v : Value) (w : World) (hrd : Rd (Only L) w k v) (hL : LeftIs L left w) (hd : deep ≤ 100)
    (hb1 : w.heap[b1]? = some (.cells #[.pointer (some ⟨L, 0, none⟩)] 77 (0, 0))) (hb2 : w.heap[b2]? = some (.cells #[.int .i64 deep] 3 (0, 0)))
    (ih : ∀ w, Rd (Only L) w k v → LeftIs L left w → ∀ (D : Int), D = (deep + 1 : Nat) → Calls Tryz.prog 30 #[v, .pointer (some ⟨L, 0, none⟩), .int .i64 D] w (SmallPost L left k w)) :
    Calls Tryz.prog 60 #[v, .pointer (some ⟨b1, 0, none⟩), .pointer (some ⟨b2, 0, none⟩)] w fun e w' => e = .returned (.bool false) ∧ LeftIs L (left - k.size) w' ∧ Fr (Only L) w w' := by
  obtain ⟨a, cap, rfl, hkid⟩ := hrd.shape
  have c1 := cell_of_one hb1
  have c2 := cell_of_one hb2
  have l1 := blk_lt hb1
  have l2 := blk_lt hb2
  have h2 : (deep : Int) ≤ 100 := by omega
  go_enter Tryz.func60, Tryz.ntmps60
  go_wp2_with fail
  refine (ih _ (hrd.fr ((Fr.refl No w).alloc _) (fun _ _ q => q.elim)) (hL.frNo ((Fr.refl No w).alloc _)) _ (by omega)).mono ?_
  rintro e w1 ⟨rfl, hL1, hf1⟩
  go_wp2_with fail
  go_ret
  exact ⟨rfl, hL1, ((Fr.refl _ _).alloc _).trans hf1⟩

theorem small_ok (n : Nat) : ∀ (x : Nod), x.size ≤ n → ∀ (v : Value) (L left deep : Nat) (w : World), Rd (Only L) w x v → LeftIs L left w → x.size ≤ left → left ≤ 3000 → deep + x.depth ≤ 61 → ∀ (D : Int), D = deep →
    Calls Tryz.prog 30 #[v, .pointer (some ⟨L, 0, none⟩), .int .i64 D] w (SmallPost L left x w) := by
  induction n with
  | zero => intro x hx; have := x.size_pos; omega
  | succ n ih =>
    intro x hx v L left deep w hrd hL hsz hl3 hdp D hD
    subst hD
    obtain ⟨a, cap, rfl, hkid⟩ := hrd.shape
    have hse := x.size_eq
    have hde := x.depth_eq
    have hlL := blk_lt hL
    have lc := cell_of_one hL
    have lf := free_of_one hL
    have h1 : (1 : Int) ≤ (left : Int) := by have := x.size_pos; omega
    have h2 : (left : Int) ≤ 3000 := by omega
    have h3 : ¬ (60 : Int) < (deep : Int) := by omega
    have h4 : ¬ (left : Int) - 1 < 0 := by omega
    have hl1 : L < w.heap.size + 1 := by omega
    have hl2 : L < w.heap.size + 1 + 1 := by omega
    go_enter Tryz.func30, Tryz.ntmps30
    have hlen : x.kids.length ≤ 1000000 := by have := length_le_sizes x.kids; omega
    have hsm : ∀ W0 : World, W0 = (((w.setCell ⟨L, 0, none⟩ (.int .i64 ((left : Int) - 1))).alloc (.cells #[.int .i64 x.op, .string x.name, .int .i64 x.n, .slice a x.kids.length cap] 27)).alloc (.cells #[.pointer (some ⟨L, 0, none⟩)] 77)).alloc (.cells #[.int .i64 deep] 3) →
        Calls Tryz.prog 59 #[.slice a x.kids.length cap, .func (.func 60) #[] #[.pointer (some ⟨w.heap.size + 1, 0, none⟩), .pointer (some ⟨w.heap.size + 1 + 1, 0, none⟩)]] W0 fun e w' => e = .returned (.bool false) ∧ LeftIs L (left - x.size) w' ∧ Fr (Only L) w w' := by
      intro W0 hW0
      have hfW : Fr (Only L) w W0 := by rw [hW0]; exact ((((Fr.refl (Only L) w).setOnly _).alloc _).alloc _).alloc _
      have hLW : LeftIs L (left - 1) W0 := by
        rw [hW0]
        have := blk_alloc (.cells #[.int .i64 deep] 3) (blk_alloc (.cells #[.pointer (some ⟨L, 0, none⟩)] 77) (blk_alloc (.cells #[.int .i64 x.op, .string x.name, .int .i64 x.n, .slice a x.kids.length cap] 27) (blk_set (o := 0) (.int .i64 ((left : Int) - 1)) hL)))
        unfold LeftIs
        rw [show ((left - 1 : Nat) : Int) = (left : Int) - 1 from by omega]
        exact this
      have hb1 : W0.heap[w.heap.size + 1]? = some (.cells #[.pointer (some ⟨L, 0, none⟩)] 77 (0, 0)) := by
        rw [hW0]
        exact blk_alloc _ (blk_newAt (by simp [World.setCell]) _)
      have hb2 : W0.heap[w.heap.size + 1 + 1]? = some (.cells #[.int .i64 deep] 3 (0, 0)) := by
        rw [hW0]
        exact blk_newAt (by simp [World.setCell]) _
      have hkW : Kid (Only L) W0 x.kids a := hkid.fr hfW (fun _ _ q => q)
      refine (containsFunc_none (Only L) x.kids a cap 60 _ (fun j w' => LeftIs L (left - 1 - sizes (x.kids.take j)) w' ∧ Fr (Only L) W0 w') hlen call60 ?_ ?_ W0 ⟨by simpa [sizes] using hLW, Fr.refl _ _⟩).mono ?_
      · rintro j w' ⟨_, hf⟩
        exact hkW.fr hf (fun _ _ q => q)
      · rintro j k v w' hk hr ⟨hl', hf'⟩
        obtain ⟨e1, e2⟩ := sizes_take hk
        have e3 := depths_get hk
        refine (small1_ok L (left - 1 - sizes (x.kids.take j)) deep (w.heap.size + 1) (w.heap.size + 1 + 1) k v w' hr hl' (by omega) (hf'.blk hb1 (by simp only [Only]; omega)) (hf'.blk hb2 (by simp only [Only]; omega)) ?_).mono ?_
        · intro w'' hr' hl'' D hD
          exact ih k (by omega) v L _ (deep + 1) w'' hr' hl'' (by omega) (by omega) (by omega) D hD
        · rintro e w'' ⟨rfl, hl2, hf2⟩
          refine ⟨rfl, ?_, hf'.trans hf2⟩
          rw [show left - 1 - sizes (x.kids.take (j + 1)) = left - 1 - sizes (x.kids.take j) - k.size from by omega]
          exact hl2
      · rintro e w' ⟨rfl, hl', hf'⟩
        refine ⟨rfl, ?_, hfW.trans hf'⟩
        rw [show left - x.size = left - 1 - sizes (x.kids.take x.kids.length) from by rw [List.take_length]; omega]
        exact hl'
    have Hsm := Lib.hid hsm
    clear hsm hrd hkid ih
    go_wp2_with fail
    refine (Hsm.out _ rfl).mono ?_
    rintro e w1 ⟨rfl, hL1, hf1⟩
    go_wp2_with fail
    go_ret
    exact ⟨rfl, hL1, hf1⟩
end Go.Proofs.YtngkobejdjjeeaaGreatDoor
