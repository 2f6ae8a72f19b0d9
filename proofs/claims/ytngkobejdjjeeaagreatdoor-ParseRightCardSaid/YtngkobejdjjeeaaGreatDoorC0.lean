/- slices.ContainsFunc over nodes, where the function answers false of each. -/
import Derived.Test.YtngkobejdjjeeaaGreatDoorB0
import Derived.Lib.Hide
set_option linter.unusedSimpArgs false
set_option linter.unusedVariables false
namespace Go.Proofs.YtngkobejdjjeeaaGreatDoor
open Go.RowKit

/-- What the value of a node is, as it lies at an index. -/
theorem kid_at {F : Nat → Prop} {w : World} {l : List Nod} {b o : Nat} {j : Nat} {k : Nod} (h : Kid F w l (some ⟨b, o, none⟩)) (hj : l[j]? = some k) :
    ∃ a cap, w.cell? ⟨b, o + j * 4, none⟩ = some (.int .i64 k.op) ∧ w.cell? ⟨b, o + j * 4 + 1, none⟩ = some (.string k.name) ∧ w.cell? ⟨b, o + j * 4 + 2, none⟩ = some (.int .i64 k.n) ∧
      w.cell? ⟨b, o + j * 4 + 3, none⟩ = some (.slice a k.kids.length cap) ∧ Rd F w k (.agg #[.int .i64 k.op, .string k.name, .int .i64 k.n, .slice a k.kids.length cap]) := by
  induction l generalizing o j with
  | nil => simp at hj
  | cons x xs ih =>
    cases j with
    | zero =>
      simp at hj
      subst hj
      simp only [Kid] at h
      obtain ⟨b', o', ha, _, _, ⟨x0, x1, x2, x3, h0, h1, h2, h3, hk⟩, _⟩ := h
      simp only [Option.some.injEq, Addr.mk.injEq, and_true] at ha
      obtain ⟨rfl, rfl⟩ := ha
      obtain ⟨a, cap, hv, _⟩ := hk.shape
      simp only [Value.agg.injEq, Array.mk.injEq, List.cons.injEq, and_true] at hv
      obtain ⟨rfl, rfl, rfl, rfl⟩ := hv
      exact ⟨a, cap, by simpa using h0, by simpa using h1, by simpa using h2, by simpa using h3, hk⟩
    | succ j =>
      have := ih h.tail (by simpa using hj)
      rw [show o + 4 + j * 4 = o + (j + 1) * 4 from by omega] at this
      exact this

set_option maxHeartbeats 1000000 in
set_option maxRecDepth 100000 in
theorem indexFunc_none (F : Nat → Prop) (ks : List Nod) (a : Option Addr) (c : Nat) (K : FuncId) (caps : Array Value) (Inv : Nat → World → Prop) (hlen : ks.length ≤ 1000000)
    (hK : ∀ args w, (callFunc K args).run Tryz.prog w = .ok (.enter K args) w)
    (hkid : ∀ j w, Inv j w → Kid F w ks a)
    (hstep : ∀ j k v w, ks[j]? = some k → Rd F w k v → Inv j w → Calls Tryz.prog K (#[v] ++ caps) w fun e w' => e = .returned (.bool false) ∧ Inv (j + 1) w')
    (w : World) (hI : Inv 0 w) :
    Calls Tryz.prog 101 #[.slice a ks.length c, .func (.func K) #[] caps] w fun e w' => e = .returned (.int .i64 (-1)) ∧ Inv ks.length w' := by
  go_enter Tryz.func101, Tryz.ntmps101
  go_wp2_with fail
  go_loopw [5, 8] (fun _ i wr => ∃ j : Nat, j ≤ ks.length ∧ i = .int .i64 j ∧ Inv j wr) (fun _ i _ => ks.length - (intOf i).toNat)
  case atStart => exact ⟨0, Nat.zero_le _, rfl, hI⟩
  case round =>
    obtain ⟨j, hj, rfl, hIj⟩ := hrel
    rcases Nat.lt_or_ge j ks.length with hlt | hge
    · have hk := List.getElem?_eq_getElem hlt
      have hkd := hkid j wr hIj
      obtain ⟨b, o, rfl⟩ := hkd.addr (by intro q; rw [q] at hlt; simp at hlt)
      obtain ⟨ka, kc, h0, h1, h2, h3, hr⟩ := kid_at hkd hk
      generalize ks[j] = k at *
      have hs := hstep j k _ wr hk hr hIj
      have Hk := Lib.hid hk
      clear hk hkd hr
      go_wp2_with fail
      refine hs.mono ?_
      rintro e w1 ⟨rfl, hI1⟩
      go_wp2_with fail
      go_roundw
      case rel => exact ⟨j + 1, hlt, by go_num, hI1⟩
      case measure => simp [intOf]; omega
    · have e : j = ks.length := by omega
      have HI : Hid (Inv ks.length wr) := e ▸ hIj
      have hge' : ¬ (j : Int) < (ks.length : Int) := by omega
      clear e hIj
      go_wp2_with fail
      go_ret
      exact ⟨rfl, HI.out⟩

theorem containsFunc_none (F : Nat → Prop) (ks : List Nod) (a : Option Addr) (c : Nat) (K : FuncId) (caps : Array Value) (Inv : Nat → World → Prop) (hlen : ks.length ≤ 1000000)
    (hK : ∀ args w, (callFunc K args).run Tryz.prog w = .ok (.enter K args) w)
    (hkid : ∀ j w, Inv j w → Kid F w ks a)
    (hstep : ∀ j k v w, ks[j]? = some k → Rd F w k v → Inv j w → Calls Tryz.prog K (#[v] ++ caps) w fun e w' => e = .returned (.bool false) ∧ Inv (j + 1) w')
    (w : World) (hI : Inv 0 w) :
    Calls Tryz.prog 59 #[.slice a ks.length c, .func (.func K) #[] caps] w fun e w' => e = .returned (.bool false) ∧ Inv ks.length w' := by
  have h := indexFunc_none F ks a c K caps Inv hlen hK hkid hstep w hI
  go_enter Tryz.func59, Tryz.ntmps59
  go_wp2_with fail
  refine h.mono ?_
  rintro e w1 ⟨rfl, hI1⟩
  go_wp2_with fail
  go_ret
  exact ⟨rfl, hI1⟩
end Go.Proofs.YtngkobejdjjeeaaGreatDoor
