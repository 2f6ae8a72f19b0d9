/- tree.usings where there is no Using. -/
import Derived.Test.YtngkobejdjjeeaaGreatDoorC2
set_option linter.unusedSimpArgs false
set_option linter.unusedVariables false
namespace Go.Proofs.YtngkobejdjjeeaaGreatDoor
open Go.RowKit

/-- What it is that no Using is counted within a node. -/
def NoUse (k : Nod) : Prop := ∀ v w, Rd No w k v → Calls Tryz.prog 32 #[v] w fun e w' => e = .returned (.int .i64 0) ∧ Fr No w w'

set_option maxHeartbeats 1000000 in
theorem usings32 (x : Nod) (hop : x.op ≠ 45) (hlen : x.kids.length ≤ 1000000) (hks : ∀ k ∈ x.kids, NoUse k) : NoUse x := by
  intro v w hrd
  obtain ⟨a, cap, rfl, hkid⟩ := hrd.shape
  have ho : (x.op == 45) = false := by simpa using hop
  generalize hK : x.kids = ks at *
  generalize x.op = op at *
  clear hrd hK
  have hW : Fr No w (w.alloc (.cells #[.int .i64 op, .string x.name, .int .i64 x.n, .slice a ks.length cap] 27)) := (Fr.refl No w).alloc _
  go_enter Tryz.func32, Tryz.ntmps32
  go_wp2_with fail
  go_loopw [3, 12] (fun s i wr => s = .int .i64 0 ∧ ∃ j : Nat, j ≤ ks.length ∧ i = .int .i64 j ∧ Fr No w wr) (fun _ i _ => ks.length - (intOf i).toNat)
  case atStart => exact ⟨rfl, 0, Nat.zero_le _, rfl, hW⟩
  case round =>
    obtain ⟨rfl, j, hj, rfl, hfj⟩ := hrel
    rcases Nat.lt_or_ge j ks.length with hlt | hge
    · have hk := List.getElem?_eq_getElem hlt
      have hkd := hkid.fr hfj (fun _ _ q => q)
      have hu := hks _ (List.mem_of_getElem? hk)
      obtain ⟨b, o, rfl⟩ := hkd.addr (by intro q; rw [q] at hlt; simp at hlt)
      obtain ⟨_, hbl, _⟩ := hkd.get hk
      obtain ⟨ka, kc, h0, h1, h2, h3, hr⟩ := kid_at hkd hk
      generalize ks[j] = k at *
      have hs := hu _ _ (Rd.fr ((Fr.refl No wr).alloc (.cells #[.int .i64 k.op, .string k.name, .int .i64 k.n, .slice ka k.kids.length kc] 27)) (fun _ _ q => q) _ _ hr)
      have Hk := Lib.hid hk
      clear hk hkd hr hkid hks hu
      go_wp2_with fail
      refine hs.mono ?_
      rintro e w1 ⟨rfl, hf1⟩
      go_wp2_with fail
      go_roundw
      case rel => exact ⟨rfl, j + 1, hlt, by go_num, (hfj.alloc _).trans hf1⟩
      case measure => simp [intOf]; omega
    · have hge' : ¬ (j : Int) < (ks.length : Int) := by omega
      go_wp2_with fail
      go_ret
      exact ⟨rfl, hfj⟩
end Go.Proofs.YtngkobejdjjeeaaGreatDoor
