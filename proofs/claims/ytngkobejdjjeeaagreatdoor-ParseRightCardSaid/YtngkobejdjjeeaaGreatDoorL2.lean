/- The law's grouped: a tree of a row of operators is grouped as it asks. -/
import Derived.Test.YtngkobejdjjeeaaGreatDoorD9
set_option linter.unusedSimpArgs false
set_option linter.unusedVariables false
namespace Go.Proofs.YtngkobejdjjeeaaGreatDoor
open Go.RowKit

/-- Numbers of operators lie in a row. -/
def InS (w : World) (a : Option Addr) (ks : List Nat) : Prop := ks = [] ∨ ∃ b o, a = some ⟨b, o, none⟩ ∧ b < w.heap.size ∧ ∀ (j k : Nat), ks[j]? = some k → w.cell? ⟨b, o + j, none⟩ = some (.int .i64 k)
/-- The law's two tables. -/
def RankAt (w : World) (rb : Nat) : Prop := rb < w.heap.size ∧ ∀ j, j < 9 → w.cell? ⟨rb, j, none⟩ = some (.int .i64 (rank j))
def OpsAt (w : World) (ob : Nat) : Prop := ob < w.heap.size ∧ ∀ j, j < 9 → w.cell? ⟨ob, j, none⟩ = some (.string (opText j))

theorem InS.fr {w w' : World} {a : Option Addr} {ks : List Nat} (h : InS w a ks) (hf : Fr No w w') : InS w' a ks := by
  rcases h with h | ⟨b, o, ha, hb, hc⟩
  · exact .inl h
  · exact .inr ⟨b, o, ha, Nat.lt_of_lt_of_le hb hf.size, fun j k hk => (hf.cell hb (fun q => q)).trans (hc j k hk)⟩
theorem RankAt.fr {w w' : World} {rb : Nat} (h : RankAt w rb) (hf : Fr No w w') : RankAt w' rb := ⟨Nat.lt_of_lt_of_le h.1 hf.size, fun j hj => (hf.cell h.1 (fun q => q)).trans (h.2 j hj)⟩
theorem OpsAt.fr {w w' : World} {ob : Nat} (h : OpsAt w ob) (hf : Fr No w w') : OpsAt w' ob := ⟨Nat.lt_of_lt_of_le h.1 hf.size, fun j hj => (hf.cell h.1 (fun q => q)).trans (h.2 j hj)⟩

/-- Where the last of the loosest of the first j stands. -/
def AtOk (ks : List Nat) (j t : Nat) : Prop := (j = 0 ∧ t = 0) ∨ (t < j ∧ (∀ i x y, i < t → ks[i]? = some x → ks[t]? = some y → rank y ≤ rank x) ∧ ∀ i x y, t < i → i < j → ks[i]? = some x → ks[t]? = some y → rank y < rank x)

theorem AtOk.yes {ks : List Nat} {j t x y : Nat} (h : AtOk ks j t) (hx : ks[j]? = some x) (hy : ks[t]? = some y) (hr : rank x ≤ rank y) : AtOk ks (j + 1) j := by
  refine .inr ⟨by omega, ?_, ?_⟩
  · intro i u v hi hu hv
    rw [hx] at hv
    cases hv
    rcases h with ⟨rfl, rfl⟩ | ⟨ht, h1, h2⟩
    · omega
    · rcases Nat.lt_trichotomy i t with q | q | q
      · have := h1 i u y q hu hy; omega
      · subst q
        rw [hu] at hy
        cases hy
        exact hr
      · have := h2 i u y q hi hu hy; omega
  · intro i u v hi hi2 _ _
    omega

theorem AtOk.no {ks : List Nat} {j t x y : Nat} (h : AtOk ks j t) (hx : ks[j]? = some x) (hy : ks[t]? = some y) (hr : ¬ rank x ≤ rank y) : AtOk ks (j + 1) t := by
  rcases h with ⟨rfl, rfl⟩ | ⟨ht, h1, h2⟩
  · rw [hx] at hy
    cases hy
    omega
  · refine .inr ⟨by omega, h1, ?_⟩
    intro i u v hi hi2 hu hv
    rcases Nat.lt_or_ge i j with q | q
    · exact h2 i u v hi q hu hv
    · have e : i = j := by omega
      subst e
      rw [hx] at hu
      rw [hy] at hv
      cases hu
      cases hv
      omega

theorem AtOk.lt {ks : List Nat} {j t : Nat} (h : AtOk ks j t) (hj : j ≤ ks.length) (h0 : 0 < ks.length) : t < ks.length := by
  rcases h with ⟨rfl, rfl⟩ | ⟨ht, _⟩ <;> omega

/-- It is where the tree parts. -/
theorem AtOk.uniq {pre post : List Nat} {k t : Nat} (h : AtOk (pre ++ k :: post) (pre ++ k :: post).length t) (h1 : ∀ x ∈ pre, rank k ≤ rank x) (h2 : ∀ x ∈ post, rank k < rank x) : t = pre.length := by
  have hk : (pre ++ k :: post)[pre.length]? = some k := by simp
  rcases h with ⟨h0, _⟩ | ⟨ht, hA, hB⟩
  · simp at h0
  · rcases Nat.lt_trichotomy t pre.length with q | q | q
    · exfalso
      have hy : (pre ++ k :: post)[t]? = some pre[t] := by rw [List.getElem?_append_left q, List.getElem?_eq_getElem q]
      have a1 := hB pre.length k pre[t] q (by simp) hk hy
      have a2 := h1 pre[t] (List.getElem_mem q)
      omega
    · exact q
    · exfalso
      have hy := List.getElem?_eq_getElem ht
      have hm : (pre ++ k :: post)[t] ∈ post := by
        rw [List.getElem_append_right (by omega)]
        obtain ⟨d, hd⟩ : ∃ d, t - pre.length = d + 1 := ⟨t - pre.length - 1, by omega⟩
        simp only [hd, List.getElem_cons_succ]
        exact List.getElem_mem _
      have a1 := hA pre.length k _ q hk hy
      have a2 := h2 _ hm
      omega
end Go.Proofs.YtngkobejdjjeeaaGreatDoor
