/- Scan of a row of operators between ones. -/
import Derived.Test.YtngkobejdjjeeaaGreatDoorS7
set_option linter.unusedSimpArgs false
set_option linter.unusedVariables false
namespace Go.Proofs.YtngkobejdjjeeaaGreatDoor
open Go.RowKit

theorem best_op (k : Nat) (hk : k < 9) (r : List UInt8) : bestOf ((opText k).data.toList ++ 32 :: r) 38 = opText k := by
  match k, hk with
  | 0, _ => rfl
  | 1, _ => rfl
  | 2, _ => rfl
  | 3, _ => rfl
  | 4, _ => rfl
  | 5, _ => rfl
  | 6, _ => rfl
  | 7, _ => rfl
  | 8, _ => rfl

theorem op_facts (k : Nat) (hk : k < 9) (r : List UInt8) : Lib.hasPrefix ((opText k).data.toList ++ 32 :: r) [60, 60, 126] = false ∧ (opText k).toList.isEmpty = false ∧ 0 < (opText k).size ∧
    ∃ c t, (opText k).data.toList = c :: t ∧ (c = 124 ∨ c = 38 ∨ c = 61 ∨ c = 43 ∨ c = 45 ∨ c = 42 ∨ c = 47 ∨ c = 60) := by
  match k, hk with
  | 0, _ => exact ⟨rfl, by decide +kernel, by decide, _, _, rfl, by decide⟩
  | 1, _ => exact ⟨rfl, by decide +kernel, by decide, _, _, rfl, by decide⟩
  | 2, _ => exact ⟨rfl, by decide +kernel, by decide, _, _, rfl, by decide⟩
  | 3, _ => exact ⟨rfl, by decide +kernel, by decide, _, _, rfl, by decide⟩
  | 4, _ => exact ⟨rfl, by decide +kernel, by decide, _, _, rfl, by decide⟩
  | 5, _ => exact ⟨rfl, by decide +kernel, by decide, _, _, rfl, by decide⟩
  | 6, _ => exact ⟨rfl, by decide +kernel, by decide, _, _, rfl, by decide⟩
  | 7, _ => exact ⟨rfl, by decide +kernel, by decide, _, _, rfl, by decide⟩
  | 8, _ => exact ⟨rfl, by decide +kernel, by decide, _, _, rfl, by decide⟩

theorem drop_head {α : Type} {l : List α} {i : Nat} {x : α} {r : List α} (h : l.drop i = x :: r) : l[i]? = some x ∧ l.drop (i + 1) = r ∧ i < l.length := by
  have h1 : l[i]? = some x := by
    have := congrArg (fun z => z[0]?) h
    simpa [List.getElem?_drop] using this
  refine ⟨h1, ?_, (List.getElem?_eq_some_iff.1 h1).1⟩
  have := congrArg List.tail h
  simpa [List.tail_drop] using this

theorem flat_last (ks : List Nat) (h : ks ≠ []) : ∃ F', flatToks ks = F' ++ [numTok true] := by
  induction ks with
  | nil => exact absurd rfl h
  | cons k ks ih =>
    by_cases he : ks = []
    · subst he
      exact ⟨[sgnTok k], rfl⟩
    · obtain ⟨F', hF'⟩ := ih he
      exact ⟨sgnTok k :: numTok true :: F', by simp only [flatToks, hF', List.cons_append]⟩

theorem toks_last (ks : List Nat) : ∃ F' t, toksOf ks = F' ++ [t] ∧ t.kind = 4 := by
  by_cases he : ks = []
  · subst he
    exact ⟨[], numTok false, rfl, rfl⟩
  · obtain ⟨F', hF'⟩ := flat_last ks he
    exact ⟨numTok false :: F', numTok true, by simp only [toksOf, hF', List.cons_append], rfl⟩

theorem scan_row (G : World → Prop) (hG : ∀ w w', G w → Fr No w w' → G w') (hsp : ∀ w, G w → Sp w) (ks : List Nat) (h9 : ∀ k ∈ ks, k < 9) (src : ByteArray) (hsrc : src.data.toList = 49 :: tailOf ks) (hsz : src.size ≤ 1000)
    (w : World) (hw : G w) : Calls Tryz.prog 18 #[.string src] w (ScanPost (toksOf ks) w) := by
  have hlen : src.data.toList.length = src.size := rfl
  refine scan_pass G hG src (toksOf ks) 4 (toks_last ks) rfl (fun i sp l => Ph (toksOf ks) (src.data.toList.drop i) sp l) ?_ hsz ?_ ?_ w hw
  · show Ph (toksOf ks) (src.data.toList.drop 0) false []
    rw [List.drop_zero, hsrc]
    exact Ph.num h9 rfl
  · intro S i sp v l w hw _ hI hlt hs
    generalize hr : src.data.toList.drop i = rest at hI
    cases hI with
    | @num post sp l hp hF =>
      obtain ⟨hc, hd, _⟩ := drop_head hr
      have hn : i + 1 = src.size ∨ src.data.toList[i + 1]? = some 32 := by
        rcases tail_blank post with ht | ⟨r, ht⟩
        · left
          rw [ht] at hd
          have := List.drop_eq_nil_iff.1 hd
          omega
        · right
          rw [ht] at hd
          exact (drop_head hd).1
      refine (next_num S src i sp v l w hs 49 hc (.inl rfl) hn).mono ?_
      rintro e w' ⟨rfl, ⟨v', h'⟩, hf⟩
      refine ⟨rfl, ⟨i + 1, false, v', _, by omega, ?_, h'⟩, hf⟩
      rw [hd]
      exact Ph.gap hp (by rw [List.append_assoc]; exact hF)
    | @gap post l hp hF =>
      cases post with
      | nil =>
        exfalso
        have := List.drop_eq_nil_iff.1 hr
        omega
      | cons k post =>
        simp only [tailOf] at hr
        obtain ⟨hc, hd, _⟩ := drop_head hr
        refine (next_blank S src i false v l w hs hc).mono ?_
        rintro e w' ⟨rfl, h', hf⟩
        refine ⟨rfl, ⟨i + 1, true, v, l, by omega, ?_, h'⟩, hf⟩
        rw [hd]
        exact Ph.sgn (hp k (by simp)) (fun x hx => hp x (by simp [hx])) hF
    | @sgn k post l hk hp hF =>
      obtain ⟨p1, p2, p3, c, t, p4, p5⟩ := op_facts k hk (49 :: tailOf post)
      have hb := best_op k hk (49 :: tailOf post)
      rw [← hr] at p1 hb
      have hr' := hr
      rw [p4, List.cons_append] at hr'
      obtain ⟨hc, _, _⟩ := drop_head hr'
      have hdl : src.data.toList.drop (i + (opText k).size) = 32 :: 49 :: tailOf post := by
        rw [← List.drop_drop, hr]
        exact List.drop_left
      have hxi : i + (opText k).size ≤ src.size := by have := (drop_head hdl).2.2; omega
      refine (next_sign S src i true v l w hs (hsp _ hw) c hc p5 p1 (opText k) hb p2 p3 hxi).mono ?_
      rintro e w' ⟨rfl, ⟨v', h'⟩, hf⟩
      refine ⟨rfl, ⟨_, false, v', _, by omega, ?_, h'⟩, hf⟩
      rw [hdl]
      exact Ph.gap2 hp (by rw [List.append_assoc]; exact hF)
    | @gap2 post l hp hF =>
      obtain ⟨hc, hd, _⟩ := drop_head hr
      refine (next_blank S src i false v l w hs hc).mono ?_
      rintro e w' ⟨rfl, h', hf⟩
      refine ⟨rfl, ⟨i + 1, true, v, l, by omega, ?_, h'⟩, hf⟩
      rw [hd]
      exact Ph.num hp hF
  · intro sp l hI
    simp only [← hlen, List.drop_length] at hI
    exact hI.over
end Go.Proofs.YtngkobejdjjeeaaGreatDoor
