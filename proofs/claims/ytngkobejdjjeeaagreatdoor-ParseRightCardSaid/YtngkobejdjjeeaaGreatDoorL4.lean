/- The law ParseRight: the loop that makes the text, and the whole. -/
import Derived.Test.YtngkobejdjjeeaaGreatDoorL3
set_option linter.unusedSimpArgs false
set_option linter.unusedVariables false
namespace Go.Proofs.YtngkobejdjjeeaaGreatDoor
open Go.RowKit

theorem tail_snoc (ks : List Nat) (k : Nat) : tailOf (ks ++ [k]) = tailOf ks ++ 32 :: ((opText k).data.toList ++ [32, 49]) := by
  induction ks with
  | nil => rfl
  | cons x ks ih => simp [tailOf, ih]

theorem op_len (k : Nat) : (opText k).size ≤ 2 := by
  unfold opText
  split <;> decide

theorem tail_len (ks : List Nat) : (tailOf ks).length ≤ 5 * ks.length := by
  induction ks with
  | nil => simp [tailOf]
  | cons k ks ih =>
    have h := op_len k
    have e : (opText k).data.toList.length = (opText k).size := rfl
    simp only [tailOf, List.length_cons, List.length_append, e]
    omega

theorem text_len {st : ByteArray} {ks : List Nat} (h : st.data.toList = 49 :: tailOf ks) : st.size ≤ 1 + 5 * ks.length := by
  have e : st.data.toList.length = st.size := rfl
  have := tail_len ks
  rw [← e, h, List.length_cons]
  omega

/-- The flag: an == stands since the last || or &&. -/
def EqFlag (ks : List Nat) (b : Bool) : Prop := b = true ↔ ∃ m : Nat, ks[m]? = some (2 : Nat) ∧ ∀ (j x : Nat), m < j → ks[j]? = some x → 2 ≤ x

theorem rank_low (x : Nat) (h : x < 2) : rank x < 2 := by
  match x, h with
  | 0, _ => decide
  | 1, _ => decide

theorem eq_snoc {ks : List Nat} {b : Bool} {k : Nat} (he : EqOk ks) (hf : EqFlag ks b) (hk : k = 2 → b = false) : EqOk (ks ++ [k]) := by
  intro i j hij hi hj
  rcases Nat.lt_trichotomy j ks.length with q | q | q
  · rw [List.getElem?_append_left (by omega)] at hi
    rw [List.getElem?_append_left q] at hj
    obtain ⟨m, x, h1, h2, h3, h4⟩ := he i j hij hi hj
    exact ⟨m, x, h1, h2, by rw [List.getElem?_append_left (by omega)]; exact h3, h4⟩
  · subst q
    rw [List.getElem?_append_left hij] at hi
    have hk2 : k = 2 := by simpa using hj
    have hb := hk hk2
    apply Classical.byContradiction
    intro hno
    have : b = true := hf.2 ⟨i, hi, fun j x hj hx => by
      apply Classical.byContradiction
      intro hlt
      have hjl : j < ks.length := (List.getElem?_eq_some_iff.1 hx).1
      exact hno ⟨j, x, hj, hjl, by rw [List.getElem?_append_left hjl]; exact hx, rank_low x (by omega)⟩⟩
    rw [hb] at this
    cases this
  · rw [List.getElem?_eq_none (by simp; omega)] at hj
    cases hj

theorem flag_snoc {ks : List Nat} {b : Bool} {k : Nat} (hf : EqFlag ks b) : EqFlag (ks ++ [k]) (decide (k = 2) || (b && decide (1 < k))) := by
  constructor
  · intro h
    simp only [Bool.or_eq_true, Bool.and_eq_true, decide_eq_true_eq] at h
    rcases h with rfl | ⟨hb, hk⟩
    · exact ⟨ks.length, by simp, fun j x hj hx => by rw [List.getElem?_eq_none (by simp; omega)] at hx; cases hx⟩
    · obtain ⟨m, h1, h2⟩ := hf.1 hb
      have hm : m < ks.length := (List.getElem?_eq_some_iff.1 h1).1
      refine ⟨m, by rw [List.getElem?_append_left hm]; exact h1, fun j x hj hx => ?_⟩
      rcases Nat.lt_trichotomy j ks.length with q | q | q
      · rw [List.getElem?_append_left q] at hx
        exact h2 j x hj hx
      · subst q
        have : k = x := by simpa using hx
        omega
      · rw [List.getElem?_eq_none (by simp; omega)] at hx
        cases hx
  · rintro ⟨m, h1, h2⟩
    simp only [Bool.or_eq_true, Bool.and_eq_true, decide_eq_true_eq]
    rcases Nat.lt_trichotomy m ks.length with q | q | q
    · right
      rw [List.getElem?_append_left q] at h1
      refine ⟨hf.2 ⟨m, h1, fun j x hj hx => ?_⟩, ?_⟩
      · have hjl : j < ks.length := (List.getElem?_eq_some_iff.1 hx).1
        exact h2 j x hj (by rw [List.getElem?_append_left hjl]; exact hx)
      · have := h2 ks.length k q (by simp)
        omega
    · left
      subst q
      simpa using h1
    · rw [List.getElem?_eq_none (by simp; omega)] at h1
      cases h1

/-- Every tree of a row is grouped as the law asks. -/
theorem grp_all {ks : List Nat} {x : Nod} (h : IsT ks x) (h9 : ∀ u ∈ ks, u < 9) (hl : ks.length ≤ 1000) : Grp ks x := by
  induction h with
  | one => exact grp_one
  | @op pre post k a b h1 h2 _ _ iha ihb =>
    exact grp_op pre post k a b h1 h2 h9 hl (iha (fun u hu => h9 u (by simp [hu])) (by simp at hl; omega)) (ihb (fun u hu => h9 u (by simp [hu])) (by simp at hl; omega))

theorem wrapu_nonneg (z : Int) : 0 ≤ IntKind.u64.wrap z := by
  first
    | (rw [IntKind.wrap_u64]; omega)
    | (unfold IntKind.wrap; simp [IntKind.bits, IntKind.signed]; omega)

/-- What an append to an own row leaves. -/
theorem Fr.ofRowAt {B : Nat} {w w' : World} {e : TypeId} {size : Nat} {v : Value} {n : Nat} {xs : List Value} (h : w.ownsRow B e size v n xs) (hg : w.grownBy w' v.ownBlock) : Fr (Ge B) w w' :=
  ⟨hg.os, hg.tape, hg.output, hg.size, fun k hk hn => hg.block k hk (fun e => by
    have := (h.lt k e.symm).1
    simp only [Ge] at hn
    omega)⟩

theorem info3 : (Tryz.prog.info? 3).map (fun i => (i.zero, i.size, i.bytes)) = some (some (.int .i64 0), 1, 8) := by kernel_rfl

set_option maxHeartbeats 4000000 in
set_option maxRecDepth 100000 in
theorem law_walk (G : World → Prop) (hG : ∀ w w', G w → Fr No w w' → G w') (hsp : ∀ w, G w → Sp w) (hsh : ∀ w, G w → w.ShapedOpen Tryz.prog) (a : Option Addr) (zs : List Int) (cap : Nat) (hz : zs.length ≤ 9223372036854775807)
    (w : World) (hw : G w) (hin : zs = [] ∨ ∃ b o, a = some ⟨b, o, none⟩ ∧ b < w.heap.size ∧ ∀ (j : Nat) (z : Int), zs[j]? = some z → w.cell? ⟨b, o + j, none⟩ = some (.int .i64 z)) :
    Calls Tryz.prog 5 #[.slice a zs.length cap] w fun e w' => e = .returned (.bool true) ∧ Fr No w w' := by
  have hsane := fun w hw => sane_true G hG hsh w hw
  by_cases hbig : (zs.length : Int) > 20
  · go_enter Tryz.func5, Tryz.ntmps5
    go_wp2_with fail
    refine (hsane _ (hG _ _ hw (((Fr.refl No w).alloc _).alloc _))).mono ?_
    rintro e w1 ⟨rfl, hf1⟩
    go_wp2_with fail
    refine bodyPost_ret (v := .bool true) ?_ rfl ⟨rfl, (((Fr.refl No w).alloc _).alloc _).trans hf1⟩
    simp [results, Tryz.results5, go_sem]
  · have hsm : zs.length ≤ 20 := by omega
    have hops0 : OpsAt ((w.alloc (.cells #[.string ⟨#[124, 124]⟩, .string ⟨#[38, 38]⟩, .string ⟨#[61, 61]⟩, .string ⟨#[60]⟩, .string ⟨#[60, 60]⟩, .string ⟨#[43]⟩, .string ⟨#[45]⟩, .string ⟨#[42]⟩, .string ⟨#[47]⟩] 9)).alloc (.cells #[.int .i64 0, .int .i64 1, .int .i64 2, .int .i64 3, .int .i64 5, .int .i64 6, .int .i64 6, .int .i64 7, .int .i64 7] 3)) w.heap.size := by
      have hb := blk_alloc (.cells #[.int .i64 0, .int .i64 1, .int .i64 2, .int .i64 3, .int .i64 5, .int .i64 6, .int .i64 6, .int .i64 7, .int .i64 7] 3) (blk_new w (.cells #[.string ⟨#[124, 124]⟩, .string ⟨#[38, 38]⟩, .string ⟨#[61, 61]⟩, .string ⟨#[60]⟩, .string ⟨#[60, 60]⟩, .string ⟨#[43]⟩, .string ⟨#[45]⟩, .string ⟨#[42]⟩, .string ⟨#[47]⟩] 9))
      refine ⟨blk_lt hb, fun j hj => blk_cell hb ?_⟩
      match j, hj with
      | 0, _ => rfl
      | 1, _ => rfl
      | 2, _ => rfl
      | 3, _ => rfl
      | 4, _ => rfl
      | 5, _ => rfl
      | 6, _ => rfl
      | 7, _ => rfl
      | 8, _ => rfl
    have hrank0 : RankAt ((w.alloc (.cells #[.string ⟨#[124, 124]⟩, .string ⟨#[38, 38]⟩, .string ⟨#[61, 61]⟩, .string ⟨#[60]⟩, .string ⟨#[60, 60]⟩, .string ⟨#[43]⟩, .string ⟨#[45]⟩, .string ⟨#[42]⟩, .string ⟨#[47]⟩] 9)).alloc (.cells #[.int .i64 0, .int .i64 1, .int .i64 2, .int .i64 3, .int .i64 5, .int .i64 6, .int .i64 6, .int .i64 7, .int .i64 7] 3)) (w.heap.size + 1) := by
      have hb := blk_newAt (w := w.alloc (.cells #[.string ⟨#[124, 124]⟩, .string ⟨#[38, 38]⟩, .string ⟨#[61, 61]⟩, .string ⟨#[60]⟩, .string ⟨#[60, 60]⟩, .string ⟨#[43]⟩, .string ⟨#[45]⟩, .string ⟨#[42]⟩, .string ⟨#[47]⟩] 9)) (k := w.heap.size + 1) (by simp) (.cells #[.int .i64 0, .int .i64 1, .int .i64 2, .int .i64 3, .int .i64 5, .int .i64 6, .int .i64 6, .int .i64 7, .int .i64 7] 3)
      refine ⟨blk_lt hb, fun j hj => blk_cell hb ?_⟩
      match j, hj with
      | 0, _ => rfl
      | 1, _ => rfl
      | 2, _ => rfl
      | 3, _ => rfl
      | 4, _ => rfl
      | 5, _ => rfl
      | 6, _ => rfl
      | 7, _ => rfl
      | 8, _ => rfl
    have hWf : Fr No w ((w.alloc (.cells #[.string ⟨#[124, 124]⟩, .string ⟨#[38, 38]⟩, .string ⟨#[61, 61]⟩, .string ⟨#[60]⟩, .string ⟨#[60, 60]⟩, .string ⟨#[43]⟩, .string ⟨#[45]⟩, .string ⟨#[42]⟩, .string ⟨#[47]⟩] 9)).alloc (.cells #[.int .i64 0, .int .i64 1, .int .i64 2, .int .i64 3, .int .i64 5, .int .i64 6, .int .i64 6, .int .i64 7, .int .i64 7] 3)) := ((Fr.refl No w).alloc _).alloc _
    go_enter Tryz.func5, Tryz.ntmps5
    go_wp2_with fail
    generalize (w.alloc (.cells #[.string ⟨#[124, 124]⟩, .string ⟨#[38, 38]⟩, .string ⟨#[61, 61]⟩, .string ⟨#[60]⟩, .string ⟨#[60, 60]⟩, .string ⟨#[43]⟩, .string ⟨#[45]⟩, .string ⟨#[42]⟩, .string ⟨#[47]⟩] 9)).alloc (.cells #[.int .i64 0, .int .i64 1, .int .i64 2, .int .i64 3, .int .i64 5, .int .i64 6, .int .i64 6, .int .i64 7, .int .i64 7] 3) = W at *
    have hinW : ∀ (j : Nat) (z : Int), zs[j]? = some z → ∃ b o, a = some ⟨b, o, none⟩ ∧ b < W.heap.size ∧ W.cell? ⟨b, o + j, none⟩ = some (.int .i64 z) := by
      intro j z hj
      rcases hin with h | ⟨b, o, ha, hb, hc⟩
      · rw [h] at hj; simp at hj
      · exact ⟨b, o, ha, Nat.lt_of_lt_of_le hb hWf.size, (hWf.cell hb (fun q => q)).trans (hc j z hj)⟩
    obtain ⟨i0, hi0, hz0', hz1', hz2'⟩ := info_parts info3
    go_loopw [5, 6, 7, 8] (fun s ch eq i wr => ∃ (ks : List Nat) (b : Bool) (st : ByteArray), i = .int .i64 ks.length ∧ ks.length ≤ zs.length ∧ (∀ k ∈ ks, k < 9) ∧ EqOk ks ∧ EqFlag ks b ∧ eq = .bool b ∧ s = .string st ∧ st.data.toList = 49 :: tailOf ks ∧
      wr.ownsRow W.heap.size 3 1 ch ks.length (ks.map fun (k : Nat) => Value.int .i64 k) ∧ Fr No W wr) (fun _ _ _ i _ => zs.length - (intOf i).toNat)
    case atStart => exact ⟨[], false, ⟨#[49]⟩, rfl, Nat.zero_le _, by simp, fun i j _ h _ => by simp at h, by simp [EqFlag], rfl, rfl, rfl, World.ownsRow_nil _ _ _ _, Fr.refl _ _⟩
    case round =>
      obtain ⟨ks, b, st, rfl, hkl, h9, heq, hfl, rfl, rfl, hst, hown, hf⟩ := hrel
      rcases Nat.lt_or_ge ks.length zs.length with hlt | hge
      · have hlt' : (ks.length : Int) < zs.length := by omega
        have hgz := List.getElem?_eq_getElem hlt
        obtain ⟨sb, so, rfl, hsb, hsc⟩ := hinW _ _ hgz
        generalize zs[ks.length] = z at *
        have hsc' := (hf.cell hsb (fun q => q)).trans hsc
        have hsb' : sb < wr.heap.size := Nat.lt_of_lt_of_le hsb hf.size
        obtain ⟨k0, hk0, hk9⟩ : ∃ k0 : Nat, (IntKind.u64.wrap z).tmod 9 = (k0 : Int) ∧ k0 < 9 := by
          have h : 0 ≤ IntKind.u64.wrap z := wrapu_nonneg z
          refine ⟨((IntKind.u64.wrap z).tmod 9).toNat, ?_, ?_⟩ <;> rw [Int.tmod_eq_emod_of_nonneg h] <;> omega
        have hd9 : (k0 : Int) < 9 := by omega
        have hsz := text_len hst
        have hsz' : st.size ≤ 200 := by omega
        have hos := op_len k0
        have hos2 := op_len 2
        have hos3 := op_len 3
        clear hsz
        by_cases h2 : k0 = 2
        · subst h2
          rcases b with _ | _
          · have hfs := hf.size
            have hkc := (hops0.fr hf).2 2 (by omega)
            go_wp2_with (refine wpList_append_lies _ (by rfl) _ _ _ (by rfl) W.heap.size 3 i0 _ 1 8 Tryz.underlying22 hi0 hz0' hz1' hz2' rfl (by omega) _ ks.length (ks.map fun (k : Nat) => Value.int .i64 k) (by rfl) (hown.alloc _) ⟨_, 0, none⟩ 1 1 _ (by rfl) (by rfl) (World.news_of_block (t := 3) (fr := (0, 0)) (blk_newAt (by simp) _)) (by simp [Value.oneCell']) (by omega) (by unfold maxLen; omega) (by omega) (by simp; omega) _ rfl ?_; intro gg gcap w5 hown5 hgrow5 hat5 hlt5; have hf5 : Fr No W w5 := (hf.alloc _).trans' (Fr.ofRowAt (hown.alloc _) hgrow5) (fun i hi q => by simp only [Ge] at q; omega); have ho5 := (hops0.fr hf5).2 2 (by omega); have oz5 := (hops0.fr hf5).1)
            go_roundw
            case rel =>
              refine ⟨ks ++ [2], true, _, by simp, by simp; omega, ?_, eq_snoc heq hfl (by intro _; rfl), by simpa using flag_snoc (k := 2) hfl, rfl, rfl, ?_, ?_, hf5⟩
              · intro u hu
                rcases List.mem_append.1 hu with q | q
                · exact h9 u q
                · simp at q; omega
              · simp [hst, tail_snoc]
              · simpa using hown5
            case measure => simp [intOf]; omega
          · have hfs := hf.size
            have hkc := (hops0.fr hf).2 3 (by omega)
            go_wp2_with (refine wpList_append_lies _ (by rfl) _ _ _ (by rfl) W.heap.size 3 i0 _ 1 8 Tryz.underlying22 hi0 hz0' hz1' hz2' rfl (by omega) _ ks.length (ks.map fun (k : Nat) => Value.int .i64 k) (by rfl) (hown.alloc _) ⟨_, 0, none⟩ 1 1 _ (by rfl) (by rfl) (World.news_of_block (t := 3) (fr := (0, 0)) (blk_newAt (by simp) _)) (by simp [Value.oneCell']) (by omega) (by unfold maxLen; omega) (by omega) (by simp; omega) _ rfl ?_; intro gg gcap w5 hown5 hgrow5 hat5 hlt5; have hf5 : Fr No W w5 := (hf.alloc _).trans' (Fr.ofRowAt (hown.alloc _) hgrow5) (fun i hi q => by simp only [Ge] at q; omega); have ho5 := (hops0.fr hf5).2 3 (by omega); have oz5 := (hops0.fr hf5).1)
            go_roundw
            case rel =>
              refine ⟨ks ++ [3], true, _, by simp, by simp; omega, ?_, eq_snoc heq hfl (by intro q; omega), by simpa using flag_snoc (k := 3) hfl, rfl, rfl, ?_, ?_, hf5⟩
              · intro u hu
                rcases List.mem_append.1 hu with q | q
                · exact h9 u q
                · simp at q; omega
              · simp [hst, tail_snoc]
              · simpa using hown5
            case measure => simp [intOf]; omega
        · have h2' : ((k0 : Int) == 2) = false := by rw [beq_eq_false_iff_ne]; omega
          rcases b with _ | _
          · have hfs := hf.size
            have hkc := (hops0.fr hf).2 k0 (by omega)
            go_wp2_with (refine wpList_append_lies _ (by rfl) _ _ _ (by rfl) W.heap.size 3 i0 _ 1 8 Tryz.underlying22 hi0 hz0' hz1' hz2' rfl (by omega) _ ks.length (ks.map fun (k : Nat) => Value.int .i64 k) (by rfl) (hown.alloc _) ⟨_, 0, none⟩ 1 1 _ (by rfl) (by rfl) (World.news_of_block (t := 3) (fr := (0, 0)) (blk_newAt (by simp) _)) (by simp [Value.oneCell']) (by omega) (by unfold maxLen; omega) (by omega) (by simp; omega) _ rfl ?_; intro gg gcap w5 hown5 hgrow5 hat5 hlt5; have hf5 : Fr No W w5 := (hf.alloc _).trans' (Fr.ofRowAt (hown.alloc _) hgrow5) (fun i hi q => by simp only [Ge] at q; omega); have ho5 := (hops0.fr hf5).2 k0 (by omega); have oz5 := (hops0.fr hf5).1)
            go_roundw
            case rel =>
              refine ⟨ks ++ [k0], false, _, by simp, by simp; omega, ?_, eq_snoc heq hfl (by intro q; omega), by simpa [h2] using flag_snoc (k := k0) hfl, rfl, rfl, ?_, ?_, hf5⟩
              · intro u hu
                rcases List.mem_append.1 hu with q | q
                · exact h9 u q
                · simp at q; omega
              · simp [hst, tail_snoc]
              · simpa using hown5
            case measure => simp [intOf]; omega
          · have hfs := hf.size
            have hkc := (hops0.fr hf).2 k0 (by omega)
            go_wp2_with (refine wpList_append_lies _ (by rfl) _ _ _ (by rfl) W.heap.size 3 i0 _ 1 8 Tryz.underlying22 hi0 hz0' hz1' hz2' rfl (by omega) _ ks.length (ks.map fun (k : Nat) => Value.int .i64 k) (by rfl) (hown.alloc _) ⟨_, 0, none⟩ 1 1 _ (by rfl) (by rfl) (World.news_of_block (t := 3) (fr := (0, 0)) (blk_newAt (by simp) _)) (by simp [Value.oneCell']) (by omega) (by unfold maxLen; omega) (by omega) (by simp; omega) _ rfl ?_; intro gg gcap w5 hown5 hgrow5 hat5 hlt5; have hf5 : Fr No W w5 := (hf.alloc _).trans' (Fr.ofRowAt (hown.alloc _) hgrow5) (fun i hi q => by simp only [Ge] at q; omega); have ho5 := (hops0.fr hf5).2 k0 (by omega); have oz5 := (hops0.fr hf5).1)
            go_roundw
            case rel =>
              refine ⟨ks ++ [k0], (decide ((1 : Int) < k0)), _, by simp, by simp; omega, ?_, eq_snoc heq hfl (by intro q; omega), (by rw [show decide ((1 : Int) < (k0 : Int)) = decide (1 < k0) from decide_eq_decide.2 (by omega)]; have := flag_snoc (k := k0) hfl; simpa [h2] using this), rfl, rfl, ?_, ?_, hf5⟩
              · intro u hu
                rcases List.mem_append.1 hu with q | q
                · exact h9 u q
                · simp at q; omega
              · simp [hst, tail_snoc]
              · simpa using hown5
            case measure => simp [intOf]; omega
      · have hge' : ¬ (ks.length : Int) < zs.length := by omega
        obtain ⟨x6, hx6⟩ : ∃ x6, x6 = u6 := ⟨_, rfl⟩
        obtain ⟨ca, ccap, rfl, hccap, hins⟩ : ∃ ca ccap, u6 = .slice ca ks.length ccap ∧ ks.length ≤ ccap ∧ InS wr ca ks := by
          rcases hown.2 with ⟨hv, h0⟩ | ⟨g, cp, cur, hv, _, hg, hc1, _, _, _⟩
          · exact ⟨none, 0, by rw [hv, h0], by omega, .inl (List.length_eq_zero_iff.1 h0)⟩
          · subst hv
            refine ⟨_, _, rfl, hc1, .inr ⟨g, 0, rfl, blk_lt hg, fun j k hj => ?_⟩⟩
            have hjl : j < ks.length := (List.getElem?_eq_some_iff.1 hj).1
            rw [Nat.zero_add, hown.cellAt j (by omega), List.getElem?_map, hj]
            rfl
        have hsz := text_len hst
        have hexp := fun w1 (hf1 : Fr No wr w1) => expr_row G hG hsp ks h9 heq (by omega) st hst (by omega) w1 (hG _ _ hw ((hWf.trans hf).trans hf1))
        go_wp2_with fail
        refine (hexp wr (Fr.refl _ _)).mono ?_
        rintro e w1 ⟨x, na, nlen, nc, rfl, hrd, hIs, hf1⟩
        have hgrp := grp_all hIs h9 (by omega)
        have hf1' := hf.trans hf1
        have hb1 := blk_new w1 (.cells #[.int .i64 x.op, .string x.name, .int .i64 x.n, .slice na nlen nc] 27)
        have hgc := fun w2 (hf2 : Fr No w1 w2) => hgrp w2 _ ca ccap w.heap.size (w.heap.size + 1) (hrd.fr hf2 (fun _ _ q => q)) (hins.fr (hf1.trans hf2)) hccap (hops0.fr (hf1'.trans hf2)) (hrank0.fr (hf1'.trans hf2))
        have Hg := Lib.hid hgc
        clear hgc hgrp hrd
        go_wp2_with fail
        refine (Hg.out _ ((Fr.refl No w1).alloc _)).mono ?_
        rintro e w2 ⟨rfl, hf2⟩
        go_wp2_with fail
        refine (hsane _ (hG _ _ hw ((hWf.trans hf1').trans (((Fr.refl No w1).alloc _).trans hf2)))).mono ?_
        rintro e w3 ⟨rfl, hf3⟩
        go_wp2_with fail
        refine bodyPost_ret (v := .bool true) ?_ rfl ⟨rfl, ((hWf.trans hf1').trans (((Fr.refl No w1).alloc _).trans hf2)).trans hf3⟩
        simp [results, Tryz.results5, go_sem]
end Go.Proofs.YtngkobejdjjeeaaGreatDoor
