/- Scan, where nothing is malformed: from a contract of next. -/
import Derived.Test.YtngkobejdjjeeaaGreatDoorS6
import Derived.Test.YtngkobejdjjeeaaGreatDoorA12
set_option linter.unusedSimpArgs false
set_option linter.unusedVariables false
namespace Go.Proofs.YtngkobejdjjeeaaGreatDoor
open Go.RowKit

theorem ta69 (w : World) : (Instr.typeAssert .nilIface 20 69 true).run Tryz.prog w = .ok (.tuple #[.agg #[.int .i64 0, .int .i64 0], .bool false]) w := by kernel_rfl

/-- The deferred closure of Scan, where nothing panicked. -/
theorem scan_back (a b c : Addr) (w : World) :
    CallsD Tryz.prog 25 #[.pointer (some a), .pointer (some b), .pointer (some c)] .returning w fun e u' w' =>
      u' = .returning ∧ e = .returned (.tuple #[]) ∧ Fr No w w' := by
  refine callsD_of_wpS Tryz.func25 rfl fun c₀ cs hu => ?_
  apply wpS_seq
  apply wpS_region
  simp [wpOpsS, go_sem, recoverD, hu, Tryz.ntmps25, Exit.thenS, ta69]
  apply wpS_seq
  apply wpS_region
  simp [wpOpsS, go_sem, recoverD, hu, Exit.thenS, Array.replicate]
  refine wpS_cond (t := false) (by simp [Act.eval]) ?_
  simp only [Bool.false_eq_true, if_false]
  refine wpS_of_wp (wp_skip ?_)
  cases c₀
  simp_all [bodyPostS, results, Tryz.results25]
  (repeat (first | with_reducible exact Fr.refl _ _ | with_reducible assumption | with_reducible refine Fr.drewN ?_ _ | with_reducible refine Fr.drew ?_ | with_reducible refine Fr.alloc ?_ _ | with_reducible refine Fr.setNew ?_ (by first | omega | (simp; omega)) _ | with_reducible refine Fr.setOnly ?_ _ | with_reducible refine Fr.trans ?_ (by with_reducible assumption) | with_reducible refine Fr.transNo ?_ (by with_reducible assumption)))

theorem flat_get (F : List Tok) (j k : Nat) (hk : k < 5) : (F.flatMap tokCells)[j * 5 + k]? = F[j]?.bind fun t => (tokCells t)[k]? := by
  induction F generalizing j with
  | nil => simp
  | cons t F ih =>
    rw [List.flatMap_cons]
    have hl : (tokCells t).length = 5 := rfl
    cases j with
    | zero =>
      rw [Nat.zero_mul, Nat.zero_add, List.getElem?_append_left (by omega)]
      rfl
    | succ j =>
      rw [List.getElem?_append_right (by omega), hl, show (j + 1) * 5 + k - 5 = j * 5 + k from by omega, ih]
      rfl

/-- Tokens that are owned lie in a row. -/
theorem toks_of_own {w : World} {base g cap : Nat} {F : List Tok} (h : w.ownsRow base 73 5 (.slice (some ⟨g, 0, none⟩) F.length cap) F.length (F.flatMap tokCells)) : Toks w g F := by
  intro j t hj
  have hlt : j < F.length := (List.getElem?_eq_some_iff.1 hj).1
  have hk : ∀ k, k < 5 → w.cell? ⟨g, j * 5 + k, none⟩ = (tokCells t)[k]? := by
    intro k hk
    rw [h.cellAt (j * 5 + k) (by omega), flat_get F j k hk, hj]
    rfl
  exact ⟨hk 0 (by omega), hk 1 (by omega), hk 2 (by omega), hk 3 (by omega), hk 4 (by omega)⟩

set_option maxHeartbeats 4000000 in
set_option maxRecDepth 100000 in
theorem scan_pass (G : World → Prop) (hG : ∀ w w', G w → Fr No w w' → G w') (src : ByteArray) (F : List Tok) (k0 : Int) (hF : ∃ F' t, F = F' ++ [t] ∧ t.kind = k0) (hk0 : (k0 == 0) = false) (Inv : Nat → Bool → List Tok → Prop) (h0 : Inv 0 false []) (hsz : src.size ≤ 1000)
    (hstep : ∀ S i sp v l w, G w → (∀ w', Fr (Ge S) w w' → G w') → Inv i sp l → i < src.size → Sn S src i sp v l w → Calls Tryz.prog 26 #[.pointer (some ⟨S, 0, none⟩)] w fun e w' =>
      e = .returned (.tuple #[]) ∧ (∃ i' sp' v' l', i < i' ∧ Inv i' sp' l' ∧ Sn S src i' sp' v' l' w') ∧ Fr (Ge S) w w')
    (hend : ∀ sp l, Inv src.size sp l → l = F)
    (w : World) (hw : G w) : Calls Tryz.prog 18 #[.string src] w (ScanPost F w) := by
  have hmf : ∀ (fn : Fn) (first cap : Array Value) (w : World), (Instr.makeFunc fn first cap).run Tryz.prog w = .ok (.func fn first cap) w := fun _ _ _ _ => rfl
  have hsz' : ¬ (src.size : Int) > 20000 := by omega
  go_enter_defers Tryz.func18, Tryz.ntmps18
  go_wp2_with fail
  obtain ⟨S, hS⟩ : ∃ S, S = w.heap.size + 1 + 1 + 1 := ⟨_, rfl⟩
  have bo := blk_alloc (.cells #[.string src, .int .i64 0, .int .i64 1, .slice none 0 0, .int .i64 0, .bool false] 67) (blk_alloc (.cells #[.int .i64 0] 28) (blk_alloc (.cells #[.int .i64 0] 3) (blk_new w (.cells #[.slice none 0 0] 43))))
  have bl := blk_alloc (.cells #[.string src, .int .i64 0, .int .i64 1, .slice none 0 0, .int .i64 0, .bool false] 67) (blk_alloc (.cells #[.int .i64 0] 28) (blk_newAt (w := w.alloc (.cells #[.slice none 0 0] 43)) (k := w.heap.size + 1) (by simp) (.cells #[.int .i64 0] 3)))
  have be := blk_alloc (.cells #[.string src, .int .i64 0, .int .i64 1, .slice none 0 0, .int .i64 0, .bool false] 67) (blk_newAt (w := (w.alloc (.cells #[.slice none 0 0] 43)).alloc (.cells #[.int .i64 0] 3)) (k := w.heap.size + 1 + 1) (by simp) (.cells #[.int .i64 0] 28))
  have bs := blk_newAt (w := ((w.alloc (.cells #[.slice none 0 0] 43)).alloc (.cells #[.int .i64 0] 3)).alloc (.cells #[.int .i64 0] 28)) (k := S) (by simp; omega) (.cells #[.string src, .int .i64 0, .int .i64 1, .slice none 0 0, .int .i64 0, .bool false] 67)
  have hf0 : Fr No w ((((w.alloc (.cells #[.slice none 0 0] 43)).alloc (.cells #[.int .i64 0] 3)).alloc (.cells #[.int .i64 0] 28)).alloc (.cells #[.string src, .int .i64 0, .int .i64 1, .slice none 0 0, .int .i64 0, .bool false] 67)) := ((((Fr.refl No w).alloc _).alloc _).alloc _).alloc _
  generalize (((w.alloc (.cells #[.slice none 0 0] 43)).alloc (.cells #[.int .i64 0] 3)).alloc (.cells #[.int .i64 0] 28)).alloc (.cells #[.string src, .int .i64 0, .int .i64 1, .slice none 0 0, .int .i64 0, .bool false] 67) = W at *
  have hsn : Sn S src 0 false (.slice none 0 0) [] W := ⟨bs, World.ownsRow_nil _ _ _ _, Nat.zero_le _, hsz, Nat.le_refl _⟩
  subst hS
  go_loopg [22] src.size (fun k u22 wr => ∃ i sp v l, k = src.size - i ∧ Inv i sp l ∧ Sn (w.heap.size + 1 + 1 + 1) src i sp v l wr ∧ Fr (Ge (w.heap.size + 1 + 1 + 1)) W wr)
  case atStart => exact ⟨0, false, _, [], rfl, h0, hsn, Fr.refl _ _⟩
  case round =>
    obtain ⟨i, sp, v, l, rfl, hI, hs, hfr⟩ := hrel
    have c0 := hs.c0
    have c1 := hs.c1
    have zS := hs.lt
    have hi := hs.hi
    rcases Nat.lt_or_ge i src.size with hlt | hge
    · have hlt' : (i : Int) < src.size := by omega
      go_wp2_with fail
      go_quiet (fail)
      have hGr : Fr No w wr := hf0.trans' hfr (fun k hk q => by simp only [Ge] at q; omega)
      go_wp2_with fail
      refine (hstep _ i sp v l _ (hG _ _ hw (hGr.drewN _)) (fun w' hf => hG _ _ hw (hf0.trans' ((hfr.drewN _).trans hf) (fun k hk q => by simp only [Ge] at q; omega))) hI hlt (hs.drewN _)).mono ?_
      rintro e w2 ⟨rfl, ⟨i', sp', v', l', hii, hI', hs'⟩, hf2⟩
      go_wp2_with fail
      go_roundg (src.size - i')
      case measure => have := hs'.hi; omega
      case rel => exact ⟨i', sp', v', l', rfl, hI', hs', (hfr.drewN _).trans hf2⟩
    · have e : i = src.size := by omega
      subst e
      have hl := hend _ _ hI
      subst hl
      obtain ⟨F', t, hFt, hkt⟩ := hF
      have hlen : l.length = F'.length + 1 := by rw [hFt]; simp
      obtain ⟨g, cap, rfl, hg, hgl⟩ := hs.own.form (by omega)
      have tk := toks_of_own hs.own
      have hlt' : ¬ (src.size : Int) < src.size := by omega
      go_wp2_with fail
      go_quiet (fail)
      have hck : wr.cell? ⟨g, F'.length * 5, none⟩ = some (.int .i64 k0) := by
        rw [← hkt]
        exact (tk F'.length t (by rw [hFt]; simp)).1
      have c3 := hs.c3
      have htn : ((l.length : Int) - 1).toNat = F'.length := by omega
      have hp : (0 : Int) < l.length := by omega
      have hb1 : (0 : Int) ≤ (l.length : Int) - 1 := by omega
      have hb2 : l.length ≤ 1000 := by have := hs.few; omega
      go_wp2_with fail
      refine wp_loop_rounds 1 ?_
      rw [rounds_succ]
      have o1 := hfr.blk bo (by simp only [Ge]; omega)
      have l1 := hfr.blk bl (by simp only [Ge]; omega)
      have e1 := hfr.blk be (by simp only [Ge]; omega)
      have oc := blk_cell (o := 0) o1 rfl
      have of := blk_free (o := 0) o1
      have oz := blk_lt o1
      have lc := blk_cell (o := 0) l1 rfl
      have lf := blk_free (o := 0) l1
      have lz := blk_lt l1
      have ec := blk_cell (o := 0) e1 rfl
      have ef := blk_free (o := 0) e1
      have ez := blk_lt e1
      have hGr : Fr No w wr := hf0.trans' hfr (fun k hk q => by simp only [Ge] at q; omega)
      go_wp2_with fail
      go_quiet (fail)
      go_wp2_with fail
      generalize hW5 : wr.drewN _ = w5
      have o5 : w5.heap[w.heap.size]? = some (.cells #[.slice none 0 0] 43 (0, 0)) := hW5 ▸ o1
      have l5 : w5.heap[w.heap.size + 1]? = some (.cells #[.int .i64 0] 3 (0, 0)) := hW5 ▸ l1
      have e5 : w5.heap[w.heap.size + 1 + 1]? = some (.cells #[.int .i64 0] 28 (0, 0)) := hW5 ▸ e1
      have hG5 : Fr No w w5 := hW5 ▸ hGr.drewN _
      have tk5 : Toks w5 g l := hW5 ▸ tk
      have hg5 : g < w5.heap.size := hW5 ▸ hgl
      clear hW5
      have hg3 : w.heap.size + 1 + 1 + 1 < g := by omega
      have hB : Fr (Three w.heap.size (w.heap.size + 1) (w.heap.size + 1 + 1)) w5 (((w5.setCell ⟨w.heap.size, 0, none⟩ (.slice (some ⟨g, 0, none⟩) (F'.length + 1) cap)).setCell ⟨w.heap.size + 1, 0, none⟩ (.int .i64 0)).setCell ⟨w.heap.size + 1 + 1, 0, none⟩ (.int .i64 0)) :=
        (((Fr.refl (Three w.heap.size (w.heap.size + 1) (w.heap.size + 1 + 1)) w5).setCell (p := ⟨w.heap.size, 0, none⟩) (Or.inl (Or.inl rfl)) _).setCell (p := ⟨w.heap.size + 1, 0, none⟩) (Or.inl (Or.inr (Or.inl rfl))) _).setCell (p := ⟨w.heap.size + 1 + 1, 0, none⟩) (Or.inl (Or.inr (Or.inr rfl))) _
      have o6 := blk_set_other (c := w.heap.size + 1 + 1) (o := 0) (.int .i64 0) (blk_set_other (c := w.heap.size + 1) (o := 0) (.int .i64 0) (blk_set (o := 0) (.slice (some ⟨g, 0, none⟩) (F'.length + 1) cap) o5) (by omega)) (by omega)
      have l6 := blk_set_other (c := w.heap.size + 1 + 1) (o := 0) (.int .i64 0) (blk_set (o := 0) (.int .i64 0) (blk_set_other (c := w.heap.size) (o := 0) (.slice (some ⟨g, 0, none⟩) (F'.length + 1) cap) l5 (by omega))) (by omega)
      have e6 := blk_set (o := 0) (.int .i64 0) (blk_set_other (c := w.heap.size + 1) (o := 0) (.int .i64 0) (blk_set_other (c := w.heap.size) (o := 0) (.slice (some ⟨g, 0, none⟩) (F'.length + 1) cap) e5 (by omega)) (by omega))
      generalize (((w5.setCell ⟨w.heap.size, 0, none⟩ (.slice (some ⟨g, 0, none⟩) (F'.length + 1) cap)).setCell ⟨w.heap.size + 1, 0, none⟩ (.int .i64 0)).setCell ⟨w.heap.size + 1 + 1, 0, none⟩ (.int .i64 0)) = w6 at *
      refine leaves_cons (f := 25) (args := #[.pointer (some ⟨w.heap.size, 0, none⟩), .pointer (some ⟨w.heap.size + 1, 0, none⟩), .pointer (some ⟨w.heap.size + 1 + 1, 0, none⟩)]) (by simp) (by simp [go_sem]) ?_
      refine (scan_back _ _ _ _).mono ?_
      rintro e u' w7 ⟨rfl, rfl, hf7⟩
      have k0' := blk_cell (o := 0) (hf7.blk o6 (fun q => q)) rfl
      have kl := blk_cell (o := 0) (hf7.blk l6 (fun q => q)) rfl
      have ke := blk_cell (o := 0) (hf7.blk e6 (fun q => q)) rfl
      have hB7 := hB.transNo hf7
      have fin : ScanPost l w (.returned (.tuple #[.slice (some ⟨g, 0, none⟩) (F'.length + 1) cap, .int .i64 0, .int .i64 0])) w7 :=
        ⟨g, cap, by rw [hlen], tk5.fr hB7 hg5 (by simp only [Three]; omega), by omega, Nat.lt_of_lt_of_le hg5 hB7.size, hG5.trans' hB7 (fun k hk q => by simp only [Three] at q; omega)⟩
      simp [Leaves, settle, results, Tryz.results18, go_sem, k0', kl, ke]
      exact fin
end Go.Proofs.YtngkobejdjjeeaaGreatDoor
