/- stmts of one statement, with its deferred closure. -/
import Derived.Test.YtngkobejdjjeeaaGreatDoorA9
import Derived.Defers
import Derived.Deep.RegionHeld3
import Derived.Deep.AppendLies
import Derived.Deep.DrawnRows
set_option linter.unusedSimpArgs false
set_option linter.unusedVariables false
namespace Go.Proofs.YtngkobejdjjeeaaGreatDoor
open Go.RowKit

attribute [local go_sem ↓] Go.wp_at_zero Go.wp_at_succ

theorem info27 : (Tryz.prog.info? 27).map (fun i => (i.zero, i.size, i.bytes)) = some (some (.agg #[.int .i64 0, .string ⟨#[]⟩, .int .i64 0, .slice none 0 0]), 4, 56) := by kernel_rfl

/-- Behind an append to a nil slice, or a make, nothing old has turned. -/
theorem Fr.ofGrown {S : Nat → Prop} {w w' : World} (h : w.grownBy w' none) : Fr S w w' := ⟨h.os, h.tape, h.output, h.size, fun k hk _ => h.block k hk (fun e => by cases e)⟩

/-- The deferred closure of stmts gives noDo back. -/
theorem stmts_back (p T n cap s : Nat) (line : Int) (l : List Tok) (st : St) (q b : Nat) (x : Bool) (w : World) (h : Ps p T n cap s line l st w)
    (hq : w.cell? ⟨q, 0, none⟩ = some (.bool x)) (hb : w.cell? ⟨b, 0, none⟩ = some (.pointer (some ⟨p, 0, none⟩))) :
    CallsD Tryz.prog 54 #[.pointer (some ⟨q, 0, none⟩), .pointer (some ⟨b, 0, none⟩)] .returning w fun e u' w' =>
      u' = .returning ∧ e = .returned (.tuple #[]) ∧ w' = w.setCell ⟨p, 4, none⟩ (.bool x) := by
  have c4 := h.c4
  have f4 := h.fz 4
  go_enter_d Tryz.func54, Tryz.ntmps54
  go_wp2
  go_end0
  exact ⟨rfl, rfl⟩

set_option maxHeartbeats 2000000 in
/-- Three blocks. -/
def Three (a b c : Nat) : Nat → Prop := fun k => k = a ∨ k = b ∨ k = c

/-- What stmts hands back reads as a Seq of the one statement. -/
theorem stmts_fin {p T n cap s : Nat} {line : Int} {l : List Tok} {R : Nod → Prop} {st' : St} {w W w4 w5 w9 : World} {O r gg gcap : Nat} {x : Nod} {a : Option Addr} {len c : Nat} {nd : Bool}
    (hp : p < w.heap.size) (hW : Fr (Only p) w W) (hr : w.heap.size ≤ r) (hrW : r < W.heap.size) (hO : w.heap.size ≤ O) (hOW : O < W.heap.size)
    (hrd : Rd (Lt W.heap.size) w4 x (.agg #[.int .i64 x.op, .string x.name, .int .i64 x.n, .slice a len c])) (hR : R x) (hf4 : Fr (Only p) W w4) (hf5 : Fr No w4 w5)
    (hg : w4.heap.size ≤ gg) (hgs : gg < w5.heap.size)
    (hown : w5.ownsRow 0 27 4 (.slice (some ⟨gg, 0, none⟩) 1 gcap) 1 [.int .i64 x.op, .string x.name, .int .i64 x.n, .slice a len c])
    (hf9 : Fr (Three O r p) w5 w9) (h9 : Ps p T n cap s line l { st' with noDo := nd } w9) :
    NodePost p T n cap s line l (fun y => ∃ x, y = .mk 26 ⟨#[]⟩ 0 [x] ∧ R x) { st' with noDo := nd } w (.returned (.agg #[.int .i64 26, .string ⟨#[]⟩, .int .i64 0, .slice (some ⟨gg, 0, none⟩) 1 gcap])) w9 := by
  have z1 := hW.size
  have z2 := hf4.size
  have z3 := hf5.size
  have z4 := hf9.size
  have hg3 : ¬ Three O r p gg := by simp only [Three]; omega
  have e := fun j (hj : j < 1 * 4) => hown.cellAt j hj
  have hx9 : Rd (Lt W.heap.size) w9 x (.agg #[.int .i64 x.op, .string x.name, .int .i64 x.n, .slice a len c]) :=
    (hrd.fr hf5 (fun _ _ q => q.elim)).fr hf9 (fun b _ q => by simp only [Three] at q; simp only [Lt]; omega)
  refine ⟨.mk 26 ⟨#[]⟩ 0 [x], some ⟨gg, 0, none⟩, 1, gcap, rfl, Rd.mk ?_ rfl (by rcases hown.2 with ⟨h, _⟩ | ⟨g', cap', cur, h, _, _, hc, _⟩ <;> cases h <;> exact hc), ⟨x, rfl, hR⟩, h9, ?_⟩
  · refine Kid.cons (by simp only [Lt]; omega) (by omega) ?_ ?_ ?_ ?_ (Rd.weak (fun b _ q => by simp only [Lt] at *; omega) _ _ hx9) Kid.nil
    · rw [hf9.cell hgs hg3, e 0 (by omega)]; rfl
    · rw [hf9.cell hgs hg3, e 1 (by omega)]; rfl
    · rw [hf9.cell hgs hg3, e 2 (by omega)]; rfl
    · rw [hf9.cell hgs hg3, e 3 (by omega)]; rfl
  · exact ((hW.trans hf4).transNo hf5).trans' hf9 (fun i hi q => by simp only [Three] at q; simp only [Only]; omega)

set_option maxHeartbeats 4000000 in
set_option maxRecDepth 100000 in
theorem stmts_one (p T n cap s : Nat) (line : Int) (l : List Tok) (R : Nod → Prop) (st st' : St) (hk0 : ((tokAt l st.i).kind == 0) = false) (hk1 : ((tokAt l st.i).kind == -1) = false)
    (hk8 : (tokAt l st.i).kind ≠ 8) (hs7 : isTok (tokAt l st.i) 7 closeSigns = false) (hk' : (tokAt l st'.i).kind = -1)
    (hst : ∀ w, Ps p T n cap s line l { st with noDo := false } w → Sc s w → Calls Tryz.prog 58 #[.pointer (some ⟨p, 0, none⟩)] w (NodePost p T n cap s line l R st' w))
    (w : World) (h : Ps p T n cap s line l st w) (hsc : Sc s w) :
    Calls Tryz.prog 27 #[.pointer (some ⟨p, 0, none⟩)] w (NodePost p T n cap s line l (fun y => ∃ x, y = .mk 26 ⟨#[]⟩ 0 [x] ∧ R x) { st' with noDo := st.noDo } w) := by
  have hmf : ∀ (fn : Fn) (first cap : Array Value) (w : World), (Instr.makeFunc fn first cap).run Tryz.prog w = .ok (.func fn first cap) w := fun _ _ _ _ => rfl
  have hp := h.lt
  have hT := h.hT
  have c4 := h.c4
  have f4 := h.fz 4
  have hp1 : p < w.heap.size + 1 := by omega
  have hp2 : p < w.heap.size + 1 + 1 := by omega
  go_enter_defers Tryz.func27, Tryz.ntmps27
  go_wp2_with fail
  refine (node_any _ _ _ _ _ _).mono ?_
  rintro e w1 ⟨rfl, hf1⟩
  have h1 : Ps p T n cap s line l { st with noDo := false } w1 := ((((h.set (st' := { st with noDo := false }) h.hi rfl).alloc _).alloc _).alloc _).frNo hf1
  have hfw1 : Fr (Only p) w w1 := (((((Fr.refl (Only p) w).setOnly _).alloc _).alloc _).alloc _).transNo hf1
  have sc1 : Sc s w1 := hsc.fr hfw1 h.hsp
  have bx1 := hf1.blk (blk_alloc _ (blk_alloc _ (blk_newAt (w := w.setCell ⟨p, 4, none⟩ (.bool false)) (k := w.heap.size) (by simp [World.setCell]) _))) (fun q => q)
  have rs1 := hf1.blk (blk_alloc _ (blk_newAt (w := (w.setCell ⟨p, 4, none⟩ (.bool false)).alloc (.cells #[.pointer (some ⟨p, 0, none⟩)] 46)) (k := w.heap.size + 1) (by simp [World.setCell]) _)) (fun q => q)
  have nd1 := hf1.blk (blk_newAt (w := ((w.setCell ⟨p, 4, none⟩ (.bool false)).alloc (.cells #[.pointer (some ⟨p, 0, none⟩)] 46)).alloc (.cells #[.int .i64 0, .string ⟨#[]⟩, .int .i64 0, .slice none 0 0] 27)) (k := w.heap.size + 1 + 1) (by simp [World.setCell]) _) (fun q => q)
  have hz1 := blk_lt nd1
  have hz0 : w.heap.size < w1.heap.size := by omega
  have x1 := cell_of_one bx1
  clear hp1 hp2 c4 f4
  go_wp2_with fail
  refine (ends_no p T n cap s line l _ _ (h1.alloc _) hk0).mono ?_
  rintro e w2 ⟨rfl, hf2⟩
  have h2 := (h1.alloc _).frNo hf2
  have x2 := cell_of_one (hf2.blk (blk_alloc _ bx1) (fun q => q))
  go_wp2_with fail
  refine wp_loop_rounds 1 ?_
  rw [rounds_succ]
  go_wp2_with fail
  refine (closes_no p T n cap s line l _ _ h2 hk1 (isTok_kind hk8 _) hs7).mono ?_
  rintro e w3 ⟨rfl, hf3⟩
  have h3 := h2.frNo hf3
  have hf13 : Fr No (w1.alloc _) w3 := hf2.trans hf3
  have bx3 := hf13.blk (blk_alloc _ bx1) (fun q => q)
  have x3 := cell_of_one bx3
  have ou3 := hf13.blk (blk_new w1 _) (fun q => q)
  obtain ⟨g0, g1, g2, g3, r0, r1, r2, r3, hz3⟩ := cells4 ou3
  have sc3 : Sc s w3 := sc1.fr (((Fr.refl No w1).alloc _).trans hf13) (fun q => q)
  obtain ⟨i0, hi0, hz0', hz1', hz2'⟩ := info_parts info27
  have hO0 : w.heap.size < w1.heap.size := hz0
  go_wp2_with fail
  refine wp_region_noPanic ?_
  go_region_law
    (first
      | (go_simp; go_at_call 58; refine (hst _ (by first | exact h3 | exact h3.drew | exact h3.drewN _) (by exact sc3)).mono ?_; rintro e w4 ⟨x, a, len, c, rfl, hrd, hR, h4, hf4⟩; have bx4 := hf4.blk bx3 (not_only hp); have ou4 := hf4.blk ou3 (not_only (by omega)); have y4 := cell_of_one bx4; obtain ⟨m0, m1, m2, m3, v0, v1, v2, v3, hz4⟩ := cells4 ou4)
      | (refine step_append_lies _ (by rfl) _ _ _ (by rfl) 0 27 i0 _ 4 56 Tryz.underlying25 hi0 hz0' hz1' hz2' rfl (by omega) (.slice none 0 0) 0 [] (by rfl) (World.ownsRow_nil _ _ _ _) ⟨_, 0, none⟩ 1 1 _ (by rfl) (by rfl) (World.news_of_block (t := 27) (fr := (0, 0)) (heap_alloc_new _ _)) (by simp [Value.oneCell']) (by omega) (by unfold maxLen; omega) (by omega) (by omega) _ rfl ?_; intro gg gcap w5 hown5 hgrow5 hat5 hlt5; have hf5 := Fr.ofGrown (S := No) hgrow5; have bx5 := hf5.blk (blk_alloc _ bx4) (fun q => q); have ou5 := hf5.blk (blk_alloc _ ou4) (fun q => q); have y5 := cell_of_one bx5; obtain ⟨n0, n1, n2, n3, u0, u1, u2, u3, hz5⟩ := cells4 ou5))
  all_goals
    refine NoPanic.normal ?_
    have h5 := (h4.alloc _).frNo hf5
    have hO5 : w1.heap.size ≠ p := by omega
    have hOT : w1.heap.size ≠ T := by omega
    have hbO : w.heap.size ≠ w1.heap.size := by omega
    have h6 := h5.put (b := w1.heap.size) (o := 3) (by omega) (by omega) (.slice (some ⟨gg, 0, none⟩) 1 gcap)
    have ou6 := blk_set (o := 3) (.slice (some ⟨gg, 0, none⟩) 1 gcap) ou5
    have rs5 := hf5.blk (blk_alloc _ (hf4.blk (hf13.blk (blk_alloc _ rs1) (fun q => q)) (not_only (by omega)))) (fun q => q)
    have nd5 := hf5.blk (blk_alloc _ (hf4.blk (hf13.blk (blk_alloc _ nd1) (fun q => q)) (not_only (by omega)))) (fun q => q)
    have rs6 := blk_set_other (c := w1.heap.size) (o := 3) (.slice (some ⟨gg, 0, none⟩) 1 gcap) rs5 (by omega)
    have nd6 := blk_set_other (c := w1.heap.size) (o := 3) (.slice (some ⟨gg, 0, none⟩) 1 gcap) nd5 (by omega)
    have bx6 := blk_set_other (c := w1.heap.size) (o := 3) (.slice (some ⟨gg, 0, none⟩) 1 gcap) bx5 (by omega)
    have hk2 : ((tokAt l st'.i).kind != 0) = true := by rw [hk']; rfl
    go_wp2_with fail
    refine (tok0 p T n cap s line l st' _ h6).mono ?_
    rintro e w7 ⟨rfl, hf7⟩
    unfold Tok.val
    have h7 := h6.frNo hf7
    have ou7 := hf7.blk ou6 (fun q => q)
    have rs7 := hf7.blk rs6 (fun q => q)
    have nd7 := hf7.blk nd6 (fun q => q)
    have bx7 := hf7.blk bx6 (fun q => q)
    obtain ⟨a0, a1, a2, a3, b0, b1, b2, b3, hz7⟩ := cells4 ou7
    obtain ⟨d0, d1, d2, d3, e0, e1, e2, e3, hz8⟩ := cells4 rs7
    have hf4' : Fr (Only p) w3 w4 := ⟨hf4.os, hf4.tape, hf4.output, hf4.size, hf4.block⟩
    have fin := fun w9 (hf9 : Fr (Three w1.heap.size (w.heap.size + 1) p) w5 w9) (h9 : Ps p T n cap s line l { st' with noDo := st.noDo } w9) => stmts_fin (r := w.heap.size + 1) (gg := gg) (gcap := gcap) hp (hfw1.transNo (((Fr.refl No w1).alloc _).trans hf13)) (by omega) (by have := hf13.size; simp at this; omega) (by omega) (by have := hf13.size; simp at this; omega) hrd hR hf4' (((Fr.refl No w4).alloc _).trans hf5) (by rcases hat5 with q | q <;> simp [Value.ownBlock] at q; omega) hlt5 (by simpa using hown5) hf9 h9
    have Hfin := Lib.hid fin
    have hfO : Fr (Only w1.heap.size) w5 w7 := ((Fr.refl (Only w1.heap.size) w5).setOnly _).transNo hf7
    clear fin hrd hR hown5 hgrow5
    go_wp2_with fail
    have hfs := Fr.set4 (Fr.refl (Only (w.heap.size + 1)) w7) (.int .i64 26) (.string ⟨#[]⟩) (.int .i64 0) (.slice (some ⟨gg, 0, none⟩) 1 gcap)
    have rs8 := blk_set (o := 3) (.slice (some ⟨gg, 0, none⟩) 1 gcap) (blk_set (o := 2) (.int .i64 0) (blk_set (o := 1) (.string ⟨#[]⟩) (blk_set (o := 0) (.int .i64 26) rs7)))
    generalize ((((w7.setCell ⟨w.heap.size + 1, 0, none⟩ (.int .i64 26)).setCell ⟨w.heap.size + 1, 1, none⟩ (.string ⟨#[]⟩)).setCell ⟨w.heap.size + 1, 2, none⟩ (.int .i64 0)).setCell ⟨w.heap.size + 1, 3, none⟩ (.slice (some ⟨gg, 0, none⟩) 1 gcap)) = w8 at *
    have h8 := h7.fr hfs (by simp only [Only]; omega) (by simp only [Only]; omega)
    have nd8 := hfs.blk nd7 (by simp only [Only]; omega)
    have bx8 := hfs.blk bx7 (by simp only [Only]; omega)
    refine leaves_cons (f := 54) (args := #[.pointer (some ⟨w.heap.size + 1 + 1, 0, none⟩), .pointer (some ⟨w.heap.size, 0, none⟩)]) (by simp) (by simp [go_sem]) ?_
    refine (stmts_back p T n cap s line l st' _ _ st.noDo _ h8 (cell_of_one nd8) (cell_of_one bx8)).mono ?_
    rintro e u' w'' ⟨rfl, rfl, rfl⟩
    have rs9 := blk_set_other (c := p) (o := 4) (.bool st.noDo) rs8 (by omega)
    have k0 := blk_cell (o := 0) rs9 rfl
    have k1 := blk_cell (o := 1) rs9 rfl
    have k2 := blk_cell (o := 2) rs9 rfl
    have k3 := blk_cell (o := 3) rs9 rfl
    have hA : Fr (Three w1.heap.size (w.heap.size + 1) p) w5 w7 := hfO.mono (fun _ _ q => Or.inl q)
    have hB : Fr (Three w1.heap.size (w.heap.size + 1) p) w5 w8 := hA.trans' hfs (fun _ _ q => Or.inr (Or.inl q))
    have hf9 : Fr (Three w1.heap.size (w.heap.size + 1) p) w5 (w8.setCell ⟨p, 4, none⟩ (.bool st.noDo)) := hB.setCell (p := ⟨p, 4, none⟩) (Or.inl (show Three w1.heap.size (w.heap.size + 1) p p from Or.inr (Or.inr rfl))) _
    have fin := Hfin.out _ hf9 (h8.set (st' := { st' with noDo := st.noDo }) h8.hi rfl)
    simp [Leaves, settle, results, Tryz.results27, go_sem, k0, k1, k2, k3]
    exact fin
end Go.Proofs.YtngkobejdjjeeaaGreatDoor
