/- primary, postfix and unary, where a command begins. -/
import Derived.Test.YtngkobejdjjeeaaGreatDoorD6
set_option linter.unusedSimpArgs false
set_option linter.unusedVariables false
namespace Go.Proofs.YtngkobejdjjeeaaGreatDoor
open Go.RowKit

/-- The end of a function that hands on such a call: its result's block takes it. -/
theorem name_end {p T n cap s : Nat} {line : Int} {l : List Tok} {nm : ByteArray} {R : Nod → Prop} {st' : St} {w w0 w1 W : World} {x : Nod} {gg gcap : Nat} (hp : p < w.heap.size) (hT : T < w.heap.size)
    (h0 : Fr (Only p) w w0) (hz0 : w.heap.size < w0.heap.size) (g2 : 1 ≤ gcap) (g3 : Kid (Lt w0.heap.size) w1 [x] (some ⟨gg, 0, none⟩)) (hR : R x) (h1 : Ps p T n cap s line l st' w1) (hf1 : Fr (Only p) w0 w1)
    (hfW : Fr (Only w.heap.size) w1 W) :
    NamePost p T n cap s line l nm R st' w (.returned (.tuple #[.agg #[.int .i64 18, .string nm, .int .i64 0, .slice (some ⟨gg, 0, none⟩) 1 gcap], .bool true])) W := by
  refine ⟨x, gg, gcap, rfl, g2, (g3.fr hfW (fun b _ q => by simp only [Only] at q; simp only [Lt]; omega)).weak (fun b _ q => by simp only [Lt] at q ⊢; omega), hR, h1.fr hfW (by simp only [Only]; omega) (by simp only [Only]; omega), ?_⟩
  exact (h0.trans hf1).trans' hfW (fun i hi q => by simp only [Only] at q; omega)

set_option maxHeartbeats 4000000 in
set_option maxRecDepth 100000 in
theorem primary_cmd (p T n cap s : Nat) (line : Int) (l : List Tok) (nm : ByteArray) (R : Nod → Prop) (st st' : St) (hk : (tokAt l st.i).kind = 1)
    (hnm : ∀ w, Ps p T n cap s line l st w → Sc s w → Calls Tryz.prog 230 #[.pointer (some ⟨p, 0, none⟩), .bool true] w (NamePost p T n cap s line l nm R st' w))
    (w : World) (h : Ps p T n cap s line l st w) (hsc : Sc s w) :
    Calls Tryz.prog 221 #[.pointer (some ⟨p, 0, none⟩), .bool true] w (NamePost p T n cap s line l nm R st' w) := by
  have ht := fun w h => tok0 p T n cap s line l st w h
  generalize tokAt l st.i = t at *
  have hp := h.lt
  have hT := h.hT
  go_enter Tryz.func221, Tryz.ntmps221
  go_wp2_with fail
  refine (ht _ (h.alloc _)).mono ?_
  rintro e w1 ⟨rfl, hf⟩
  unfold Tok.val
  rw [hk]
  have h1 := (h.alloc _).frNo hf
  have hf1 : Fr No w w1 := ((Fr.refl No w).alloc _).trans hf
  have sc1 := hsc.fr hf1 (fun q => q)
  have bR := hf.blk (blk_new w _) (fun q => q)
  have zR := blk_lt bR
  go_wp2_with fail
  refine (hnm _ (h1.alloc _) (sc1.fr ((Fr.refl No w1).alloc _) (fun q => q))).mono ?_
  rintro e w2 ⟨x, gg, gcap, rfl, g2, g3, hR, h2, hf2⟩
  have bR2 := hf2.blk (blk_alloc _ bR) (not_only hp)
  obtain ⟨m0, m1, m2, m3, r0, r1, r2, r3, zR2⟩ := cells4 bR2
  have fin := name_end (nm := nm) hp hT (hf1.ofNo.alloc _) (by simp; omega) g2 g3 hR h2 hf2 (Fr.set4 (Fr.refl (Only w.heap.size) w2) (.int .i64 18) (.string nm) (.int .i64 0) (.slice (some ⟨gg, 0, none⟩) 1 gcap))
  have Hfin := Lib.hid fin
  clear fin g3
  go_wp2_with fail
  refine bodyPost_ret (v := .tuple #[.agg #[.int .i64 18, .string nm, .int .i64 0, .slice (some ⟨gg, 0, none⟩) 1 gcap], .bool true]) ?_ rfl Hfin.out
  simp [results, Tryz.results221, go_sem, m0, m1, m2, m3, zR2]

theorem NodePost.alloc {p T n cap s : Nat} {line : Int} {l : List Tok} {R : Nod → Prop} {st' : St} {w W : World} {e : Ending} (h : NodePost p T n cap s line l R st' w e W) (o : Obj) : NodePost p T n cap s line l R st' w e (W.alloc o) := by
  obtain ⟨x, a, len, c, he, hrd, hR, hps, hf⟩ := h
  exact ⟨x, a, len, c, he, hrd.fr ((Fr.refl No W).alloc o) (fun _ _ q => q.elim), hR, hps.alloc o, hf.alloc o⟩

/-- The node of a call of self. -/
def FcallR (nm : ByteArray) (R : Nod → Prop) (y : Nod) : Prop := ∃ x, y = .mk 18 nm 0 [x] ∧ R x

set_option maxHeartbeats 4000000 in
set_option maxRecDepth 100000 in
theorem postfix_cmd (p T n cap s : Nat) (line : Int) (l : List Tok) (nm : ByteArray) (R : Nod → Prop) (st st' : St) (hfi : st.first = st.i) (hcmd : st'.cmd = true)
    (hpr : ∀ w, Ps p T n cap s line l st w → Sc s w → Calls Tryz.prog 221 #[.pointer (some ⟨p, 0, none⟩), .bool true] w (NamePost p T n cap s line l nm R st' w))
    (w : World) (h : Ps p T n cap s line l st w) (hsc : Sc s w) :
    Calls Tryz.prog 213 #[.pointer (some ⟨p, 0, none⟩)] w (NodePost p T n cap s line l (FcallR nm R) st' w) := by
  have hp := h.lt
  have hT := h.hT
  have c1 := h.c1
  have c5 := h.c5
  rw [hfi] at c5
  go_enter Tryz.func213, Tryz.ntmps213
  go_wp2_with fail
  go_quiet (fail)
  go_wp2_with fail
  refine (hpr _ ((h.alloc _).drewN _) (hsc.fr (((Fr.refl No w).alloc _).drewN _) (fun q => q))).mono ?_
  rintro e w1 ⟨x, gg, gcap, rfl, g2, g3, hR, h1, hf1⟩
  have hf1' : Fr (Only p) (w.alloc (.cells #[.int .i64 0, .string ⟨#[]⟩, .int .i64 0, .slice none 0 0] 27)) w1 := ((Fr.refl _ _).drewN _).trans hf1
  have b1 := hf1'.blk (blk_new w _) (not_only hp)
  have z1 := blk_lt b1
  have hp1 := h1.lt
  have k6 := h1.c6
  rw [hcmd] at k6
  obtain ⟨m0, m1, m2, m3, r0, r1, r2, r3, hz5⟩ := cells4 b1
  go_wp2_with fail
  have fin := node_end (x := .mk 18 nm 0 [x]) (a := some ⟨gg, 0, none⟩) (len := 1) (c := gcap) (R := FcallR nm R) hp hT ((Fr.refl (Only p) w).alloc _) (by simp) (Rd.mk g3 rfl g2) ⟨x, rfl, hR⟩ hf1' (Fr.refl (Only p) w1) h1
  simp only [Nod.op, Nod.name, Nod.n] at fin
  have Hfin := Lib.hid fin
  clear fin g3
  refine wp_loop_rounds 1 ?_
  rw [rounds_succ]
  go_wp2_with fail
  refine bodyPost_ret (v := .agg #[.int .i64 18, .string nm, .int .i64 0, .slice (some ⟨gg, 0, none⟩) 1 gcap]) ?_ rfl (Hfin.out.alloc _)
  simp [results, Tryz.results213, go_sem, m0, m1, m2, m3, hz5]

set_option maxHeartbeats 4000000 in
set_option maxRecDepth 100000 in
theorem unary_pass (p T n cap s : Nat) (line : Int) (l : List Tok) (R : Nod → Prop) (st st' : St) (hk7 : (tokAt l st.i).kind ≠ 7)
    (hpo : ∀ w, Ps p T n cap s line l st w → Sc s w → Calls Tryz.prog 213 #[.pointer (some ⟨p, 0, none⟩)] w (NodePost p T n cap s line l R st' w))
    (w : World) (h : Ps p T n cap s line l st w) (hsc : Sc s w) :
    Calls Tryz.prog 188 #[.pointer (some ⟨p, 0, none⟩)] w (NodePost p T n cap s line l R st' w) := by
  have htk := fun zs => isTok_kind (t := tokAt l st.i) (k := 7) hk7 zs
  have hp := h.lt
  have hT := h.hT
  go_enter Tryz.func188, Tryz.ntmps188
  go_wp2_with fail
  refine (take_no p T n cap s line l st 7 _ _ (h.alloc _) (htk _)).mono ?_
  rintro e w1 ⟨rfl, hf1⟩
  have h1 := (h.alloc _).frNo hf1
  have hf1' : Fr No w w1 := ((Fr.refl No w).alloc _).trans hf1
  go_wp2_with fail
  refine (take_no p T n cap s line l st 7 _ _ h1 (htk _)).mono ?_
  rintro e w2 ⟨rfl, hf2⟩
  have h2 := h1.frNo hf2
  have hf2' := hf1'.trans hf2
  have b2 := (hf1.trans hf2).blk (blk_new w _) (fun q => q)
  go_wp2_with fail
  refine (hpo _ h2 (hsc.fr hf2' (fun q => q))).mono ?_
  rintro e w3 ⟨x, a, len, c, rfl, hrd, hR, h3, hf3⟩
  have b3 := hf3.blk b2 (not_only hp)
  obtain ⟨m0, m1, m2, m3, r0, r1, r2, r3, hz5⟩ := cells4 b3
  have fin := node_end hp hT hf2'.ofNo (blk_lt b2) hrd hR hf3 (Fr.refl _ _) h3
  have Hfin := Lib.hid fin
  clear fin hrd
  go_wp2_with fail
  refine bodyPost_ret (v := .agg #[.int .i64 x.op, .string x.name, .int .i64 x.n, .slice a len c]) ?_ rfl Hfin.out
  simp [results, Tryz.results188, go_sem, m0, m1, m2, m3]
end Go.Proofs.YtngkobejdjjeeaaGreatDoor
