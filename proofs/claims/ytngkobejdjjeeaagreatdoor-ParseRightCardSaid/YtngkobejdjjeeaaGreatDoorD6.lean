/- name, where a command of one argument begins. -/
import Derived.Test.YtngkobejdjjeeaaGreatDoorD5
set_option linter.unusedSimpArgs false
set_option linter.unusedVariables false
namespace Go.Proofs.YtngkobejdjjeeaaGreatDoor
open Go.RowKit

/-- What name and primary leave: a call of self of one argument. -/
def NamePost (p T n cap s : Nat) (line : Int) (l : List Tok) (nm : ByteArray) (R : Nod → Prop) (st' : St) (w : World) (e : Ending) (w' : World) : Prop :=
  ∃ (x : Nod) (gg gcap : Nat), e = .returned (.tuple #[.agg #[.int .i64 18, .string nm, .int .i64 0, .slice (some ⟨gg, 0, none⟩) 1 gcap], .bool true]) ∧ 1 ≤ gcap ∧ Kid (Lt w.heap.size) w' [x] (some ⟨gg, 0, none⟩) ∧ R x ∧ Ps p T n cap s line l st' w' ∧ Fr (Only p) w w'

set_option maxHeartbeats 4000000 in
set_option maxRecDepth 100000 in
theorem name_cmd (p T n cap s : Nat) (line : Int) (l : List Tok) (R : Nod → Prop) (st st' : St) (hk : (tokAt l st.i).kind = 1) (hpar : isTok (tokAt l (st.i + 1)) 7 [⟨#[40]⟩] = false) (hk4 : (tokAt l (st.i + 1)).kind = 4) (hsp : (tokAt l (st.i + 1)).space = true)
    (hcm : ∀ w, Ps p T n cap s line l st.next w → Sc s w → Calls Tryz.prog 235 #[.pointer (some ⟨p, 0, none⟩), .bool true] w (ArgsPost p T n cap s line l R st' w))
    (w : World) (h : Ps p T n cap s line l st w) (hsc : Sc s w) :
    Calls Tryz.prog 230 #[.pointer (some ⟨p, 0, none⟩), .bool true] w (NamePost p T n cap s line l (tokAt l st.i).text R st' w) := by
  have hp := h.lt
  have hT := h.hT
  have hwd := fun w h => word_ok p T n cap s line l st 1 w h (by omega) hk
  generalize (tokAt l st.i).text = nm at *
  clear hk
  go_enter Tryz.func230, Tryz.ntmps230
  go_wp2_with fail
  refine (hwd _ (h.alloc _)).mono ?_
  rintro e w1 ⟨rfl, h1, hf1⟩
  have hf01 : Fr (Only p) w w1 := ((Fr.refl (Only p) w).alloc _).trans hf1
  have bR := hf1.blk (blk_new w _) (not_only hp)
  have sc1 := hsc.fr hf01 h.hsp
  have z01 := hf1.size
  simp only [World.size_alloc] at z01
  go_wp2_with fail
  refine (node_any _ _ _ _ _ _).mono ?_
  rintro e w2 ⟨rfl, hf2⟩
  have h2 := h1.frNo hf2
  have sc2 := sc1.fr hf2 (fun q => q)
  have bR2 := hf2.blk bR (fun q => q)
  have z12 := hf2.size
  go_wp2_with fail
  refine (near_no p T n cap s line l st.next ⟨#[40]⟩ _ (h2.alloc _) hpar).mono ?_
  rintro e w3 ⟨rfl, hf3⟩
  have h3 := (h2.alloc _).frNo hf3
  have sc3 := (sc2.fr ((Fr.refl No w2).alloc _) (fun q => q)).fr hf3 (fun q => q)
  have bn := hf3.blk (blk_new w2 _) (fun q => q)
  have c2 := h3.c2
  have z3 := h3.lt
  go_wp2_with fail
  refine (known_no s nm _ sc3).mono ?_
  rintro e w4 ⟨rfl, rfl⟩
  go_wp2_with fail
  refine (starts_num p T n cap s line l st.next _ h3 hk4 hsp).mono ?_
  rintro e w5 ⟨rfl, hf5⟩
  have h5 := h3.frNo hf5
  have sc5 := sc3.fr hf5 (fun q => q)
  have bn5 := hf5.blk bn (fun q => q)
  have bR5 := hf5.blk (hf3.blk (blk_alloc _ bR2) (fun q => q)) (fun q => q)
  have hf25 : Fr No w2 w5 := (((Fr.refl No w2).alloc _).trans hf3).trans hf5
  have z5 := hf25.size
  have hf05 : Fr (Only p) w w5 := (hf01.transNo hf2).transNo hf25
  have hzp : p < w2.heap.size := h2.lt
  go_wp2_with fail
  refine (hcm _ h5 sc5).mono ?_
  rintro e w6 ⟨x, gg, gcap, rfl, g2, g3, hR, h6, hf6⟩
  have bn6 := hf6.blk bn5 (not_only hzp)
  have bR6 := hf6.blk bR5 (not_only hp)
  have q3 := blk_free (o := 3) bn6
  obtain ⟨n0, n1, n2, n3, _, _, _, _, zn⟩ := cells4 bn6
  obtain ⟨m0, m1, m2, m3, r0, r1, r2, r3, zR⟩ := cells4 bR6
  have hNR : w.heap.size < w2.heap.size := by omega
  have hfW : Fr (Two w.heap.size w2.heap.size) w6 (((((w6.setCell ⟨w2.heap.size, 3, none⟩ (.slice (some ⟨gg, 0, none⟩) 1 gcap)).setCell ⟨w.heap.size, 0, none⟩ (.int .i64 18)).setCell ⟨w.heap.size, 1, none⟩ (.string nm)).setCell ⟨w.heap.size, 2, none⟩ (.int .i64 0)).setCell ⟨w.heap.size, 3, none⟩ (.slice (some ⟨gg, 0, none⟩) 1 gcap)) :=
    (((((Fr.refl (Two w.heap.size w2.heap.size) w6).setCell (p := ⟨w2.heap.size, 3, none⟩) (Or.inl (Or.inr rfl)) _).setCell (p := ⟨w.heap.size, 0, none⟩) (Or.inl (Or.inl rfl)) _).setCell (p := ⟨w.heap.size, 1, none⟩) (Or.inl (Or.inl rfl)) _).setCell (p := ⟨w.heap.size, 2, none⟩) (Or.inl (Or.inl rfl)) _).setCell (p := ⟨w.heap.size, 3, none⟩) (Or.inl (Or.inl rfl)) _
  have fin : NamePost p T n cap s line l nm R st' w (.returned (.tuple #[.agg #[.int .i64 18, .string nm, .int .i64 0, .slice (some ⟨gg, 0, none⟩) 1 gcap], .bool true])) (((((w6.setCell ⟨w2.heap.size, 3, none⟩ (.slice (some ⟨gg, 0, none⟩) 1 gcap)).setCell ⟨w.heap.size, 0, none⟩ (.int .i64 18)).setCell ⟨w.heap.size, 1, none⟩ (.string nm)).setCell ⟨w.heap.size, 2, none⟩ (.int .i64 0)).setCell ⟨w.heap.size, 3, none⟩ (.slice (some ⟨gg, 0, none⟩) 1 gcap)) := by
    have zw5 : w2.heap.size < w5.heap.size := blk_lt bn5
    refine ⟨x, gg, gcap, rfl, g2, (g3.fr hfW (fun b _ q => by simp only [Two] at q; simp only [Lt]; omega)).weak (fun b _ q => by simp only [Lt] at q ⊢; omega), hR, h6.fr hfW (by simp only [Two]; omega) (by simp only [Two]; omega), ?_⟩
    exact (hf05.trans hf6).trans' hfW (fun i hi q => by simp only [Two] at q; omega)
  have Hfin := Lib.hid fin
  clear fin g3 hfW
  go_wp2_with fail
  refine bodyPost_ret (v := .tuple #[.agg #[.int .i64 18, .string nm, .int .i64 0, .slice (some ⟨gg, 0, none⟩) 1 gcap], .bool true]) ?_ rfl Hfin.out
  simp [results, Tryz.results230, go_sem, m0, m1, m2, m3, zR]
end Go.Proofs.YtngkobejdjjeeaaGreatDoor
