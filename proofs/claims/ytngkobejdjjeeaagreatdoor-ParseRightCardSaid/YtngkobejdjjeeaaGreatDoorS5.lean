/- scanner.begin (no here text begins), signs. -/
import Derived.Test.YtngkobejdjjeeaaGreatDoorS4
import Derived.Test.YtngkobejdjjeeaaGreatDoorC5
set_option linter.unusedSimpArgs false
set_option linter.unusedVariables false
namespace Go.Proofs.YtngkobejdjjeeaaGreatDoor
open Go.RowKit

attribute [local go_sem ↓] Go.wp_at_zero Go.wp_at_succ

theorem extract_list (src : ByteArray) (i : Nat) : (src.extract i src.size).data.toList = src.data.toList.drop i := by
  rw [ByteArray.data_extract, Array.toList_extract]
  simp only [List.extract_eq_take_drop]
  exact List.take_of_length_le (by rw [List.length_drop]; exact Nat.le_refl _)

set_option maxRecDepth 100000 in
theorem begin_no (S : Nat) (src : ByteArray) (i : Nat) (sp : Bool) (v : Value) (l : List Tok) (w : World) (h : Sn S src i sp v l w) (hp : Lib.hasPrefix (src.data.toList.drop i) [60, 60, 126] = false) :
    Calls Tryz.prog 51 #[.pointer (some ⟨S, 0, none⟩)] w fun e w' => e = .returned (.bool false) ∧ ∃ m, w' = w.drewN m := by
  have c0 := h.c0
  have c1 := h.c1
  have hs := h.small
  have hi := h.hi
  have hi' : (i : Int) ≤ src.size := by omega
  have hpre := fun w => Tryz.strings_HasPrefix (src.extract i src.size) ⟨#[60, 60, 126]⟩ w
  rw [extract_list, hp] at hpre
  go_enter Tryz.func51, Tryz.ntmps51
  go_wp2_with fail
  go_quiet (fail)
  go_wp2_with fail
  refine (hpre _).mono ?_
  rintro e w1 ⟨rfl, rfl⟩
  go_wp2_with fail
  refine bodyPost_ret (v := .bool false) (by simp [results, Tryz.results51, go_sem]) rfl ⟨rfl, _, rfl⟩

/-- The signs. -/
def signNames : List ByteArray := [⟨#[60, 61, 62]⟩, ⟨#[61, 61, 61]⟩, ⟨#[61, 61]⟩, ⟨#[33, 61]⟩, ⟨#[60, 61]⟩, ⟨#[62, 61]⟩, ⟨#[60, 60]⟩, ⟨#[38, 38]⟩, ⟨#[124, 124]⟩, ⟨#[43, 61]⟩, ⟨#[45, 61]⟩, ⟨#[42, 61]⟩, ⟨#[124, 124, 61]⟩, ⟨#[61, 62]⟩, ⟨#[45, 62]⟩, ⟨#[38, 46]⟩, ⟨#[58, 58]⟩, ⟨#[46, 46]⟩, ⟨#[43]⟩, ⟨#[45]⟩, ⟨#[42]⟩, ⟨#[47]⟩, ⟨#[37]⟩, ⟨#[60]⟩, ⟨#[62]⟩, ⟨#[33]⟩, ⟨#[61]⟩, ⟨#[46]⟩, ⟨#[44]⟩, ⟨#[40]⟩, ⟨#[41]⟩, ⟨#[91]⟩, ⟨#[93]⟩, ⟨#[123]⟩, ⟨#[125]⟩, ⟨#[124]⟩, ⟨#[38]⟩, ⟨#[94]⟩]
def signBytes : ByteArray := ⟨#[60, 61, 62, 32, 61, 61, 61, 32, 61, 61, 32, 33, 61, 32, 60, 61, 32, 62, 61, 32, 60, 60, 32, 38, 38, 32, 124, 124, 32, 43, 61, 32, 45, 61, 32, 42, 61, 32, 124, 124, 61, 32, 61, 62, 32, 45, 62, 32, 38, 46, 32, 58, 58, 32, 46, 46, 32, 43, 32, 45, 32, 42, 32, 47, 32, 37, 32, 60, 32, 62, 32, 33, 32, 61, 32, 46, 32, 44, 32, 40, 32, 41, 32, 91, 32, 93, 32, 123, 32, 125, 32, 124, 32, 38, 32, 94]⟩
theorem signFields : (Lib.fields signBytes.data.toList).map (fun l => (⟨l.toArray⟩ : ByteArray)) = signNames := by decide +kernel
theorem signLen : (Lib.fields signBytes.data.toList).length = 38 := by decide +kernel
theorem signAscii : ∀ b ∈ signBytes.data.toList, b.toNat < 128 := by decide +kernel

/-- The longest of the signs that the text goes on with. -/
def bestStep (r : List UInt8) (best s : ByteArray) : ByteArray := if Lib.hasPrefix r s.data.toList && decide (s.size > best.size) then s else best
def bestOf (r : List UInt8) (n : Nat) : ByteArray := (signNames.take n).foldl (bestStep r) ⟨#[]⟩

theorem best_succ (r : List UInt8) (n : Nat) (s : ByteArray) (h : signNames[n]? = some s) : bestOf r (n + 1) = bestStep r (bestOf r n) s := by
  unfold bestOf
  rw [List.take_add_one, h, List.foldl_append]
  rfl

set_option maxHeartbeats 4000000 in
set_option maxRecDepth 100000 in
theorem signs_any (S : Nat) (src : ByteArray) (i : Nat) (sp : Bool) (v : Value) (l : List Tok) (w : World) (h : Sn S src i sp v l w) (hw : Sp w) (x : ByteArray) (hx : bestOf (src.data.toList.drop i) 38 = x) (hxe : x.toList.isEmpty = false) (hx0 : 0 < x.size) (hxi : i + x.size ≤ src.size) :
    Calls Tryz.prog 53 #[.pointer (some ⟨S, 0, none⟩)] w fun e w' =>
      e = .returned (.tuple #[]) ∧ (∃ v', Sn S src (i + x.size) false v' (l ++ [⟨7, x, sp, 1, none, 0, 0⟩]) w') ∧ Fr (Ge S) w w' := by
  have hF := Tryz.strings_Fields signBytes w (by decide) (fun j b hb => signAscii b (List.mem_of_getElem? hb)) hw
  have e2 : (List.map (fun l => Value.string { data := l.toArray }) (Lib.fields signBytes.data.toList)) = signNames.map Value.string := by
    rw [← signFields, List.map_map]
    rfl
  rw [signLen, e2] at hF
  unfold signBytes at hF
  have c0 := h.c0
  have c1 := h.c1
  have hsm := h.small
  have hi := h.hi
  go_enter Tryz.func53, Tryz.ntmps53
  go_wp2_with fail
  refine hF.mono ?_
  rintro e w1 ⟨rfl, rfl⟩
  go_wp2_with fail
  have hst : ∀ m, Strs ((w.alloc (.cells (List.map Value.string signNames).toArray 9)).drewN m) w.heap.size signNames := fun m => strs_new _ _ (0, 0) _ (blk_new _ _)
  have h1 := h.alloc (.cells (List.map Value.string signNames).toArray 9)
  have hlt1 : w.heap.size < (w.alloc (.cells (List.map Value.string signNames).toArray 9)).heap.size := by simp
  have hfW : Fr (Ge S) w (w.alloc (.cells (List.map Value.string signNames).toArray 9)) := (Fr.refl _ _).alloc _
  generalize w.alloc (.cells (List.map Value.string signNames).toArray 9) = W at *
  have q0 := h1.c0
  have q1 := h1.c1
  have hi' : (i : Int) ≤ src.size := by omega
  go_loopw [2, 7] (fun b ix wr => ∃ (j m : Nat), j ≤ 38 ∧ b = .string (bestOf (src.data.toList.drop i) j) ∧ ix = .int .i64 j ∧ wr = W.drewN m) (fun _ ix _ => 38 - (intOf ix).toNat)
  case atStart => exact ⟨0, 0, by omega, rfl, rfl, rfl⟩
  case round =>
    obtain ⟨j, m, hj, rfl, rfl, rfl⟩ := hrel
    rcases Nat.lt_or_ge j 38 with hlt | hge
    · obtain ⟨z, hz⟩ : ∃ z, signNames[j]? = some z := ⟨_, List.getElem?_eq_getElem (by simpa [signNames] using hlt)⟩
      have hbs := best_succ (src.data.toList.drop i) j z hz
      have hcz := hst m j (by simpa [signNames] using hlt)
      rw [List.getD, hz, Option.getD_some] at hcz
      have h1m := h1.drewN m
      have p0 := h1m.c0
      have p1 := h1m.c1
      have zS := h1m.lt
      have hltm : w.heap.size < (W.drewN m).heap.size := hlt1
      obtain ⟨Wm, hWm⟩ : ∃ Wm, W.drewN m = Wm := ⟨_, rfl⟩
      rw [hWm] at hcz p0 p1 zS hltm ⊢
      have hpre := fun w => Tryz.strings_HasPrefix (src.extract i src.size) z w
      rw [extract_list] at hpre
      generalize bestOf (src.data.toList.drop i) j = B at *
      rcases hp : Lib.hasPrefix (src.data.toList.drop i) z.data.toList
      · rw [hp] at hpre
        have hstep : bestOf (src.data.toList.drop i) (j + 1) = B := by rw [hbs, bestStep, hp]; rfl
        clear hbs hst
        go_wp2_with fail
        go_quiet (exact Calls.quiet_of_same (hpre _))
        go_wp2_with fail
        go_roundw
        case rel => exact ⟨j + 1, m + nq, by omega, by rw [hstep], by go_num, by rw [← hWm, World.drewN_drewN]⟩
        case measure => simp [intOf]; omega
      · rw [hp] at hpre
        by_cases hgt : B.size < z.size
        · have hgt' : (B.size : Int) < z.size := by omega
          have hstep : bestOf (src.data.toList.drop i) (j + 1) = z := by rw [hbs, bestStep, hp]; simp [hgt]
          clear hbs hst
          go_wp2_with fail
          go_quiet (exact Calls.quiet_of_same (hpre _))
          go_wp2_with fail
          go_roundw
          case rel => exact ⟨j + 1, m + nq, by omega, by rw [hstep], by go_num, by rw [← hWm, World.drewN_drewN]⟩
          case measure => simp [intOf]; omega
        · have hgt' : ¬ (B.size : Int) < z.size := by omega
          have hstep : bestOf (src.data.toList.drop i) (j + 1) = B := by rw [hbs, bestStep, hp]; simp [hgt]
          clear hbs hst
          go_wp2_with fail
          go_quiet (exact Calls.quiet_of_same (hpre _))
          go_wp2_with fail
          go_roundw
          case rel => exact ⟨j + 1, m + nq, by omega, by rw [hstep], by go_num, by rw [← hWm, World.drewN_drewN]⟩
          case measure => simp [intOf]; omega
    · have e : j = 38 := by omega
      subst e
      rw [hx]
      have h1m := h1.drewN m
      have p0 := h1m.c0
      have p1 := h1m.c1
      have p2 := h1m.c2
      have f1 := h1m.fz 1
      have zS := h1m.lt
      have h7 := h1m.setInt ((i : Int) + x.size) (i + x.size) (by omega) hxi (by have := h.few; omega)
      have hfr : Fr (Ge S) w ((W.drewN m).setCell ⟨S, 1, none⟩ (.int .i64 ((i : Int) + x.size))) := (hfW.drewN _).at _
      have hf7 : l.length < i + x.size := by
        have := h.few
        omega
      go_wp2_with fail
      refine (add_tok S src (i + x.size) sp v l _ h7 hf7 7 x).mono ?_
      rintro e w10 ⟨rfl, ⟨v', h10⟩, hf10⟩
      go_wp2_with fail
      go_end0
      exact ⟨rfl, ⟨v', h10⟩, hfr.trans hf10⟩
end Go.Proofs.YtngkobejdjjeeaaGreatDoor
