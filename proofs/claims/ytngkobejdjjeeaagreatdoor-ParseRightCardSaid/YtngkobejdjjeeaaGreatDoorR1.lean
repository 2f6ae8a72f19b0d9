/- ParseRight: for every input the law returns true, and its argument reads as it did; no condition on the input (the listed package-level variables hold what the program's text lays: the card ties that). -/
import Derived.Test.YtngkobejdjjeeaaGreatDoorL4
import Derived.Test.YtngkobejdjjeeaaGreatDoorRows
import Derived.Test.YtngkobejdjjeeaaGreatDoorCards
import Derived.Test.YtngkobejdjjeeaaGreatDoorTie
import Derived.ProofKit
import Derived.OpenShut
import Derived.LaidMore
import Derived.Lay
import Derived.Lib.LaidU8
import Derived.SevenTiedAt
import Derived.Stop.Joined
set_option linter.unusedSimpArgs false
set_option linter.unusedVariables false
namespace Go.Proofs.YtngkobejdjjeeaaGreatDoor
open Go.ChangeShapes Go.WideShapes Go.ChangeAt Go.RowKit

theorem own0 : ownKnob Tryz.prog.godebug = none := by kernel_rfl
theorem cells3 : Tryz.prog.cellsOf 3 = 1 := by kernel_rfl

/-- A row's condition and the world's shape, both handed to the contract. -/
theorem handed_both {H : Type} {enc : TypeId × Value → H} {a : Assume} {C : Checked} {os : Os} {f : FuncId} {fn : Func} {s : ChangeSpec} {conds : List PathCond} {apart fresh handsOn again : Bool} {X : World → Array Value → Prop}
    (hX : ∀ (w w' : World) (args : Array Value), w.heap = w'.heap → X w args → X w' args)
    (own : ownKnob C.prog.godebug = none) (started : os.Started) (noInit : C.prog.inits.idxOf? f = none) (hfn : C.prog.funcs[f]? = some fn)
    (witness : ∃ (w : World) (tape : Tape) (i : Input), w.os = os ∧ (w.forCall tape i).Shaped C.prog ∧ i.vars = [] ∧ Input.okWide C.prog (w.forCall tape i) .any w.heap.size f i ∧
      ((s.pre enc C.prog fn conds apart (w.forCall tape i).memory i.args ∧ X (w.forCall tape i).memory i.args) ∧ sizedMet enc C.prog fn (OpenSpec.ofChange s) apart (w.forCall tape i).memory i.args) ∧ a.holds C.prog (lone (Frame.enter C.prog f i.args .normal) [] (w.forCall tape i)))
    (contract : ∀ (W : World) (base : Nat) (args : Array Value) (ds gs : List (DataW H)) (before : List MemPlace),
      (∀ (j : Nat) t v, fn.params[j]? = some t → args[j]? = some v → Value.okWide C.prog W .any base t v) →
      DataW.Whole enc C.prog fn.params.toList s.vars apart W args.toList ds gs before → X W args → W.ShapedOpen C.prog →
      Calls C.prog f args W fun e W' => ∃ v, e = .returned v ∧ s.post enc C.prog fn apart fresh handsOn again W args v W') :
    ReturnsInHanded a C os f .any (fun w args => (s.pre enc C.prog fn conds apart w args ∧ X w args) ∧ sizedMet enc C.prog fn (OpenSpec.ofChange s) apart w args) (s.post enc C.prog fn apart fresh handsOn again) := by
  refine returnsInHanded_of_calls own started noInit witness fun w tape i _ hsh _ hok hpre _ => ?_
  obtain ⟨_, _, _, fn', hfn', _, _, _, _, hval⟩ := hok
  cases Option.some.inj (hfn'.symm.trans hfn)
  obtain ⟨⟨⟨ds, gs, before, hw, _⟩, hx⟩, _⟩ := hpre
  refine (contract (w.forCall tape i) w.heap.size i.args ds gs before hval (DataW.Whole.of_heap (w' := w.forCall tape i) (by rfl) hw) (hX _ _ _ (by rfl) hx) hsh).mono ?_
  rintro e W' ⟨v, rfl, hp⟩
  exact ChangeSpec.post_blind hp

set_option maxRecDepth 100000 in
/-- The table of blanks, out of the row's condition. -/
theorem sp_of_laid {W : World} (h : laidMetH Tryz.prog Rows.parseRightRow.laid W) : Sp W := by
  rw [MakeChecks.laidMetH_plain _ _ _ (by kernel_rfl)] at h
  obtain ⟨g, t, cs, fuel, p, hg, ht, hv, hd⟩ := Lib.laidMet.reads h (n := "strings.asciiSpace") (d := Rows.laid_strings_asciiSpace) (by simp [Rows.parseRightRow])
  obtain rfl := Option.some.inj ((show Tryz.prog.globalNamed "strings.asciiSpace" = some 0 by kernel_rfl).symm.trans hg)
  obtain rfl := Option.some.inj ((show (Tryz.prog.globals[0]?).map (·.type) = some 148 by kernel_rfl).symm.trans ht)
  rw [show (Rows.laid_strings_asciiSpace : DataW Unit) = Lib.tabData .u8 Lib.asciiSpaceTab by kernel_rfl] at hd
  unfold Sp Lib.TabIs
  rw [hv, ← Lib.cells_of_tab (show Tryz.prog.underlying 148 = some (.array 256 5) by kernel_rfl) Tryz.underlying5 (by kernel_rfl) (by kernel_rfl) hd]

/-- What the walk asks of the world, and keeps. -/
def Gw (w : World) : Prop := Sp w ∧ w.ShapedOpen Tryz.prog
theorem Gw.fr (w w' : World) (h : Gw w) (hf : Fr No w w') : Gw w' := ⟨h.1.fr hf, shaped_fr h.2 hf⟩

theorem kept_of_fr {w w' : World} (hf : Fr No w w') (may : MemPlace → Prop) : w.keptBut w' may := by
  refine ⟨hf.os, hf.output, fun i hi => ?_⟩
  rw [hf.block i hi (fun q => q)]
  cases hx : w.heap[i]? with
  | none => rfl
  | some o => cases o <;> simp

set_option maxRecDepth 100000 in
theorem right_lifted (os : Os) (started : os.Started) (H : Type) (enc : TypeId × Value → H) :
    ReturnsInHanded {} Tryz.pinned.checked os 5 .any (fun w args => (Rows.parseRightSpec.pre enc Tryz.prog Tryz.f5 Rows.parseRightRow.domain false w args ∧ laidMetH Tryz.prog Rows.parseRightRow.laid w) ∧ sizedMet enc Tryz.prog Tryz.f5 (OpenSpec.ofChange Rows.parseRightSpec) false w args)
      (Rows.parseRightSpec.post enc Tryz.prog Tryz.f5 false true false false) := by
  refine handed_both (C := Tryz.pinned.checked) (X := fun w _ => laidMetH Tryz.prog Rows.parseRightRow.laid w) (fun _ _ _ hh h => h.of_heap hh) own0 started (by kernel_rfl) Tryz.func5
    (ChangeSpec.witness_shaped (enc := enc) (C := Tryz.pinned.checked) (os := os) (X := fun w _ => laidMetH Tryz.prog Rows.parseRightRow.laid w) false (World.laidAll Tryz.prog os Rows.parseRightRow.laid) #[.slice none 0 0] 8 (World.laidAll_os _ _ _)
      (World.shaped_of_ZipB (by kernel_rfl) (by kernel_rfl)) (by kernel_rfl) (by kernel_rfl) (by kernel_rfl)
      (by rw [MakeChecks.laidMetH_plain _ _ _ (by kernel_rfl)]; exact laidMet_laidAll _ (by kernel_rfl) (by kernel_rfl))) ?_
  intro W base args ds gs before hval0 hW hL hsh
  have hval : ∀ (j : Nat) t v, Tryz.f5.params[j]? = some t → args[j]? = some v → Value.okWide Tryz.prog W .any base t v := hval0
  have hW' := hW
  have hG : Gw W := ⟨sp_of_laid hL, hsh⟩
  obtain ⟨p, q, hA0, hV, rfl, _, _⟩ := hW
  have hA : DataW.TrodAll enc Tryz.prog W 0 (fun _ => true) true Tryz.f5.params.toList args.toList ds p := hA0
  rw [Tryz.params5] at hA hval
  obtain ⟨v0, d0, rfl, rfl, h0⟩ := trodAll_one hA
  obtain ⟨rfl, rfl⟩ := trodVars_none hV
  obtain ⟨a0, len, cap, rfl⟩ := okWide_slice Tryz.underlying22 (hval 0 22 v0 rfl rfl)
  obtain ⟨fuel, hf⟩ := h0
  clear hA0 hval0
  simp only [List.append_nil] at hW'
  rcases open_ints Tryz.underlying22 Tryz.underlying3 cells3 hf with ⟨hcs, hx⟩ | ⟨a, len', cap', zs, hcs, _, hl, hm, hz, hx, hcell, hwz⟩
  · simp [Value.cells] at hcs
    obtain ⟨rfl, rfl, rfl⟩ := hcs
    simp only [Prod.mk.injEq] at hx
    obtain ⟨rfl, rfl⟩ := hx
    refine (law_walk Gw Gw.fr (fun _ h => h.1) (fun _ h => h.2) none [] 0 (by simp) W hG (.inl rfl)).mono ?_
    rintro e W' ⟨rfl, hfr⟩
    exact ⟨_, rfl, _, _, _, [], [], [], hW', trodAll_mk1 (shut_bool Tryz.underlying4 _), trodAll_mk1 (shut_slice_nil Tryz.underlying22), by simp [DataW.TrodVars, Rows.parseRightSpec], kept_of_fr hfr _, fun h => by cases h⟩
  · simp [Value.cells] at hcs
    obtain ⟨rfl, rfl, rfl⟩ := hcs
    simp only [Prod.mk.injEq] at hx
    obtain ⟨rfl, rfl⟩ := hx
    simp only [if_true] at hz
    have hlt : (zs.take len).length = len := by rw [List.length_take]; omega
    have hin : zs.take len = [] ∨ ∃ b o, (some a : Option Addr) = some ⟨b, o, none⟩ ∧ b < W.heap.size ∧ ∀ (j : Nat) (z : Int), (zs.take len)[j]? = some z → W.cell? ⟨b, o + j, none⟩ = some (.int .i64 z) := by
      by_cases hl0 : len = 0
      · left
        rw [hl0, List.take_zero]
      · right
        obtain ⟨b, off, spot⟩ := a
        have hspot : spot = none := by simpa [Addr.add] using World.cell?_spot (hcell 0 (by omega))
        subst hspot
        have h00 := hcell 0 (by omega)
        rw [add_plain] at h00
        refine ⟨b, off, rfl, ?_, fun j z hj => ?_⟩
        · apply Classical.byContradiction
          intro hge
          simp [World.cell?, Array.getElem?_eq_none (Nat.le_of_not_lt hge)] at h00
        · have hjl : j < len := by
            have := (List.getElem?_eq_some_iff.1 hj).1
            omega
          have := hcell j (by omega)
          rw [add_plain] at this
          rw [this]
          rw [List.getElem?_take_of_lt hjl] at hj
          simp [List.getD, hj]
    have hw0 := law_walk Gw Gw.fr (fun _ h => h.1) (fun _ h => h.2) (some a) (zs.take len) cap (by rw [hlt]; unfold maxLen at hm; omega) W hG hin
    rw [hlt] at hw0
    refine hw0.mono ?_
    rintro e W' ⟨rfl, hfr⟩
    have hcell' : ∀ i, i < zs.length → W'.cell? (a.add i) = some (.int .i64 (zs.getD i 0)) := by
      intro i hi
      have h1 := hcell i hi
      have hb : (a.add i).block < W.heap.size := by
        apply Classical.byContradiction
        intro hge
        simp [World.cell?, Array.getElem?_eq_none (Nat.le_of_not_lt hge)] at h1
      exact (World.cell?_of_block (hfr.block _ hb (fun q => q))).trans h1
    have again : ∀ sp : Nat → Bool, (∀ p ∈ MemPlace.row a zs.length, sp p.block = true) → DataW.TrodAll enc Tryz.prog W' 0 sp true [22] [.slice (some a) len cap] [.slice (lits .i64 (zs.take len)) (lits .i64 (zs.drop len))] (MemPlace.row a zs.length) := by
      intro sp hsp
      by_cases hz0 : zs.length = 0
      · have hc0 : cap = 0 := by omega
        have hl0 : len = 0 := by omega
        subst hc0; subst hl0
        have t0 := shut_ints (enc := enc) (w := W') (base := 0) (spare := sp) (held := true) (a := a) (len := 0) (cap := 0) (zs := zs) 0 Tryz.underlying22 Tryz.underlying3 cells3 (Nat.zero_le _) (Nat.le_refl _) hm (by simp [hz0]) hcell' hwz
        exact trodAll_mk1 ⟨2, by simpa [Value.cells] using t0⟩
      · have hspb : sp a.block = true := hsp (.cell a.block a.off) (MemPlace.mem_row.2 ⟨0, by omega, by simp⟩)
        have t0 := shut_ints (enc := enc) (w := W') (base := 0) (spare := sp) (held := true) (a := a) (len := len) (cap := cap) (zs := zs) 0 Tryz.underlying22 Tryz.underlying3 cells3 (Nat.zero_le _) hl hm (by simp [hspb, hz]) hcell' hwz
        exact trodAll_mk1 ⟨2, by simpa [Value.cells] using t0⟩
    have hpl : ∀ p ∈ MemPlace.row a zs.length, decide (p.block < W.heap.size) = true := by
      intro p hp
      obtain ⟨i, hi, rfl⟩ := MemPlace.mem_row.1 hp
      have h1 := hcell i hi
      simp only [decide_eq_true_eq]
      apply Classical.byContradiction
      intro hge
      have hge' : ¬ (a.add i).block < W.heap.size := by
        unfold Addr.add
        split <;> simpa [MemPlace.block] using hge
      simp [World.cell?, Array.getElem?_eq_none (Nat.le_of_not_lt hge')] at h1
    exact ⟨_, rfl, _, _, _, [], _, [], hW', trodAll_mk1 (shut_bool Tryz.underlying4 _), again _ hpl, by simp [DataW.TrodVars, Rows.parseRightSpec], kept_of_fr hfr _, fun h => by cases h⟩

theorem right_holds : Rows.ParseRightSaid :=
  OpenClaim.holds_of_wide 5 Tryz.f5 rfl rfl rfl rfl rfl rfl rfl ⟨rfl, rfl, rfl, rfl, rfl⟩ rfl rfl rfl rfl rfl (by kernel_rfl) Tryz.func5 (by kernel_rfl)
    (of_decide_eq_true (by kernel_rfl)) (by unfold Func.isWrapper; first | (rw [if_pos (by decide +kernel)]; kernel_rfl) | (rw [if_neg (by decide +kernel)]; exact ⟨rfl, rfl⟩))
    (fun os started H enc _ => right_lifted os started H enc)

theorem right_card_holds : Rows.ParseRightCardSaid :=
  Claim7.holds_tied_plain_at .later [] [.data, .data, .data, .data, .sentinel, .sentinel, .listed, .data, .pinned] true (true, "3cb7ad6795857febce6e2e3c0d11d2b7fe8f68f32a9d1b0ea802ec440b2262e4") true right_holds (fun _ h => by cases h) (by kernel_rfl) (fun _ h => by cases h) parseRight_row_tie rfl ⟨rfl, rfl⟩ (by kernel_rfl) rfl
    (fun f fn hf hfn => by
      obtain rfl : f = 5 := Option.some.inj ((show Tryz.prog.funcNamed "cabochon/cabochonlaw16.ParseRight" = some 5 by kernel_rfl).symm.trans hf) |>.symm
      obtain rfl : fn = Tryz.f5 := (Option.some.inj (Tryz.func5.symm.trans hfn)).symm
      exact ⟨by kernel_rfl, fun j t ht => by
        rw [Tryz.params5] at ht
        have hm : t ∈ [22] := by simpa using Array.mem_of_getElem? ht
        have hall : ([22].all fun u => !Tryz.prog.wantsStandIn u) = true := by kernel_rfl
        exact (show Tryz.prog.wantsStandIn t = false by simpa using List.all_eq_true.1 hall t hm)⟩)
    (by kernel_rfl)
end Go.Proofs.YtngkobejdjjeeaaGreatDoor
