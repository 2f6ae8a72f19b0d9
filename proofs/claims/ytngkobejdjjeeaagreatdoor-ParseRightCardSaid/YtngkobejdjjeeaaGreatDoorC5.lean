/- scan.Operators, and the methods' names that are operators. -/
import Derived.Test.YtngkobejdjjeeaaGreatDoorC4
set_option linter.unusedSimpArgs false
set_option linter.unusedVariables false
namespace Go.Proofs.YtngkobejdjjeeaaGreatDoor
open Go.RowKit

/-- The table of blanks lies where it is. -/
def Sp (w : World) : Prop := Lib.TabIs Tryz.prog w "strings.asciiSpace" .u8 Lib.asciiSpaceTab

theorem Sp.fr {w w' : World} (h : Sp w) (hf : Fr No w w') : Sp w' := by
  unfold Sp Lib.TabIs World.var? at *
  cases hg : Tryz.prog.globalNamed "strings.asciiSpace" with
  | none => rw [hg] at h; simp at h
  | some g =>
    rw [hg] at h
    simp only [Option.bind_some] at h ⊢
    rcases Nat.lt_or_ge g w.heap.size with hlt | hge
    · rw [hf.block g hlt (fun q => q)]
      exact h
    · rw [Array.getElem?_eq_none hge] at h
      simp at h

/-- The operators that are methods' names. -/
def opNames : List ByteArray := [⟨#[43]⟩, ⟨#[45]⟩, ⟨#[42]⟩, ⟨#[47]⟩, ⟨#[37]⟩, ⟨#[61, 61]⟩, ⟨#[60]⟩, ⟨#[60, 61]⟩, ⟨#[62]⟩, ⟨#[62, 61]⟩, ⟨#[60, 61, 62]⟩, ⟨#[61, 61, 61]⟩, ⟨#[60, 60]⟩, ⟨#[91, 93]⟩, ⟨#[91, 93, 61]⟩, ⟨#[46, 46]⟩]

def opBytes : ByteArray := ⟨#[43, 32, 45, 32, 42, 32, 47, 32, 37, 32, 61, 61, 32, 60, 32, 60, 61, 32, 62, 32, 62, 61, 32, 60, 61, 62, 32, 61, 61, 61, 32, 60, 60, 32, 91, 93, 32, 91, 93, 61, 32, 46, 46]⟩

theorem opFields : (Lib.fields opBytes.data.toList).map (fun l => (⟨l.toArray⟩ : ByteArray)) = opNames := by decide +kernel
theorem opLen : (Lib.fields opBytes.data.toList).length = 16 := by decide +kernel
theorem opAscii : ∀ b ∈ opBytes.data.toList, b.toNat < 128 := by decide +kernel

theorem operators92 (w : World) (hw : Sp w) : Calls Tryz.prog 92 #[] w fun e w' => e = .returned (.slice (some ⟨w.heap.size, 0, none⟩) 16 16) ∧ Strs w' w.heap.size opNames ∧ w.heap.size < w'.heap.size ∧ Fr No w w' := by
  have hF := Tryz.strings_Fields opBytes w (by decide) (fun j b hb => opAscii b (List.mem_of_getElem? hb)) hw
  have e2 : (List.map (fun l => Value.string { data := l.toArray }) (Lib.fields opBytes.data.toList)) = opNames.map Value.string := by
    rw [← opFields, List.map_map]
    rfl
  rw [opLen, e2] at hF
  unfold opBytes at hF
  go_enter Tryz.func92, Tryz.ntmps92
  go_wp2_with fail
  refine hF.mono ?_
  rintro e w1 ⟨rfl, rfl⟩
  go_wp2_with fail
  go_ret
  exact ⟨rfl, strs_new _ _ (0, 0) _ (blk_new _ _), by simp, (Fr.refl _ _).alloc _⟩

/-- Whether a name is an operator. -/
theorem contains_ops (b : Nat) (x : ByteArray) (w : World) (hz : Strs w b opNames) :
    Calls Tryz.prog 124 #[.slice (some ⟨b, 0, none⟩) 16 16, .string x] w fun e w' => e = .returned (.bool (Lib.containsS opNames x)) ∧ w = w' :=
  contains_any b 16 16 opNames x w rfl (by omega) hz

theorem isMethod_op (x : ByteArray) (hx : Lib.containsS opNames x = true) (w : World) (hw : Sp w) :
    Calls Tryz.prog 107 #[.string x] w fun e w' => e = .returned (.bool true) ∧ Fr No w w' := by
  go_enter Tryz.func107, Tryz.ntmps107
  go_wp2_with fail
  refine (operators92 w hw).mono ?_
  rintro e w1 ⟨rfl, hst, hb, hf1⟩
  go_wp2_with fail
  refine (contains_ops _ x w1 hst).mono ?_
  rintro e w2 ⟨rfl, rfl⟩
  rw [hx]
  go_wp2_with fail
  go_ret
  exact ⟨rfl, hf1⟩
end Go.Proofs.YtngkobejdjjeeaaGreatDoor
