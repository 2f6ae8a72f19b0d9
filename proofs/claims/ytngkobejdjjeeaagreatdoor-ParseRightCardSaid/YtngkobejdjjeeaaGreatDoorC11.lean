/- Every tree of a row of operators is good. -/
import Derived.Test.YtngkobejdjjeeaaGreatDoorC6
import Derived.Test.YtngkobejdjjeeaaGreatDoorC10
import Derived.Test.YtngkobejdjjeeaaGreatDoorP0
set_option linter.unusedSimpArgs false
set_option linter.unusedVariables false
namespace Go.Proofs.YtngkobejdjjeeaaGreatDoor
open Go.RowKit

theorem valid_call (name : ByteArray) (a : Option Addr) (cap : Nat) (w : World) (hc : ∀ w', Fr No w w' → Calls Tryz.prog 104 #[.agg #[.int .i64 17, .string name, .int .i64 0, .slice a 2 cap]] w' fun e w'' => e = .returned (.bool true) ∧ Fr No w' w'') :
    Calls Tryz.prog 61 #[.agg #[.int .i64 17, .string name, .int .i64 0, .slice a 2 cap]] w fun e w' => e = .returned (.bool true) ∧ Fr No w w' := by
  go_enter Tryz.func61, Tryz.ntmps61
  go_wp2_with fail
  refine (hc _ ((Fr.refl _ _).alloc _)).mono ?_
  rintro e w1 ⟨rfl, hf1⟩
  go_wp2_with fail
  go_ret
  exact ⟨rfl, ((Fr.refl _ _).alloc _).trans hf1⟩

/-- A number of the language is good. -/
theorem yes_int (G : World → Prop) (n : Int) (h1 : -1000000000000000 ≤ n) (h2 : n ≤ 1000000000000000) : ExprYes G (.mk 4 ⟨#[]⟩ n []) := by
  intro v w hw hrd
  obtain ⟨a, cap, rfl, _⟩ := hrd.shape
  exact expr148 4 (by simp) _ _ _ _ _ w (fun w' _ => valid_int n h1 h2 a cap w')

theorem use_int (n : Int) : NoUse (.mk 4 ⟨#[]⟩ n []) := usings32 _ (by simp [Nod.op]) (by simp [Nod.kids]) (by simp [Nod.kids])
theorem walked_int (n : Int) : Walked (.mk 4 ⟨#[]⟩ n []) := walk62 _ (by simp [Nod.op]) (by simp [Nod.kids]) (by simp [Nod.kids])

theorem opText_in (k : Nat) (h2 : 2 ≤ k) : Lib.containsS opNames (opText k) = true ∧ ((opText k).toList == [91, 93]) = false ∧ ((opText k).toList == [91, 93, 61]) = false := by
  rcases Nat.lt_or_ge k 9 with h | h
  · have : ∀ k, k < 9 → 2 ≤ k → Lib.containsS opNames (opText k) = true ∧ ((opText k).toList == [91, 93]) = false ∧ ((opText k).toList == [91, 93, 61]) = false := by decide +kernel
    exact this k h h2
  · have e : opText k = ⟨#[47]⟩ := by unfold opText; split <;> first | omega | rfl
    rw [e]
    decide +kernel

theorem isT_yes (G : World → Prop) (hG : ∀ w w', G w → Fr No w w' → G w') (hsp : ∀ w, G w → Sp w) {ks : List Nat} {t : Nod} (h : IsT ks t) : ExprYes G t := by
  induction h with
  | one => exact yes_int G 1 (by decide) (by decide)
  | @op pre post k a b _ _ _ _ iha ihb =>
    intro v w hw hrd
    obtain ⟨ad, cap, rfl, hkid⟩ := hrd.shape
    have hcap := hrd.cap
    simp only [Nod.op, Nod.name, Nod.n, Nod.kids, List.length_cons, List.length_nil, Nat.zero_add, Nat.reduceAdd] at hrd hkid hcap ⊢
    match k with
    | 0 => exact expr148 30 (by simp) _ _ _ _ _ w (fun w' hf => valid_logic G hG 30 (.inr rfl) a b iha ihb ad cap w' (hG _ _ hw hf) (hkid.fr hf (fun _ _ q => q)))
    | 1 => exact expr148 29 (by simp) _ _ _ _ _ w (fun w' hf => valid_logic G hG 29 (.inl rfl) a b iha ihb ad cap w' (hG _ _ hw hf) (hkid.fr hf (fun _ _ q => q)))
    | k + 2 =>
      obtain ⟨o1, o2, o3⟩ := opText_in (k + 2) (by omega)
      exact expr148 17 (by simp) _ _ _ _ _ w (fun w' hf => valid_call _ ad cap w' (fun w'' hf' => call_op G hG hsp a b iha ihb _ o1 o2 o3 ad cap w'' (hG _ _ (hG _ _ hw hf) hf') (hkid.fr (hf.trans hf') (fun _ _ q => q)) hcap))

theorem opOf_ok (k : Nat) : opOf k = 17 ∨ opOf k = 29 ∨ opOf k = 30 := by
  match k with
  | 0 => exact .inr (.inr rfl)
  | 1 => exact .inr (.inl rfl)
  | k + 2 => exact .inl rfl

theorem isT_use {ks : List Nat} {t : Nod} (h : IsT ks t) : NoUse t := by
  induction h with
  | one => exact use_int 1
  | @op pre post k a b _ _ _ _ iha ihb =>
    refine usings32 _ ?_ (by simp [Nod.kids]) (by intro x hx; simp [Nod.kids] at hx; rcases hx with rfl | rfl <;> assumption)
    have := opOf_ok k
    simp only [Nod.op]
    omega

theorem isT_walked {ks : List Nat} {t : Nod} (h : IsT ks t) : Walked t := by
  induction h with
  | one => exact walked_int 1
  | @op pre post k a b _ _ _ _ iha ihb =>
    refine walk62 _ ?_ (by simp [Nod.kids]) (by intro x hx; simp [Nod.kids] at hx; rcases hx with rfl | rfl <;> assumption)
    have := opOf_ok k
    simp only [Nod.op]
    omega

theorem isT_size {ks : List Nat} {t : Nod} (h : IsT ks t) : t.size = 2 * ks.length + 1 ∧ t.depth ≤ ks.length + 1 ∧ t.op ≠ 45 := by
  induction h with
  | one => simp [Nod.size, sizes, Nod.depth, depths, Nod.op]
  | @op pre post k a b _ _ _ _ iha ihb =>
    have := opOf_ok k
    simp only [Nod.size, sizes, Nod.depth, depths, Nod.op, List.length_append, List.length_cons]
    omega

/-- Check of a Seq of the tree of a row of operators. -/
theorem check_isT (G : World → Prop) (hG : ∀ w w', G w → Fr No w w' → G w') (hsp : ∀ w, G w → Sp w) {ks : List Nat} {t : Nod} (h : IsT ks t) (hl : ks.length ≤ 30) (v : Value) (w : World) (hw : G w) (hrd : Rd No w (.mk 26 ⟨#[]⟩ 0 [t]) v) :
    Calls Tryz.prog 21 #[v] w fun e w' => e = .returned (.int .i64 0) ∧ Fr No w w' := by
  obtain ⟨h1, h2, h3⟩ := isT_size h
  exact check21 G hG t (isT_yes G hG hsp h) (isT_use h) (isT_walked h) h3 (by omega) (by omega) v w hw hrd
end Go.Proofs.YtngkobejdjjeeaaGreatDoor
