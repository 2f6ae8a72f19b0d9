/- The plain side of ParseRight: the order of operators, the tree of a row of them, its tokens. -/
import Derived.Test.YtngkobejdjjeeaaGreatDoorA5
set_option linter.unusedSimpArgs false
set_option linter.unusedVariables false
namespace Go.Proofs.YtngkobejdjjeeaaGreatDoor
open Go.RowKit

/-- The level of the operator k. -/
def rank : Nat → Nat
  | 0 => 0 | 1 => 1 | 2 => 2 | 3 => 3 | 4 => 5 | 5 => 6 | 6 => 6 | 7 => 7 | _ => 7
/-- Its sign. -/
def opText : Nat → ByteArray
  | 0 => ⟨#[124, 124]⟩ | 1 => ⟨#[38, 38]⟩ | 2 => ⟨#[61, 61]⟩ | 3 => ⟨#[60]⟩ | 4 => ⟨#[60, 60]⟩ | 5 => ⟨#[43]⟩ | 6 => ⟨#[45]⟩ | 7 => ⟨#[42]⟩ | _ => ⟨#[47]⟩
/-- The node of an operator: what it is, and its name. -/
def opOf : Nat → Int | 0 => 30 | 1 => 29 | _ => 17
def nameOf : Nat → ByteArray | 0 => ⟨#[]⟩ | 1 => ⟨#[]⟩ | k => opText k

/-- The tree of a row of operators between ones: its top is the last of the loosest. -/
inductive IsT : List Nat → Nod → Prop
  | one : IsT [] (.mk 4 ⟨#[]⟩ 1 [])
  | op {pre post : List Nat} {k : Nat} {a b : Nod} : (∀ x ∈ pre, rank k ≤ rank x) → (∀ x ∈ post, rank k < rank x) → IsT pre a → IsT post b → IsT (pre ++ k :: post) (.mk (opOf k) (nameOf k) 0 [a, b])

/-- Of two == one at least stands behind an || or && that is between them. -/
def EqOk (ks : List Nat) : Prop := ∀ i j, i < j → ks[i]? = some (2 : Nat) → ks[j]? = some (2 : Nat) → ∃ (m x : Nat), i < m ∧ m < j ∧ ks[m]? = some x ∧ rank x < 2

/-- The tokens of a row of operators between ones. -/
structure Chain (l : List Tok) (ks : List Nat) : Prop where
  len : l.length = 2 * ks.length + 1
  num : ∀ j, j ≤ ks.length → IsNum (tokAt l (2 * j)) 1
  sgn : ∀ j k, ks[j]? = some k → (tokAt l (2 * j + 1)).kind = 7 ∧ (tokAt l (2 * j + 1)).text = opText k
  ops : ∀ k, k ∈ ks → k < 9
  eq : EqOk ks

theorem rank_le (k : Nat) : rank k ≤ 7 := by unfold rank; split <;> omega

theorem Chain.over {l : List Tok} {ks : List Nat} (h : Chain l ks) : tokAt l (2 * ks.length + 1) = Tok.over := by
  simp [tokAt, List.getD, List.getElem?_eq_none (Nat.le_of_eq h.len)]

/-- Whether the token behind a number is one of a level's signs. -/
theorem Chain.isLevel {l : List Tok} {ks : List Nat} (h : Chain l ks) {j : Nat} (hj : j ≤ ks.length) {lev : Nat} (hl : lev ≤ 7) :
    isTok (tokAt l (2 * j + 1)) 7 (levelOps lev) = match ks[j]? with | none => false | some k => decide (rank k = lev) := by
  rcases Nat.lt_or_ge j ks.length with hlt | hge
  · have hk := List.getElem?_eq_getElem hlt
    obtain ⟨h1, h2⟩ := h.sgn j _ hk
    have h9 := h.ops _ (List.getElem_mem hlt)
    rw [hk]
    generalize ks[j] = k at *
    simp only [isTok, h1, h2]
    clear hk h1 h2
    have : ∀ k, k < 9 → ∀ lev, lev ≤ 7 → ((7 : Int) == 7 && Lib.containsS (levelOps lev) (opText k)) = decide (rank k = lev) := by decide
    exact this k h9 lev hl
  · have e : j = ks.length := by omega
    subst e
    rw [h.over, List.getElem?_eq_none (Nat.le_refl _)]
    simp [isTok, Tok.over]

theorem Chain.noTail {l : List Tok} {ks : List Nat} (h : Chain l ks) {j : Nat} (hj : j ≤ ks.length) : NoTail (tokAt l (2 * j + 1)) := by
  rcases Nat.lt_or_ge j ks.length with hlt | hge
  · have hk := List.getElem?_eq_getElem hlt
    obtain ⟨h1, h2⟩ := h.sgn j _ hk
    have h9 := h.ops _ (List.getElem_mem hlt)
    generalize ks[j] = k at *
    have : ∀ k, k < 9 → ∀ zs ∈ [[(⟨#[46]⟩ : ByteArray), ⟨#[38, 46]⟩], [⟨#[91]⟩], [⟨#[58, 58]⟩]], Lib.containsS zs (opText k) = false := by decide
    have hh := this k h9
    have ht : ∀ zs, Lib.containsS zs (opText k) = false → isTok (tokAt l (2 * j + 1)) 7 zs = false := fun zs hz => by simp [isTok, h2, hz]
    exact ⟨ht _ (hh _ (by simp)), ht _ (hh _ (by simp)), ht _ (hh _ (by simp))⟩
  · have e : j = ks.length := by omega
    subst e
    rw [h.over]
    exact ⟨by simp [isTok, Tok.over], by simp [isTok, Tok.over], by simp [isTok, Tok.over]⟩

/-- Behind the first one of the text: each operator between blanks, and a one. -/
def tailOf : List Nat → List UInt8
  | [] => []
  | k :: ks => 32 :: ((opText k).data.toList ++ 32 :: 49 :: tailOf ks)

def numTok (sp : Bool) : Tok := ⟨4, ⟨#[49]⟩, sp, 1, none, 0, 0⟩
def sgnTok (k : Nat) : Tok := ⟨7, opText k, true, 1, none, 0, 0⟩
def flatToks : List Nat → List Tok
  | [] => []
  | k :: ks => sgnTok k :: numTok true :: flatToks ks
def toksOf (ks : List Nat) : List Tok := numTok false :: flatToks ks

theorem flat_len (ks : List Nat) : (flatToks ks).length = 2 * ks.length := by
  induction ks with
  | nil => rfl
  | cons k ks ih => simp only [flatToks, List.length_cons, ih]; omega

theorem flat_even (ks : List Nat) (j : Nat) : (flatToks ks)[2 * j]? = ks[j]?.map sgnTok := by
  induction ks generalizing j with
  | nil => simp [flatToks]
  | cons k ks ih =>
    cases j with
    | zero => simp [flatToks]
    | succ j =>
      rw [show 2 * (j + 1) = 2 * j + 1 + 1 from by omega]
      simp only [flatToks, List.getElem?_cons_succ]
      exact ih j

theorem flat_odd (ks : List Nat) (j : Nat) : (flatToks ks)[2 * j + 1]? = ks[j]?.map (fun _ => numTok true) := by
  induction ks generalizing j with
  | nil => simp [flatToks]
  | cons k ks ih =>
    cases j with
    | zero => simp [flatToks]
    | succ j =>
      rw [show 2 * (j + 1) + 1 = 2 * j + 1 + 1 + 1 from by omega]
      simp only [flatToks, List.getElem?_cons_succ]
      exact ih j

theorem numTok_num (sp : Bool) : IsNum (numTok sp) 1 := ⟨rfl, (by decide : (⟨#[49]⟩ : ByteArray).size ≤ 18), (by decide : Lib.atoi [49] = some 1), by decide⟩

/-- The tokens of the text are a chain. -/
theorem toks_chain (ks : List Nat) (h9 : ∀ k ∈ ks, k < 9) (he : EqOk ks) : Chain (toksOf ks) ks where
  len := by simp only [toksOf, List.length_cons, flat_len]
  num := by
    intro j hj
    cases j with
    | zero => exact numTok_num false
    | succ j =>
      have h := flat_odd ks j
      rw [List.getElem?_eq_getElem (show j < ks.length from hj)] at h
      have e : tokAt (toksOf ks) (2 * (j + 1)) = numTok true := by
        rw [show 2 * (j + 1) = 2 * j + 1 + 1 from by omega]
        simp only [tokAt, toksOf, List.getD, List.getElem?_cons_succ, h]
        rfl
      rw [e]
      exact numTok_num true
  sgn := by
    intro j k hk
    have h := flat_even ks j
    rw [hk] at h
    have e : tokAt (toksOf ks) (2 * j + 1) = sgnTok k := by
      simp only [tokAt, toksOf, List.getD, List.getElem?_cons_succ, h]
      rfl
    rw [e]
    exact ⟨rfl, rfl⟩
  ops := h9
  eq := he

/-- What is left of the text at some place of the scan, whether a blank stands ahead, and the tokens that are already there; F: all of them. -/
inductive Ph (F : List Tok) : List UInt8 → Bool → List Tok → Prop
  | num {post : List Nat} {sp : Bool} {l : List Tok} : (∀ x ∈ post, x < 9) → l ++ numTok sp :: flatToks post = F → Ph F (49 :: tailOf post) sp l
  | gap {post : List Nat} {l : List Tok} : (∀ x ∈ post, x < 9) → l ++ flatToks post = F → Ph F (tailOf post) false l
  | sgn {k : Nat} {post : List Nat} {l : List Tok} : k < 9 → (∀ x ∈ post, x < 9) → l ++ sgnTok k :: numTok true :: flatToks post = F → Ph F ((opText k).data.toList ++ 32 :: 49 :: tailOf post) true l
  | gap2 {post : List Nat} {l : List Tok} : (∀ x ∈ post, x < 9) → l ++ numTok true :: flatToks post = F → Ph F (32 :: 49 :: tailOf post) false l

theorem tail_blank (ks : List Nat) : tailOf ks = [] ∨ ∃ r, tailOf ks = 32 :: r := by
  cases ks with
  | nil => exact .inl rfl
  | cons k ks => exact .inr ⟨_, rfl⟩

/-- At the end all tokens are there. -/
theorem Ph.over {F l : List Tok} {sp : Bool} (h : Ph F [] sp l) : l = F := by
  generalize hr : ([] : List UInt8) = r at h
  cases h with
  | num => cases hr
  | @gap post l h9 hF =>
    cases post with
    | nil => simpa [flatToks] using hF
    | cons => cases hr
  | sgn => simp at hr
  | gap2 => cases hr
end Go.Proofs.YtngkobejdjjeeaaGreatDoor
