/- The walk of grouped. -/
import Derived.Test.YtngkobejdjjeeaaGreatDoorL2
set_option linter.unusedSimpArgs false
set_option linter.unusedVariables false
namespace Go.Proofs.YtngkobejdjjeeaaGreatDoor
open Go.RowKit

/-- A world behind some calls that turn nothing old. -/
structure Aft (W : World) where
  w : World
  h : Fr No W w
instance (W : World) : Nonempty (Aft W) := ⟨⟨W, Fr.refl _ _⟩⟩

/-- A region that draws its order, whose operations only read and whose callees turn nothing old: walked once. -/
theorem wp_region_aft {P : Program} {id : Nat} {Q : Exit → Act → World → Prop} {a : Act} {w W : World} {l : List Oper} (hf : Fr No W w) (hm : P.follows .mixedOrders = true) (hB : Region.lexB .any l.toArray = true)
    (h : wpQuiet P l.toArray (fun w' => ∃ u : Aft W, w' = u.w) (fun a' => ∀ w', (∃ u : Aft W, w' = u.w) → Q .normal a' w') l a) : (Code.region id l.toArray true).wp P Q a w :=
  wp_region_quiet (C := fun w' => ∃ u : Aft W, w' = u.w) hm hB ⟨⟨_, hf.drew⟩, rfl⟩ (by simpa using h)

theorem wrap_plus1 (P : Nat) (hb : P ≤ 1000) : IntKind.i64.wrap ((P : Int) + 1) = (P : Int) + 1 := by
  first
    | (rw [IntKind.wrap_i64]; omega)
    | exact wrap_small _ (by omega) (by omega)
    | (unfold IntKind.wrap; simp [IntKind.bits, IntKind.signed]; omega)

/-- What grouped says of the tree of a row. -/
def Grp (ks : List Nat) (x : Nod) : Prop := ∀ (w : World) (v : Value) (a : Option Addr) (cap ob rb : Nat), Rd No w x v → InS w a ks → ks.length ≤ cap → OpsAt w ob → RankAt w rb →
  Calls Tryz.prog 13 #[v, .slice a ks.length cap, .slice (some ⟨ob, 0, none⟩) 9 9, .slice (some ⟨rb, 0, none⟩) 9 9] w fun e w' => e = .returned (.bool true) ∧ Fr No w w'

set_option maxRecDepth 100000 in
theorem grp_one : Grp [] (.mk 4 ⟨#[]⟩ 1 []) := by
  intro w v a cap ob rb hrd _ _ _ _
  obtain ⟨ka, kc, rfl, _⟩ := hrd.shape
  simp only [Nod.op, Nod.name, Nod.n, Nod.kids, List.length_nil]
  go_enter Tryz.func13, Tryz.ntmps13
  go_wp2_with fail
  refine bodyPost_ret (v := .bool true) ?_ rfl ⟨rfl, (Fr.refl _ _).alloc _⟩
  simp [results, Tryz.results13, go_sem]

set_option maxHeartbeats 4000000 in
set_option maxRecDepth 100000 in
theorem grp_op (pre post : List Nat) (k : Nat) (x y : Nod) (h1 : ∀ u ∈ pre, rank k ≤ rank u) (h2 : ∀ u ∈ post, rank k < rank u) (h9 : ∀ u ∈ pre ++ k :: post, u < 9) (hlen : (pre ++ k :: post).length ≤ 1000) (hx : Grp pre x) (hy : Grp post y) :
    Grp (pre ++ k :: post) (.mk (opOf k) (nameOf k) 0 [x, y]) := by
  intro w v a cap ob rb hrd hin hcap hops hrank
  obtain ⟨ka, kc, rfl, hkid⟩ := hrd.shape
  simp only [Nod.op, Nod.name, Nod.n, Nod.kids, List.length_cons, List.length_nil, Nat.zero_add, Nat.reduceAdd] at hkid ⊢
  obtain ⟨ks, hks⟩ : ∃ ks, ks = pre ++ k :: post := ⟨_, rfl⟩
  rw [← hks] at hin hcap h9 hlen ⊢
  have h0 : 0 < ks.length := by rw [hks]; simp; omega
  obtain ⟨cb, co, rfl, hcb, hcc⟩ : ∃ b o, a = some ⟨b, o, none⟩ ∧ b < w.heap.size ∧ ∀ (j k : Nat), ks[j]? = some k → w.cell? ⟨b, o + j, none⟩ = some (.int .i64 k) := by
    rcases hin with h | h
    · rw [h] at h0; simp at h0
    · exact h
  have hne : ((ks.length : Int) == 0) = false := by rw [beq_eq_false_iff_ne]; omega
  have hW : Fr No w (w.alloc (.cells #[.int .i64 (opOf k), .string (nameOf k), .int .i64 0, .slice ka 2 kc] 27)) := (Fr.refl No w).alloc _
  have hB := blk_new w (.cells #[.int .i64 (opOf k), .string (nameOf k), .int .i64 0, .slice ka 2 kc] 27)
  go_enter Tryz.func13, Tryz.ntmps13
  have Hks := Lib.hid hks
  clear hks hrd hin
  have hop9 := hops.2
  have hrk9 := hrank.2
  have hoz := hops.1
  have hrz := hrank.1
  go_wp2_with fail
  have hccW : ∀ (j u : Nat), ks[j]? = some u → (w.alloc (.cells #[.int .i64 (opOf k), .string (nameOf k), .int .i64 0, .slice ka 2 kc] 27)).cell? ⟨cb, co + j, none⟩ = some (.int .i64 u) := fun j u hu => (hW.cell hcb (fun q => q)).trans (hcc j u hu)
  have hrkW : ∀ j, j < 9 → (w.alloc (.cells #[.int .i64 (opOf k), .string (nameOf k), .int .i64 0, .slice ka 2 kc] 27)).cell? ⟨rb, j, none⟩ = some (.int .i64 (rank j)) := fun j hj => (hW.cell hrz (fun q => q)).trans (hrk9 j hj)
  have hopW : ∀ j, j < 9 → (w.alloc (.cells #[.int .i64 (opOf k), .string (nameOf k), .int .i64 0, .slice ka 2 kc] 27)).cell? ⟨ob, j, none⟩ = some (.string (opText j)) := fun j hj => (hW.cell hoz (fun q => q)).trans (hop9 j hj)
  have hzW := hW.size
  generalize hWW : w.alloc (.cells #[.int .i64 (opOf k), .string (nameOf k), .int .i64 0, .slice ka 2 kc] 27) = W at *
  have hcbW : cb < W.heap.size := by omega
  have hozW : ob < W.heap.size := by omega
  have hrzW : rb < W.heap.size := by omega
  clear hcc hop9 hrk9
  go_loopw [9, 10] (fun t i wr => ∃ (m tn jn : Nat), t = .int .i64 tn ∧ i = .int .i64 jn ∧ jn ≤ ks.length ∧ AtOk ks jn tn ∧ wr = W.drewN m) (fun _ i _ => ks.length - (intOf i).toNat)
  case atStart => exact ⟨0, 0, 0, rfl, rfl, Nat.zero_le _, .inl ⟨rfl, rfl⟩, rfl⟩
  case round =>
    obtain ⟨m, t, j, rfl, rfl, hj, hat, rfl⟩ := hrel
    rcases Nat.lt_or_ge j ks.length with hlt | hge
    · have ht := hat.lt hj h0
      have ej := List.getElem?_eq_getElem hlt
      have et := List.getElem?_eq_getElem ht
      have u9 := h9 _ (List.getElem_mem hlt)
      have z9 := h9 _ (List.getElem_mem ht)
      generalize ks[j] = u at *
      generalize ks[t] = z at *
      have cj := hccW j u ej
      have ct := hccW t z et
      have cu := hrkW u u9
      have cz := hrkW z z9
      have hlt' : (j : Int) < ks.length := by omega
      have ht' : (t : Int) < ks.length := by omega
      have u9' : (u : Int) < 9 := by omega
      have z9' : (z : Int) < 9 := by omega
      by_cases hr : rank u ≤ rank z
      · have hr' : (rank u : Int) ≤ rank z := by omega
        have hnx := hat.yes ej et hr
        clear hccW hrkW hopW hat ej et
        go_wp2_with fail
        go_quiet (fail)
        go_wp2_with fail
        go_roundw
        case rel => exact ⟨m + nq, j, j + 1, rfl, by go_num, hlt, hnx, rfl⟩
        case measure => simp [intOf]; omega
      · have hr' : ¬ (rank u : Int) ≤ rank z := by omega
        have hnx := hat.no ej et hr
        clear hccW hrkW hopW hat ej et
        go_wp2_with fail
        go_quiet (fail)
        go_wp2_with fail
        go_roundw
        case rel => exact ⟨m + nq, t, j + 1, rfl, by go_num, hlt, hnx, rfl⟩
        case measure => simp [intOf]; omega
    · have hge' : ¬ (j : Int) < ks.length := by omega
      have e : j = ks.length := by omega
      subst e
      have htp : t = pre.length := by
        have := Hks.out
        subst this
        exact hat.uniq h1 h2
      subst htp
      have ek : ks[pre.length]? = some k := by rw [Hks.out]; simp
      have k9 := h9 k (by rw [Hks.out]; simp)
      have hpl : pre.length < ks.length := (List.getElem?_eq_some_iff.1 ek).1
      have ck := hccW _ _ ek
      have co9 := hopW _ k9
      have hpl' : (pre.length : Int) < ks.length := by omega
      have k9' : (k : Int) < 9 := by omega
      have hpre : InS W (some ⟨cb, co, none⟩) pre := .inr ⟨cb, co, rfl, hcbW, fun j u hu => hccW j u (by rw [Hks.out, List.getElem?_append_left (List.getElem?_eq_some_iff.1 hu).1]; exact hu)⟩
      have hpost : ∀ (j u : Nat), post[j]? = some u → W.cell? ⟨cb, co + (pre.length + 1) + j, none⟩ = some (.int .i64 u) := fun j u hu => by
        have := hccW (pre.length + 1 + j) u (by rw [Hks.out, List.getElem?_append_right (by omega), show pre.length + 1 + j - pre.length = j + 1 from by omega]; exact hu)
        rw [← Nat.add_assoc] at this
        exact this
      have hlen2 : ks.length = pre.length + 1 + post.length := by rw [Hks.out]; simp; omega
      have hq1 : (pre.length : Int) ≤ cap := by omega
      have hq3 : pre.length + 1 + post.length ≤ cap := by omega
      have hq4 : (pre.length : Int) + 1 ≤ (pre.length : Int) + 1 + post.length := by omega
      have hq5 : (pre.length : Int) + 1 + post.length ≤ cap := by omega
      obtain ⟨kb, ko, rfl⟩ := hkid.addr (by simp)
      have hkW := hkid.fr hW (fun _ _ q => q)
      obtain ⟨a1, c1, p0, p1, p2, p3, hr1⟩ := kid_at (j := 0) (k := x) hkW rfl
      obtain ⟨_, hbl, _⟩ := hkW.get (j := 0) (k := x) rfl
      simp only [Nat.zero_mul, Nat.add_zero] at p0 p1 p2 p3
      obtain ⟨n0, n1, n2, n3, _, _, _, _, zn⟩ := cells4 hB
      have hopsW := hops.fr hW
      have hrankW := hrank.fr hW
      have hpostS : ∀ w', Fr No W w' → ∀ q, (post ≠ [] → q = some ⟨cb, co + (pre.length + 1), none⟩) → InS w' q post := by
        intro w' hf q hq
        by_cases he : post = []
        · exact .inl he
        · exact .inr ⟨cb, co + (pre.length + 1), hq he, Nat.lt_of_lt_of_le hcbW hf.size, fun j u hu => (hf.cell hcbW (fun q => q)).trans (hpost j u hu)⟩
      clear hccW hrkW hopW hat
      go_wp2_with fail
      go_quiet (fail)
      rcases op_case k k9 with rfl | rfl | ⟨k2, e1, e2, _, e4, e5⟩
      · rw [show opText 0 = ⟨#[124, 124]⟩ from rfl, show opOf 0 = 30 from rfl, show nameOf 0 = ⟨#[]⟩ from rfl] at *
        go_wp2_with fail
        have hx' : ∀ (w : World) (v : Value) (a : Option Addr) (cap : Nat), Rd No w x v → InS w a pre → pre.length ≤ cap → OpsAt w ob → RankAt w rb →
            Calls Tryz.prog 13 #[v, .slice a pre.length cap, .slice (some ⟨ob, 0, none⟩) 9 9, .slice (some ⟨rb, 0, none⟩) 9 9] w fun e w' => e = .returned (.bool true) ∧ Fr No w w' := fun w v a cap h1 h2 h3 h4 h5 => hx w v a cap ob rb h1 h2 h3 h4 h5
        have hy' : ∀ (w : World) (v : Value) (a : Option Addr) (cap : Nat), Rd No w y v → InS w a post → post.length ≤ cap → OpsAt w ob → RankAt w rb →
            Calls Tryz.prog 13 #[v, .slice a post.length cap, .slice (some ⟨ob, 0, none⟩) 9 9, .slice (some ⟨rb, 0, none⟩) 9 9] w fun e w' => e = .returned (.bool true) ∧ Fr No w w' := fun w v a cap h1 h2 h3 h4 h5 => hy w v a cap ob rb h1 h2 h3 h4 h5
        have hq2 : pre.length ≤ cap := by omega
        have hq6 : pre.length + 1 + post.length - (pre.length + 1) = post.length := by omega
        have hq9 : pre.length + 1 + post.length ≤ 1000 := by omega
        have hwrap : IntKind.i64.wrap ((pre.length : Int) + 1) = (pre.length : Int) + 1 := wrap_plus1 _ (by omega)
        have htn : ((pre.length : Int) + 1).toNat = pre.length + 1 := by omega
        have hq7 : (0 : Int) ≤ (pre.length : Int) + 1 := by omega
        have hq8 : post.length ≤ cap - (pre.length + 1) := by omega
        have hpS : ∀ w', Fr No W w' → InS w' (if cap = pre.length + 1 then some ⟨cb, co, none⟩ else some ⟨cb, co + (pre.length + 1), none⟩) post := by
          intro w' hf
          refine hpostS w' hf _ (fun he => ?_)
          have : 0 < post.length := List.length_pos_iff.2 he
          rw [if_neg (by omega)]
        clear hx hy hlen2 hpostS
        generalize pre.length = P at *
        generalize post.length = L at *
        obtain ⟨a2, c2, s0, s1, s2, s3, hr2⟩ := kid_at (j := 1) (k := y) hkW rfl
        simp only [Nat.one_mul] at s0 s1 s2 s3
        have u0 : ∀ u : Aft W, u.w.cell? ⟨kb, ko, none⟩ = some (.int .i64 x.op) := fun u => (u.h.cell hbl (fun q => q)).trans p0
        have u1 : ∀ u : Aft W, u.w.cell? ⟨kb, ko + 1, none⟩ = some (.string x.name) := fun u => (u.h.cell hbl (fun q => q)).trans p1
        have u2 : ∀ u : Aft W, u.w.cell? ⟨kb, ko + 2, none⟩ = some (.int .i64 x.n) := fun u => (u.h.cell hbl (fun q => q)).trans p2
        have u3 : ∀ u : Aft W, u.w.cell? ⟨kb, ko + 3, none⟩ = some (.slice a1 x.kids.length c1) := fun u => (u.h.cell hbl (fun q => q)).trans p3
        have v0 : ∀ u : Aft W, u.w.cell? ⟨kb, ko + 4, none⟩ = some (.int .i64 y.op) := fun u => (u.h.cell hbl (fun q => q)).trans s0
        have v1 : ∀ u : Aft W, u.w.cell? ⟨kb, ko + 4 + 1, none⟩ = some (.string y.name) := fun u => (u.h.cell hbl (fun q => q)).trans s1
        have v2 : ∀ u : Aft W, u.w.cell? ⟨kb, ko + 4 + 2, none⟩ = some (.int .i64 y.n) := fun u => (u.h.cell hbl (fun q => q)).trans s2
        have v3 : ∀ u : Aft W, u.w.cell? ⟨kb, ko + 4 + 3, none⟩ = some (.slice a2 y.kids.length c2) := fun u => (u.h.cell hbl (fun q => q)).trans s3
        have nn : ∀ u : Aft W, u.w.cell? ⟨w.heap.size, 3, none⟩ = some (.slice (some ⟨kb, ko, none⟩) 2 kc) := fun u => (u.h.cell zn (fun q => q)).trans n3
        refine wp_region_aft (W := W) (by (repeat (first | with_reducible exact Fr.refl _ _ | with_reducible assumption | with_reducible refine Fr.drewN ?_ _ | with_reducible refine Fr.drew ?_ | with_reducible refine Fr.alloc ?_ _ | with_reducible refine Fr.setNew ?_ (by first | omega | (simp; omega)) _ | with_reducible refine Fr.setOnly ?_ _ | with_reducible refine Fr.trans ?_ (by with_reducible assumption) | with_reducible refine Fr.transNo ?_ (by with_reducible assumption)))) (by kernel_rfl) (by kernel_rfl) ?_
        repeat
          (refine wpQuiet_step (fun K hK => ?_)
           go_simp
           first
             | (refine hK _ ?_; clear hK K)
             | (apply Exists.intro
                refine ⟨fun u => ?_, hK _ ?_⟩
                · first
                    | (with_reducible refine (hx' _ _ _ _ (Rd.fr u.h (fun _ _ q => q) _ _ hr1) (hpre.fr u.h) hq2 (hopsW.fr u.h) (hrankW.fr u.h)).mono ?_; rintro e w3 ⟨rfl, hf3⟩; exact ⟨rfl, ⟨_, u.h.trans hf3⟩, rfl⟩)
                    | (with_reducible refine (hy' _ _ _ _ (Rd.fr u.h (fun _ _ q => q) _ _ hr2) (hpS _ u.h) hq8 (hopsW.fr u.h) (hrankW.fr u.h)).mono ?_; rintro e w3 ⟨rfl, hf3⟩; exact ⟨rfl, ⟨_, u.h.trans hf3⟩, rfl⟩)
                clear hK K))
        refine wpQuiet_nil ?_
        intro w' hw'
        obtain ⟨u, rfl⟩ := hw'
        go_wp2_with fail
        all_goals
          refine bodyPost_ret (v := .bool true) ?_ rfl ⟨rfl, hW.trans u.h⟩
          simp [results, Tryz.results13, go_sem]
      · rw [show opText 1 = ⟨#[38, 38]⟩ from rfl, show opOf 1 = 29 from rfl, show nameOf 1 = ⟨#[]⟩ from rfl] at *
        go_wp2_with fail
        have hx' : ∀ (w : World) (v : Value) (a : Option Addr) (cap : Nat), Rd No w x v → InS w a pre → pre.length ≤ cap → OpsAt w ob → RankAt w rb →
            Calls Tryz.prog 13 #[v, .slice a pre.length cap, .slice (some ⟨ob, 0, none⟩) 9 9, .slice (some ⟨rb, 0, none⟩) 9 9] w fun e w' => e = .returned (.bool true) ∧ Fr No w w' := fun w v a cap h1 h2 h3 h4 h5 => hx w v a cap ob rb h1 h2 h3 h4 h5
        have hy' : ∀ (w : World) (v : Value) (a : Option Addr) (cap : Nat), Rd No w y v → InS w a post → post.length ≤ cap → OpsAt w ob → RankAt w rb →
            Calls Tryz.prog 13 #[v, .slice a post.length cap, .slice (some ⟨ob, 0, none⟩) 9 9, .slice (some ⟨rb, 0, none⟩) 9 9] w fun e w' => e = .returned (.bool true) ∧ Fr No w w' := fun w v a cap h1 h2 h3 h4 h5 => hy w v a cap ob rb h1 h2 h3 h4 h5
        have hq2 : pre.length ≤ cap := by omega
        have hq6 : pre.length + 1 + post.length - (pre.length + 1) = post.length := by omega
        have hq9 : pre.length + 1 + post.length ≤ 1000 := by omega
        have hwrap : IntKind.i64.wrap ((pre.length : Int) + 1) = (pre.length : Int) + 1 := wrap_plus1 _ (by omega)
        have htn : ((pre.length : Int) + 1).toNat = pre.length + 1 := by omega
        have hq7 : (0 : Int) ≤ (pre.length : Int) + 1 := by omega
        have hq8 : post.length ≤ cap - (pre.length + 1) := by omega
        have hpS : ∀ w', Fr No W w' → InS w' (if cap = pre.length + 1 then some ⟨cb, co, none⟩ else some ⟨cb, co + (pre.length + 1), none⟩) post := by
          intro w' hf
          refine hpostS w' hf _ (fun he => ?_)
          have : 0 < post.length := List.length_pos_iff.2 he
          rw [if_neg (by omega)]
        clear hx hy hlen2 hpostS
        generalize pre.length = P at *
        generalize post.length = L at *
        obtain ⟨a2, c2, s0, s1, s2, s3, hr2⟩ := kid_at (j := 1) (k := y) hkW rfl
        simp only [Nat.one_mul] at s0 s1 s2 s3
        have u0 : ∀ u : Aft W, u.w.cell? ⟨kb, ko, none⟩ = some (.int .i64 x.op) := fun u => (u.h.cell hbl (fun q => q)).trans p0
        have u1 : ∀ u : Aft W, u.w.cell? ⟨kb, ko + 1, none⟩ = some (.string x.name) := fun u => (u.h.cell hbl (fun q => q)).trans p1
        have u2 : ∀ u : Aft W, u.w.cell? ⟨kb, ko + 2, none⟩ = some (.int .i64 x.n) := fun u => (u.h.cell hbl (fun q => q)).trans p2
        have u3 : ∀ u : Aft W, u.w.cell? ⟨kb, ko + 3, none⟩ = some (.slice a1 x.kids.length c1) := fun u => (u.h.cell hbl (fun q => q)).trans p3
        have v0 : ∀ u : Aft W, u.w.cell? ⟨kb, ko + 4, none⟩ = some (.int .i64 y.op) := fun u => (u.h.cell hbl (fun q => q)).trans s0
        have v1 : ∀ u : Aft W, u.w.cell? ⟨kb, ko + 4 + 1, none⟩ = some (.string y.name) := fun u => (u.h.cell hbl (fun q => q)).trans s1
        have v2 : ∀ u : Aft W, u.w.cell? ⟨kb, ko + 4 + 2, none⟩ = some (.int .i64 y.n) := fun u => (u.h.cell hbl (fun q => q)).trans s2
        have v3 : ∀ u : Aft W, u.w.cell? ⟨kb, ko + 4 + 3, none⟩ = some (.slice a2 y.kids.length c2) := fun u => (u.h.cell hbl (fun q => q)).trans s3
        have nn : ∀ u : Aft W, u.w.cell? ⟨w.heap.size, 3, none⟩ = some (.slice (some ⟨kb, ko, none⟩) 2 kc) := fun u => (u.h.cell zn (fun q => q)).trans n3
        refine wp_region_aft (W := W) (by (repeat (first | with_reducible exact Fr.refl _ _ | with_reducible assumption | with_reducible refine Fr.drewN ?_ _ | with_reducible refine Fr.drew ?_ | with_reducible refine Fr.alloc ?_ _ | with_reducible refine Fr.setNew ?_ (by first | omega | (simp; omega)) _ | with_reducible refine Fr.setOnly ?_ _ | with_reducible refine Fr.trans ?_ (by with_reducible assumption) | with_reducible refine Fr.transNo ?_ (by with_reducible assumption)))) (by kernel_rfl) (by kernel_rfl) ?_
        repeat
          (refine wpQuiet_step (fun K hK => ?_)
           go_simp
           first
             | (refine hK _ ?_; clear hK K)
             | (apply Exists.intro
                refine ⟨fun u => ?_, hK _ ?_⟩
                · first
                    | (with_reducible refine (hx' _ _ _ _ (Rd.fr u.h (fun _ _ q => q) _ _ hr1) (hpre.fr u.h) hq2 (hopsW.fr u.h) (hrankW.fr u.h)).mono ?_; rintro e w3 ⟨rfl, hf3⟩; exact ⟨rfl, ⟨_, u.h.trans hf3⟩, rfl⟩)
                    | (with_reducible refine (hy' _ _ _ _ (Rd.fr u.h (fun _ _ q => q) _ _ hr2) (hpS _ u.h) hq8 (hopsW.fr u.h) (hrankW.fr u.h)).mono ?_; rintro e w3 ⟨rfl, hf3⟩; exact ⟨rfl, ⟨_, u.h.trans hf3⟩, rfl⟩)
                clear hK K))
        refine wpQuiet_nil ?_
        intro w' hw'
        obtain ⟨u, rfl⟩ := hw'
        go_wp2_with fail
        all_goals
          refine bodyPost_ret (v := .bool true) ?_ rfl ⟨rfl, hW.trans u.h⟩
          simp [results, Tryz.results13, go_sem]
      · generalize opOf k = OP at *
        subst e4
        generalize nameOf k = NM at *
        subst e5
        generalize opText k = tx at *
        go_wp2_with fail
        have hx' : ∀ (w : World) (v : Value) (a : Option Addr) (cap : Nat), Rd No w x v → InS w a pre → pre.length ≤ cap → OpsAt w ob → RankAt w rb →
            Calls Tryz.prog 13 #[v, .slice a pre.length cap, .slice (some ⟨ob, 0, none⟩) 9 9, .slice (some ⟨rb, 0, none⟩) 9 9] w fun e w' => e = .returned (.bool true) ∧ Fr No w w' := fun w v a cap h1 h2 h3 h4 h5 => hx w v a cap ob rb h1 h2 h3 h4 h5
        have hy' : ∀ (w : World) (v : Value) (a : Option Addr) (cap : Nat), Rd No w y v → InS w a post → post.length ≤ cap → OpsAt w ob → RankAt w rb →
            Calls Tryz.prog 13 #[v, .slice a post.length cap, .slice (some ⟨ob, 0, none⟩) 9 9, .slice (some ⟨rb, 0, none⟩) 9 9] w fun e w' => e = .returned (.bool true) ∧ Fr No w w' := fun w v a cap h1 h2 h3 h4 h5 => hy w v a cap ob rb h1 h2 h3 h4 h5
        have hq2 : pre.length ≤ cap := by omega
        have hq6 : pre.length + 1 + post.length - (pre.length + 1) = post.length := by omega
        have hq9 : pre.length + 1 + post.length ≤ 1000 := by omega
        have hwrap : IntKind.i64.wrap ((pre.length : Int) + 1) = (pre.length : Int) + 1 := wrap_plus1 _ (by omega)
        have htn : ((pre.length : Int) + 1).toNat = pre.length + 1 := by omega
        have hq7 : (0 : Int) ≤ (pre.length : Int) + 1 := by omega
        have hq8 : post.length ≤ cap - (pre.length + 1) := by omega
        have hpS : ∀ w', Fr No W w' → InS w' (if cap = pre.length + 1 then some ⟨cb, co, none⟩ else some ⟨cb, co + (pre.length + 1), none⟩) post := by
          intro w' hf
          refine hpostS w' hf _ (fun he => ?_)
          have : 0 < post.length := List.length_pos_iff.2 he
          rw [if_neg (by omega)]
        clear hx hy hlen2 hpostS
        generalize pre.length = P at *
        generalize post.length = L at *
        obtain ⟨a2, c2, s0, s1, s2, s3, hr2⟩ := kid_at (j := 1) (k := y) hkW rfl
        simp only [Nat.one_mul] at s0 s1 s2 s3
        have u0 : ∀ u : Aft W, u.w.cell? ⟨kb, ko, none⟩ = some (.int .i64 x.op) := fun u => (u.h.cell hbl (fun q => q)).trans p0
        have u1 : ∀ u : Aft W, u.w.cell? ⟨kb, ko + 1, none⟩ = some (.string x.name) := fun u => (u.h.cell hbl (fun q => q)).trans p1
        have u2 : ∀ u : Aft W, u.w.cell? ⟨kb, ko + 2, none⟩ = some (.int .i64 x.n) := fun u => (u.h.cell hbl (fun q => q)).trans p2
        have u3 : ∀ u : Aft W, u.w.cell? ⟨kb, ko + 3, none⟩ = some (.slice a1 x.kids.length c1) := fun u => (u.h.cell hbl (fun q => q)).trans p3
        have v0 : ∀ u : Aft W, u.w.cell? ⟨kb, ko + 4, none⟩ = some (.int .i64 y.op) := fun u => (u.h.cell hbl (fun q => q)).trans s0
        have v1 : ∀ u : Aft W, u.w.cell? ⟨kb, ko + 4 + 1, none⟩ = some (.string y.name) := fun u => (u.h.cell hbl (fun q => q)).trans s1
        have v2 : ∀ u : Aft W, u.w.cell? ⟨kb, ko + 4 + 2, none⟩ = some (.int .i64 y.n) := fun u => (u.h.cell hbl (fun q => q)).trans s2
        have v3 : ∀ u : Aft W, u.w.cell? ⟨kb, ko + 4 + 3, none⟩ = some (.slice a2 y.kids.length c2) := fun u => (u.h.cell hbl (fun q => q)).trans s3
        have nn : ∀ u : Aft W, u.w.cell? ⟨w.heap.size, 3, none⟩ = some (.slice (some ⟨kb, ko, none⟩) 2 kc) := fun u => (u.h.cell zn (fun q => q)).trans n3
        refine wp_region_aft (W := W) (by (repeat (first | with_reducible exact Fr.refl _ _ | with_reducible assumption | with_reducible refine Fr.drewN ?_ _ | with_reducible refine Fr.drew ?_ | with_reducible refine Fr.alloc ?_ _ | with_reducible refine Fr.setNew ?_ (by first | omega | (simp; omega)) _ | with_reducible refine Fr.setOnly ?_ _ | with_reducible refine Fr.trans ?_ (by with_reducible assumption) | with_reducible refine Fr.transNo ?_ (by with_reducible assumption)))) (by kernel_rfl) (by kernel_rfl) ?_
        repeat
          (refine wpQuiet_step (fun K hK => ?_)
           go_simp
           first
             | (refine hK _ ?_; clear hK K)
             | (apply Exists.intro
                refine ⟨fun u => ?_, hK _ ?_⟩
                · first
                    | (with_reducible refine (hx' _ _ _ _ (Rd.fr u.h (fun _ _ q => q) _ _ hr1) (hpre.fr u.h) hq2 (hopsW.fr u.h) (hrankW.fr u.h)).mono ?_; rintro e w3 ⟨rfl, hf3⟩; exact ⟨rfl, ⟨_, u.h.trans hf3⟩, rfl⟩)
                    | (with_reducible refine (hy' _ _ _ _ (Rd.fr u.h (fun _ _ q => q) _ _ hr2) (hpS _ u.h) hq8 (hopsW.fr u.h) (hrankW.fr u.h)).mono ?_; rintro e w3 ⟨rfl, hf3⟩; exact ⟨rfl, ⟨_, u.h.trans hf3⟩, rfl⟩)
                clear hK K))
        refine wpQuiet_nil ?_
        intro w' hw'
        obtain ⟨u, rfl⟩ := hw'
        go_wp2_with fail
        all_goals
          refine bodyPost_ret (v := .bool true) ?_ rfl ⟨rfl, hW.trans u.h⟩
          simp [results, Tryz.results13, go_sem]
end Go.Proofs.YtngkobejdjjeeaaGreatDoor
