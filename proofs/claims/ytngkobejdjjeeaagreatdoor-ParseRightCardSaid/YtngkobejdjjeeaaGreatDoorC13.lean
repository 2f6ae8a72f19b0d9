/- A call p of one number is good: scan.IsName p, tree.called, cut, args. -/
import Derived.Test.YtngkobejdjjeeaaGreatDoorC11
import Derived.Test.YtngkobejdjjeeaaGreatDoorS9
set_option linter.unusedSimpArgs false
set_option linter.unusedVariables false
namespace Go.Proofs.YtngkobejdjjeeaaGreatDoor
open Go.RowKit

set_option maxHeartbeats 1000000 in
set_option maxRecDepth 100000 in
theorem isWords_p (w : World) : Calls Tryz.prog 151 #[.string ⟨#[112]⟩] w fun e w' => e = .returned (.bool true) ∧ Fr No w w' := by
  have w112 : ∀ w, Calls Tryz.prog 88 #[.int .u8 112] w fun e w' => e = .returned (.bool true) ∧ w' = w := fun w => isWord_any 112 w
  have d112 : ∀ w, Calls Tryz.prog 44 #[.int .u8 112] w fun e w' => e = .returned (.bool false) ∧ w' = w := fun w => isDigit_any 112 w
  go_enter Tryz.func151, Tryz.ntmps151
  go_wp2_with fail
  refine wp_loop_rounds 2 ?_
  rw [rounds_succ]
  go_wp2_with fail
  refine (w112 _).mono ?_
  rintro e w1 ⟨rfl, rfl⟩
  go_wp2_with fail
  rw [rounds_succ]
  go_wp2_with fail
  refine (d112 _).mono ?_
  rintro e w2 ⟨rfl, rfl⟩
  go_wp2_with fail
  refine bodyPost_ret (v := .bool true) ?_ rfl ⟨rfl, Fr.refl _ _⟩
  simp [results, Tryz.results151, go_sem]

set_option maxHeartbeats 1000000 in
set_option maxRecDepth 100000 in
theorem isName_p (w : World) : Calls Tryz.prog 152 #[.string ⟨#[112]⟩] w fun e w' => e = .returned (.bool true) ∧ Fr No w w' := by
  have s112 : ∀ w, Calls Tryz.prog 47 #[.int .u8 112] w fun e w' => e = .returned (.bool true) ∧ w' = w := fun w => isSmall_any 112 w
  have hb : ((⟨#[112]⟩ : ByteArray)[0]'(by decide)) = 112 := rfl
  go_enter Tryz.func152, Tryz.ntmps152
  go_wp2_with fail
  refine (isWords_p _).mono ?_
  rintro e w1 ⟨rfl, hf1⟩
  go_wp2_with fail
  refine (s112 _).mono ?_
  rintro e w2 ⟨rfl, rfl⟩
  go_wp2_with fail
  refine bodyPost_ret (v := .bool true) ?_ rfl ⟨rfl, hf1⟩
  simp [results, Tryz.results152, go_sem]

theorem isName161 (w : World) (hw : w.ShapedOpen Tryz.prog) : Calls Tryz.prog 161 #[.string ⟨#[112]⟩] w fun e w' => e = .returned (.bool true) ∧ Fr No w w' := by
  go_enter Tryz.func161, Tryz.ntmps161
  go_wp2_with fail
  refine (isName_p _).mono ?_
  rintro e w1 ⟨rfl, hf1⟩
  go_wp2_with fail
  refine (isKeyword_p _ (shaped_fr hw hf1)).mono ?_
  rintro e w2 ⟨rfl, rfl⟩
  go_wp2_with fail
  refine bodyPost_ret (v := .bool true) ?_ rfl ⟨rfl, hf1⟩
  simp [results, Tryz.results161, go_sem]

set_option maxHeartbeats 1000000 in
set_option maxRecDepth 100000 in
theorem cut_one (x : Nod) (hop : x.op = 4) (a : Option Addr) (cap : Nat) (w : World) (hk : Kid No w [x] a) :
    Calls Tryz.prog 191 #[.slice a 1 cap] w fun e w' => e = .returned (.tuple #[.slice a 1 cap, .bool true]) ∧ Fr No w w' := by
  obtain ⟨b, o, rfl⟩ := hk.addr (by simp)
  obtain ⟨a1, c1, p0, p1, p2, p3, hr1⟩ := kid_at (j := 0) (k := x) hk rfl
  obtain ⟨_, hbl, _⟩ := hk.get (j := 0) (k := x) rfl
  simp only [Nat.zero_mul, Nat.add_zero] at p0 p1 p2 p3
  rw [hop] at p0
  go_enter Tryz.func191, Tryz.ntmps191
  go_wp2_with fail
  refine bodyPost_ret (v := .tuple #[.slice (some ⟨b, o, none⟩) 1 cap, .bool true]) ?_ rfl ⟨rfl, ?_⟩
  · simp [results, Tryz.results191, go_sem]
  · (repeat (first | with_reducible exact Fr.refl _ _ | with_reducible assumption | with_reducible refine Fr.drewN ?_ _ | with_reducible refine Fr.drew ?_ | with_reducible refine Fr.alloc ?_ _ | with_reducible refine Fr.setNew ?_ (by first | omega | (simp; omega)) _ | with_reducible refine Fr.setOnly ?_ _ | with_reducible refine Fr.trans ?_ (by with_reducible assumption) | with_reducible refine Fr.transNo ?_ (by with_reducible assumption)))

theorem call214 (args : Array Value) (w : World) : (callFunc 214 args).run Tryz.prog w = .ok (.enter 214 args) w := by
  simp [go_sem, Tryz.func214]

theorem args1 (k : Nod) (v : Value) (w : World) (h : ∀ x, Calls Tryz.prog 148 #[v] (w.alloc x) fun e w' => e = .returned (.bool true) ∧ Fr No (w.alloc x) w') (hv : ∃ op name n a len cap, v = .agg #[.int .i64 op, .string name, .int .i64 n, .slice a len cap]) :
    Calls Tryz.prog 214 #[v] w fun e w' => e = .returned (.bool false) ∧ Fr No w w' := by
  obtain ⟨op, name, n, a, len, cap, rfl⟩ := hv
  go_enter Tryz.func214, Tryz.ntmps214
  go_wp2_with fail
  refine (h _).mono ?_
  rintro e w1 ⟨rfl, hf1⟩
  go_wp2_with fail
  refine bodyPost_ret (v := .bool false) ?_ rfl ⟨rfl, ((Fr.refl _ _).alloc _).trans hf1⟩
  simp [results, Tryz.results214, go_sem]

theorem args192 (G : World → Prop) (hG : ∀ w w', G w → Fr No w w' → G w') (ks : List Nod) (hks : ∀ k ∈ ks, ExprYes G k) (hlen : ks.length ≤ 1000000) (a : Option Addr) (cap : Nat) (w : World) (hw : G w) (hk : Kid No w ks a) :
    Calls Tryz.prog 192 #[.slice a ks.length cap] w fun e w' => e = .returned (.bool true) ∧ Fr No w w' := by
  have hmf : ∀ (fn : Fn) (first cap : Array Value) (w : World), (Instr.makeFunc fn first cap).run Tryz.prog w = .ok (.func fn first cap) w := fun _ _ _ _ => rfl
  go_enter Tryz.func192, Tryz.ntmps192
  go_wp2_with fail
  refine (containsFunc_none No ks a cap 214 #[] (fun j w' => Fr No w w') hlen call214 (fun j w' hf => hk.fr hf (fun _ _ q => q)) ?_ w (Fr.refl _ _)).mono ?_
  · intro j k v w' hj hr hf
    have hy := hks k (List.mem_of_getElem? hj)
    obtain ⟨a', c', hv, hkk⟩ := hr.shape
    refine (args1 k v w' (fun x => hy v _ (hG _ _ hw (hf.alloc _)) (Rd.fr ((Fr.refl No w').alloc _) (fun _ _ q => q) _ _ hr)) ⟨_, _, _, _, _, _, hv⟩).mono ?_
    rintro e w2 ⟨rfl, hf2⟩
    exact ⟨rfl, hf.trans hf2⟩
  rintro e w1 ⟨rfl, hf1⟩
  go_wp2_with fail
  go_ret
  exact ⟨rfl, hf1⟩

theorem called_one (G : World → Prop) (hG : ∀ w w', G w → Fr No w w' → G w') (x : Nod) (hx : ExprYes G x) (hop : x.op = 4) (a : Option Addr) (cap : Nat) (w : World) (hw : G w) (hk : Kid No w [x] a) :
    Calls Tryz.prog 149 #[.slice a 1 cap] w fun e w' => e = .returned (.bool true) ∧ Fr No w w' := by
  have hcut := cut_one x hop a cap w hk
  go_enter Tryz.func149, Tryz.ntmps149
  go_wp2_with fail
  refine hcut.mono ?_
  rintro e w1 ⟨rfl, hf1⟩
  go_wp2_with fail
  refine (args192 G hG [x] (by simpa using hx) (by simp) a cap w1 (hG _ _ hw hf1) (hk.fr hf1 (fun _ _ q => q))).mono ?_
  rintro e w2 ⟨rfl, hf2⟩
  go_wp2_with fail
  refine bodyPost_ret (v := .bool true) ?_ rfl ⟨rfl, hf1.trans hf2⟩
  simp [results, Tryz.results149, go_sem]

set_option maxHeartbeats 1000000 in
theorem yes_fcall (G : World → Prop) (hG : ∀ w w', G w → Fr No w w' → G w') (hsh : ∀ w, G w → w.ShapedOpen Tryz.prog) (x : Nod) (hx : ExprYes G x) (hop : x.op = 4) : ExprYes G (.mk 18 ⟨#[112]⟩ 0 [x]) := by
  intro v w hw hrd
  obtain ⟨a, cap, rfl, hk⟩ := hrd.shape
  simp only [Nod.op, Nod.name, Nod.n, Nod.kids, List.length_cons, List.length_nil, Nat.zero_add] at hk ⊢
  refine expr148 18 (by simp) _ _ _ _ _ w (fun w' hf' => ?_)
  have hn : ∀ w2, Fr No w' w2 → Calls Tryz.prog 110 #[.agg #[.int .i64 18, .string ⟨#[112]⟩, .int .i64 0, .slice a 1 cap]] w2 fun e w'' => e = .returned (.bool true) ∧ Fr No w2 w'' := by
    intro w2 hf2
    have hnm := fun w3 (hf : Fr No w2 w3) => isName161 w3 (hsh _ (hG _ _ hw ((hf'.trans hf2).trans hf)))
    have hcl := fun w3 (hf : Fr No w2 w3) => called_one G hG x hx hop a cap w3 (hG _ _ hw ((hf'.trans hf2).trans hf)) (hk.fr ((hf'.trans hf2).trans hf) (fun _ _ q => q))
    go_enter Tryz.func110, Tryz.ntmps110
    go_wp2_with fail
    refine (hnm _ ((Fr.refl _ _).alloc _)).mono ?_
    rintro e w3 ⟨rfl, hf3⟩
    have b3 := hf3.blk (blk_new w2 _) (fun q => q)
    obtain ⟨g0, g1, g2, g3, _, _, _, _, hz⟩ := cells4 b3
    go_wp2_with fail
    refine (hcl _ (((Fr.refl _ _).alloc _).trans hf3)).mono ?_
    rintro e w4 ⟨rfl, hf4⟩
    go_wp2_with fail
    go_ret
    exact ⟨rfl, (((Fr.refl _ _).alloc _).trans hf3).trans hf4⟩
  go_enter Tryz.func61, Tryz.ntmps61
  go_wp2_with fail
  refine (hn _ ((Fr.refl _ _).alloc _)).mono ?_
  rintro e w1 ⟨rfl, hf1⟩
  go_wp2_with fail
  go_ret
  exact ⟨rfl, ((Fr.refl _ _).alloc _).trans hf1⟩

/-- Check of a Seq of p 5. -/
theorem check_p (G : World → Prop) (hG : ∀ w w', G w → Fr No w w' → G w') (hsh : ∀ w, G w → w.ShapedOpen Tryz.prog) (v : Value) (w : World) (hw : G w) (hrd : Rd No w (.mk 26 ⟨#[]⟩ 0 [.mk 18 ⟨#[112]⟩ 0 [.mk 4 ⟨#[]⟩ 5 []]]) v) :
    Calls Tryz.prog 21 #[v] w fun e w' => e = .returned (.int .i64 0) ∧ Fr No w w' := by
  refine check21 G hG _ (yes_fcall G hG hsh _ (yes_int G 5 (by decide) (by decide)) rfl) (usings32 _ (by simp [Nod.op]) (by simp [Nod.kids]) (by intro k hk; simp [Nod.kids] at hk; exact hk ▸ use_int 5)) (walk62 _ (by simp [Nod.op]) (by simp [Nod.kids]) (by intro k hk; simp [Nod.kids] at hk; exact hk ▸ walked_int 5)) (by simp [Nod.op]) ?_ ?_ v w hw hrd
  · simp [Nod.size, sizes]
  · simp [Nod.depth, depths]
end Go.Proofs.YtngkobejdjjeeaaGreatDoor
