/-
Trees that are made normal. The discovery of a tree. The activities of a tree. Automata: what they accept, and what the operations on them keep. Automata: what is valid. DERIVED: THE SHELF's CONTRACTS AT THIS DUMP, IN PLAIN WORDS (tools/lay-plain.mjs out of 'YtookcfeogbeooaaGreatDoorSh.lean', which tools/lay-shelf.mjs wrote): THE SAME DECLARATIONS UNDER THE SAME NAMES: 'import', 'namespace', 'open', 'def', 'theorem' AND NOTHING ELSE: no command of the shelf's: FOR A HAND-IN. Each laying: the table of numbers ('.._ren') and one theorem, a field a fact of the dump's own or the kernel's comparison; each contract: ONE APPLICATION.
Conditions: those that each theorem states.
-/
import Derived.Test.YtookcfeogbeooaaGreatDoorM20
import Derived.Shelf.Strconv.AppendIntPublic10
import Derived.Ground.NamesProg
import Derived.Test.YtookcfeogbeooaaGreatDoorProg
set_option linter.all false
set_option maxRecDepth 100000
set_option maxHeartbeats 8000000
set_option autoImplicit true
set_option relaxedAutoImplicit true
namespace Go.Proofs.YtookcfeogbeooaaGreatDoor
open Go Go.Proofs
section
open Go.Proofs.Tryz
attribute [local irreducible] TK Yl OpK AnyT wpList Code.wp
def NR (t : Tree) : Value → Ghost → List HL → Prop := fun v H' O' => O' = [] ∧ ∃ o a A n c ll, v = .agg #[.int .i64 o, .string a, .slice A n c] ∧ Sl rTree H' ll A n c ∧ NormR t (.mk o a ll)
theorem Tree.eta (t : Tree) : t = .mk t.op t.act t.l := by cases t; rfl
theorem op_of {t : Tree} (h : okT t = true) (h1 : ¬ t.op = 1) (h2 : ¬ t.op = 2) (h6 : ¬ t.op = 6) : t.op = 3 ∨ t.op = 4 ∨ t.op = 5 := by
 have hr := okT_right h
 unfold rightB at hr
 rw [if_neg h1, if_neg h2] at hr
 by_cases h3 : t.op = 3 ∨ t.op = 4 ∨ t.op = 5
 ·exact h3
 ·rw [if_neg h3, if_neg h6] at hr; cases hr
theorem two_of {t : Tree} (h : okT t = true) (h6 : t.op = 6) : t.l.length = 2 := by
 have hr := okT_right h
 simp [rightB, h6] at hr
 exact hr.1
theorem two_list {α : Type} {l : List α} {x y : α} (h : l.length = 2) (hx : l[0]? = some x) (hy : l[1]? = some y) : l = [x, y] := by
 match l, h with
 | [a, b], _ => simp at hx hy; rw [hx, hy]
theorem NormL.take {l : List Tree} (h : NormL (l.take i) L) (hx : l[i]? = some x) (hy : NormR x y) : NormL (l.take (i + 1)) (L ++ [y]) := by
 rw [List.take_add_one, hx]; exact h.snoc hy
theorem NormL.loop {t : Tree} {x y : Tree} (h : NormL t.l L) (hok : okT t = true) (h6 : t.op = 6) (hL : L = [x, y]) : NormR t (.mk 6 noB [x, y]) := by
 subst hL
 have h2 := two_of hok h6
 obtain ⟨op, act, l⟩ := t
 simp only [Tree.op] at h6
 subst h6
 match l, h2, h with
 | [a, b], _, .cons h1 (.cons h2 .nil) => exact NormR.loop h1 h2
theorem c70s {N : Nat} (ih : ∀ (t : Tree) (H : Ghost) (cx : LV), t.size < N → okT t = true → rTree.rel H t cx → Ct PP 70 #[.agg cx.toArray] H [] (NR t)) {t : Tree} (ht : t.size ≤ N) (h400 : t.size ≤ 400) (hok : okT t = true) (hl : Sl rTree H t.l A n c) : Ct PP 70 #[.agg #[.int .i64 t.op, .string t.act, .slice A n c]] H [] (NR t) := by
 have s4 := hl.len
 have l0 := Tree.size_l t
 have s8 := len_sizeL t.l
 refine cB func70 ntmps70 fun I hD hI t8 => ?_
 refine g2a ?_
 intros
 refine bG fun b2 => ?_
 refine aL fun b3 => ?_
 refine g14c ?_
 intros
 refine newRow 37 3 ?_
 refine lp2 (fun D f f1 E H' O m => ∃ (i : Nat) (L : List Tree) (As : OA) (cS : Nat) (cs : LV), Ghost.le H H' ∧ (i ≤ n) ∧ (NormL (t.l.take i) L) ∧ (Reps rTree H' L cs) ∧ m = n - i ∧ O = [.row 37 3 (.slice As i cS) i cs, f, f1] ∧ E = (3, .slice As i cS) :: (11, .int .i64 (i : Int)) :: D) [1, 2, 9, 10] [0, 1, 2] ⟨0, [], none, 0, [], Ghost.le.refl _, Nat.zero_le _, (by simpa using NormL.nil), .nil, rfl, rfl, rfl⟩ ?_
 rintro _ H7 _ _ ⟨i, L, As, cS, cs, d3, hi, e0, hr, rfl, rfl, rfl⟩ _ j6
 have hl := hl.mono d3
 have s2 : L.length = i := by rw [e0.len, List.length_take]; omega
 refine g5b ?_
 intros
 refine cD ?_ ?_ <;> intro n6
 refine g5b ?_
 intros
 obtain ⟨k3, b5⟩ := eX hl i
 obtain ⟨s6, s0, n8, o6, i9, f9⟩ := hl.at_ b5
 obtain ⟨A8, t2, c28, rfl, d5⟩ := rTree_dest i9
 refine g2 ?_
 refine aL fun s3 => ?_
 refine sG 0 ?_
 refine g4 ?_
 refine sq rfl (fP hD rfl call70 rfl (ih k3 _ _ (by have := size_mem (mG b5); rw [Tree.size_l] at ht; omega) (okT_mem hok _ (mG b5)) (rTree_mk (t := k3) d5)) ?_)
 rintro v2 H8 ⟨o1, a1, A1, n1, c1, l1, rfl, k9, r5⟩ d1
 have ⟨hl, f9, d5, hr⟩ := mo4 d1 hl f9 d5 hr
 refine sq rfl (bS [.int .i64 o1, .string a1, .slice A1 n1 c1] fun s9 => ?_)
 refine sq rfl (aR 2 fun A0 c36 => ?_)
 refine g5 ?_
 exact nK j6 ⟨i + 1, L ++ [.mk o1 a1 l1], A0, c36, cs ++ [.int .i64 o1, .string a1, .slice A1 n1 c1], (d3.trans d1), oM, (e0.take b5 r5), (hr.snoc (rTree_mk (t := .mk o1 a1 l1) k9)), rfl, rfl, rfl⟩
 refine g4b ?_
 intros
 have s5 : i = n := by omega
 rw [List.take_of_length_le oM] at e0
 refine g10b ?_
 intros
 refine cD ?_ ?_ <;> intro l8
 refine g1 ?_
 refine cD ?_ ?_ <;> intro r4
 refine g7a ?_
 intros
 refine sG 1 ?_
 refine g1 ?_
 refine rC 1 [] results70 ?_
 exact ⟨rfl, _, _, _, _, _, [], rfl, (Sl.nil _ _), (NormR.leaf1 hok (by first | exact .inl (by assumption) | exact .inr (by assumption)))⟩
 ·exfalso; first | omega | contradiction
 refine g4 ?_
 refine cD ?_ ?_ <;> intro r1
 refine g7a ?_
 intros
 refine sG 1 ?_
 refine g1 ?_
 refine rC 1 [] results70 ?_
 exact ⟨rfl, _, _, _, _, _, [], rfl, (Sl.nil _ _), (NormR.leaf1 hok (by first | exact .inl (by assumption) | exact .inr (by assumption)))⟩
 refine g5a ?_
 intros
 refine cD ?_ ?_ <;> intro r8
 refine TK.seq fun K1 j9 => ?_
 have d9 : t.op = 6 := by assumption
 obtain ⟨T, rfl, d2, k2⟩ := reps_tv hr
 have r7 : T.length = 2 := by have := congrArg List.length k2; rw [List.length_map] at this; rw [this, e0.len]; exact two_of hok d9
 have t1 : i = 2 := by have := two_of hok d9; omega
 obtain ⟨x, hx⟩ := ex_i (l := T) (i := 0) oM
 obtain ⟨y, hy⟩ := ex_i (l := T) (i := 1) oM
 have h6 := d2 _ (mG hx)
 have d0 := d2 _ (mG hy)
 have i5 : L = [x.t, y.t] := by rw [← k2, two_list r7 hx hy]; rfl
 have e2 := e0.loop hok d9 i5
 have f8 : ∀ (b6 b7 : Nat), TK 70 I K1 [(2, .pointer (ad b3)), (6, .pointer (ad b6)), (7, .pointer (ad b7))] H7 [.blk b6 37 [.int .i64 x.o, .string x.a, .slice x.A x.n x.c], .blk b7 37 [.int .i64 y.o, .string y.a, .slice y.A y.n y.c], .blk b3 37 [.int .i64 0, .string ⟨#[]⟩, .slice none 0 0], .blk b2 37 [.int .i64 t.op, .string t.act, .slice A n c]] := by
  intro b6 b7
  refine j9 _ _ _ ?_
  refine TK.seq fun K0 j1 => ?_
  have e4 : ∀ (o3 : Int) (a3 : BA) (A3 : OA) (n3 c3 : Nat) (l3 : List Tree) (o4 : Int) (a4 : BA) (A4 : OA) (n4 c4 : Nat) (l4 : List Tree) (H0 : Ghost) (c0 : Ghost.le H7 H0) (d7 : Sl rTree H0 l3 A3 n3 c3) (d6 : Sl rTree H0 l4 A4 n4 c4) (hF : NormR t (.mk 6 noB [.mk o3 a3 l3, .mk o4 a4 l4])), TK 70 I K0 [(2, .pointer (ad b3)), (6, .pointer (ad b6)), (7, .pointer (ad b7))] H0 [.blk b6 37 [.int .i64 o3, .string a3, .slice A3 n3 c3], .blk b7 37 [.int .i64 o4, .string a4, .slice A4 n4 c4], .blk b3 37 [.int .i64 0, .string ⟨#[]⟩, .slice none 0 0], .blk b2 37 [.int .i64 t.op, .string t.act, .slice A n c]] := by
   intro o3 a3 A3 n3 c3 l3 o4 a4 A4 n4 c4 l4 H0 c0 d7 d6 hF
   have ⟨h6, d0, hl⟩ := mo3 c0 h6 d0 hl
   refine j1 _ _ _ ?_
   refine g7b ?_
   intros
   refine sD 56 ?_ ?_ <;> intro r6
   refine g5 ?_
   refine cD ?_ ?_ <;> intro l2
   refine g3a ?_
   intros
   refine sG 2 ?_
   refine g1 ?_
   refine rC 2 [] results70 ?_
   exact ⟨rfl, _, _, _, _, _, [], rfl, (Sl.nil _ _), (hF.trans (NormR.loop0 hF.ok (by assumption) (by assumption)))⟩
   refine g5a ?_
   intros
   refine sq rfl (tBSlice (k := 3) (out := [.int .i64 o3, .string a3, .slice A3 n3 c3, .int .i64 o4, .string a4, .slice A4 n4 c4]) uC sC nC rfl (fun zs hz => fill23 hz) rfl dC dC dC dC fun t3 => ?_)
   refine g1 ?_
   refine sG 3 ?_
   refine g1 ?_
   refine tR 0 (r := rTree) (ys := [.mk o3 a3 l3, .mk o4 a4 l4]) (Reps.cons (r := rTree) (c := [_, _, _]) (rTree_mk (t := .mk o3 a3 l3) d7) (.single (rTree_mk (t := .mk o4 a4 l4) d6))) fun H5 e8 j4 => ?_
   have ⟨d7, d6, hl⟩ := mo3 e8 d7 d6 hl
   refine rC 2 [] results70 ?_
   exact ⟨rfl, _, _, _, _, _, [.mk o3 a3 l3, .mk o4 a4 l4], rfl, j4, hF⟩
   refine g11a ?_
   intros
   refine sq rfl (tBSlice (k := 3) (out := [.int .i64 o3, .string a3, .slice A3 n3 c3, .int .i64 o4, .string a4, .slice A4 n4 c4]) uC sC nC rfl (fun zs hz => fill23 hz) rfl dC dC dC dC fun r9 => ?_)
   refine g1 ?_
   refine sG 3 ?_
   refine g1 ?_
   refine tR 0 (r := rTree) (ys := [.mk o3 a3 l3, .mk o4 a4 l4]) (Reps.cons (r := rTree) (c := [_, _, _]) (rTree_mk (t := .mk o3 a3 l3) d7) (.single (rTree_mk (t := .mk o4 a4 l4) d6))) fun H6 e9 k0 => ?_
   have ⟨d7, d6, hl⟩ := mo3 e9 d7 d6 hl
   refine rC 2 [] results70 ?_
   exact ⟨rfl, _, _, _, _, _, [.mk o3 a3 l3, .mk o4 a4 l4], rfl, k0, hF⟩
  refine g6a ?_
  intros
  refine cD ?_ ?_ <;> intro r3
  have j0 := okT_mem e2.ok x.t (by simp [Tree.l])
  have j3 : x.l.length = 2 := two_of (t := x.t) j0 (by assumption)
  have k6 := h6.len
  refine ts 11 fun _ => ?_
  refine tj 0 ?_
  refine g1 ?_
  obtain ⟨i4, e5⟩ := eX h6 0
  obtain ⟨t4, t5, o8, o9, j8, b9⟩ := h6.at_ e5
  obtain ⟨A6, n2, c85, rfl, h9⟩ := rTree_dest j8
  refine g4 ?_
  obtain ⟨d8, e7⟩ := eX h6 1
  obtain ⟨t7, s7, r0, k4, k1, b8⟩ := h6.at_ e7
  obtain ⟨A2, n0, c97, rfl, h8⟩ := rTree_dest k1
  refine g3 ?_
  refine oI 9 rfl kR (tBSlice (k := 3) (out := [.int .i64 d8.op, .string d8.act, .slice A2 n0 c97, .int .i64 y.o, .string y.a, .slice y.A y.n y.c]) uC sC nC rfl (fun zs hz => fill23 hz) rfl dC dC dC dC fun t6 => ?_)
  refine g1 ?_
  have j5 : x.t = .mk 6 x.a [i4, d8] := by rw [← two_list j3 e5 e7]; exact congrArg (fun o => Tree.mk o x.a x.l) (by assumption)
  have e3 := e2.size
  have i7 : sizeL [d8, y.t] ≤ 1000000 := by rw [j5] at e3; simp only [Tree.size, sizeL] at e3 ⊢; omega
  refine tR 0 (r := rTree) (ys := [d8, y.t]) (Reps.cons (r := rTree) (c := [_, _, _]) (rTree_mk (t := d8) h8) (.single (rTree_mk (t := y.t) d0))) fun H4 h5 b4 => ?_
  have ⟨h6, b9, h9, b8, h8, d0, hl⟩ := mo7 h5 h6 b9 h9 b8 h8 d0 hl
  refine oI 10 rfl kR (fP hD rfl call117 rfl (c117 b4 i7) ?_)
  rintro v0 H1 ⟨o5, a5, A5, n5, c5, l5, rfl, k7, k5⟩ h4
  have ⟨h6, b9, h9, b8, h8, d0, b4, hl⟩ := mo8 h4 h6 b9 h9 b8 h8 d0 b4 hl
  refine ta_next (kG (h5.trans h4)) ?_
  refine g1 ?_
  refine sG 0 ?_
  refine sG 1 ?_
  exact jN (e4 i4.op i4.act A6 n2 c85 i4.l o5 a5 A5 n5 c5 l5 H1 (h5.trans h4) h9 k7 (e2.trans (by have h := NormR.loop2 (a := i4) (b := d8) (c := y.t) (d := .mk o5 a5 l5) (e := noB) (f := x.a) (by rw [← j5]; exact e2.ok) k5; rw [← j5] at h; rw [← Tree.eta]; exact h)))
  exact jS (e4 x.o x.a x.A x.n x.c x.l y.o y.a y.A y.n y.c y.l H7 (Ghost.le.refl _) h6 d0 e2)
 refine ts 9 fun _ => ?_
 refine tj 0 ?_
 refine row_addr (i := 0) rfl oM fun k8 e6 => ?_
 subst e6
 refine tj 1 ?_
 refine tk 2 rfl kR aS nP kS (yLoadA (cs := [.int .i64 x.o, .string x.a, .slice x.A x.n x.c]) aC sC rfl (Mem.row (i := 0) rfl (tC_at hx)) rfl) rfl rfl rfl ?_
 refine g2 ?_
 refine tk 5 rfl kR aS nP kS (yLoadA (cs := [.int .i64 y.o, .string y.a, .slice y.A y.n y.c]) aC sC rfl (Mem.row (i := 0) rfl (tC_at hy)) rfl) rfl rfl rfl ?_
 refine tm2 6 7 ?_ ?_
 refine tAlloc zC dC fun i6 => ?_
 refine g1 ?_
 refine oI 7 rfl kR (tAlloc zC dC fun j2 => ?_)
 refine g1 ?_
 refine oI 8 rfl kR (tStoreA (i := 1) (cs := [.int .i64 x.o, .string x.a, .slice x.A x.n x.c]) rfl sC rfl rfl rfl rfl oC nL ?_)
 refine g2 ?_
 refine sG 0 ?_
 exact TK.nil (wP [1, 0, 3, 4] [2] 5 (f8 i6 j2))
 refine tAlloc zC dC fun j7 => ?_
 refine g1 ?_
 refine oI 6 rfl kR (tAlloc zC dC fun i8 => ?_)
 refine g1 ?_
 refine oI 8 rfl kR (tStoreA (i := 0) (cs := [.int .i64 x.o, .string x.a, .slice x.A x.n x.c]) rfl sC rfl rfl rfl rfl oC nL ?_)
 refine g2 ?_
 refine sG 1 ?_
 exact jN (f8 i8 j7)
 refine g6a ?_
 intros
 refine tR 0 hr fun H2 e1 h7 => ?_
 have hl := hl.mono e1
 have n9 := op_of hok (by assumption) (by assumption) (by assumption)
 refine sq rfl (fP hD rfl call117 rfl (c117 h7 (by have := e0.size; have := Tree.size_l t; omega)) ?_)
 rintro v1 H3 ⟨o7, a7, A7, n7, c7, l7, rfl, l9, l6⟩ d4
 have ⟨h7, hl⟩ := mo2 d4 h7 hl
 refine sG 0 ?_
 refine g1 ?_
 refine rC 0 [] results70 ?_
 exact ⟨rfl, _, _, _, _, _, l7, rfl, l9, (by have h := JoinR.tree n9 (a := t.act) e0 (by rw [← Tree.eta]; exact hok) l6; rwa [← Tree.eta] at h)⟩
theorem c70 : ∀ (N : Nat) (t : Tree) (H : Ghost) (cx : LV), t.size < N → N ≤ 401 → okT t = true → rTree.rel H t cx → Ct PP 70 #[.agg cx.toArray] H [] (NR t)
 | 0, _, _, _, h, _, _, _ => absurd h (Nat.not_lt_zero _)
 | N + 1, t, H, cx, h, hN, h4, h1 => by
  obtain ⟨A, n, c, rfl, hl⟩ := rTree_dest h1
  exact c70s (N := N) (fun t H cx h h4 h1 => c70 N t H cx h oM h4 h1) oM oM h4 hl
theorem c30 {t : Tree} (hl : Sl rTree H t.l A n c) : Ct PP 30 #[.agg #[.int .i64 t.op, .string t.act, .slice A n c]] H [] fun v H' O' => O' = [] ∧ ∃ o a A n c e, v = .tuple #[.agg #[.int .i64 o, .string a, .slice A n c], .int .i64 e] ∧ (e ≠ 0 ∨ e = 0 ∧ ∃ l, Sl rTree H' l A n c ∧ NormR t (.mk o a l) ∧ validT (.mk o a l) = true) := by
 refine cB func30 ntmps30 fun I hD hI b6 => ?_
 refine g2a ?_
 intros
 refine bG fun b2 => ?_
 refine aL fun b3 => ?_
 refine g6b ?_
 intros
 refine sq rfl (fS hD rfl call29 rfl (c29 (t := t) hl) ?_)
 rintro v6 rfl
 refine g2 ?_
 refine cN ?_ ?_ <;> intro h8
 refine g3a ?_
 intros
 refine sG 0 ?_
 refine g2 ?_
 refine rD 0 [] results30 ?_
 exact ⟨rfl, _, _, _, _, _, _, rfl, .inl dC⟩
 have h6 : validT t = true := by simpa using h8
 refine g4a ?_
 intros
 refine sq rfl (fP hD rfl call70 rfl (c70 401 t _ _ (by have := validT_size h6; omega) (Nat.le_refl _) (validT_ok h6) (rTree_mk (t := t) hl)) ?_)
 rintro v1 H0 ⟨o1, a1, A1, n1, c1, l1, rfl, h7, b4⟩ h4
 have hl := hl.mono h4
 refine aL fun b5 => ?_
 refine sG 0 ?_
 refine g5b ?_
 intros
 refine sq rfl (fS hD rfl call29 rfl (c29 (t := (.mk o1 a1 l1)) h7) ?_)
 rintro v0 rfl
 refine g2 ?_
 refine cN ?_ ?_ <;> intro h5
 refine g3a ?_
 intros
 refine sG 1 ?_
 refine g2 ?_
 refine rD 1 [] results30 ?_
 exact ⟨rfl, _, _, _, _, _, _, rfl, .inl dC⟩
 have h9 : validT (.mk o1 a1 l1) = true := by simpa using h5
 refine g4a ?_
 intros
 refine sG 1 ?_
 refine g2 ?_
 refine rD 1 [] results30 ?_
 exact ⟨rfl, _, _, _, _, _, _, rfl, .inr ⟨rfl, l1, h7, b4, h9⟩⟩
theorem c11 (hl : Sl rVariant H lv A n c) (hvv : validVs lv = true) : Ct PP 11 #[.slice A n c] H [] fun v H' O' => O' = [] ∧ ∃ o a A n c e, v = .tuple #[.agg #[.int .i64 o, .string a, .slice A n c], .int .i64 e] ∧ (e = 5 ∧ o = 0 ∧ n = 0 ∨ e = 0 ∧ ∃ l, Sl rTree H' l A n c ∧ validT (.mk o a l) = true ∧ TreeOf lv (.mk o a l)) := by
 refine cB func11 ntmps11 fun I hD hI e8 => ?_
 refine g2a ?_
 intros
 refine aL fun b2 => ?_
 refine g6b ?_
 intros
 refine sq rfl (fS hD rfl call9 rfl (c9 hl) ?_)
 rintro v5 rfl
 refine g2 ?_
 refine cN ?_ ?_ <;> intro d0
 exfalso; rw [hvv] at d0; cases d0
 refine g5b ?_
 intros
 refine sq rfl (fP hD rfl call10 rfl (c10 hl hvv) ?_)
 rintro v4 H9 ⟨A0, k0, c0, y0, e0, rfl, d7, d6⟩ b4
 have hl := hl.mono b4
 refine g11a ?_
 intros
 refine cN ?_ ?_ <;> intro b8
 have e1 : ¬ e0 = 0 := by simpa using b8
 have b7 : e0 = 5 := by rcases d6 with h | h <;> first | exact h.1 | exact absurd h.1 e1
 refine g4a ?_
 intros
 refine sG 0 ?_
 refine g2 ?_
 refine rD 0 [] results11 ?_
 exact ⟨rfl, _, _, _, _, _, _, rfl, .inl ⟨b7, rfl, rfl⟩⟩
 refine g4a ?_
 intros
 have e5 := hl.len
 have d4 := (validVs_iff.1 hvv).1
 refine sq rfl (fP hD rfl call28 rfl (c28 hl oM) ?_)
 rintro v2 H1 ⟨B8, d8, rfl, h5⟩ h6
 have hl := hl.mono h6
 refine sq rfl (fP hD rfl call27 rfl (c27 _ (lv.map onceV) ((lv.map onceV).flatMap (·.acts)) _ _ _ _ (fun v hv s hs => List.mem_flatMap.2 ⟨v, hv, hs⟩) (Nat.lt_succ_self _) (validVs_onceA hvv) h5) ?_)
 rintro v3 H0 ⟨o9, a9, A9, n9, c9, e9, rfl, h9⟩ h4
 have ⟨hl, h5⟩ := mo2 h4 hl h5
 refine g3 ?_
 refine aL fun e4 => ?_
 refine sG 0 ?_
 refine g8b ?_
 intros
 refine cN ?_ ?_ <;> intro h7
 have c1 : ¬ e9 = 0 := by simpa using h7
 have b7 : e9 = 5 := h9.resolve_right (fun h => c1 h.1)
 refine g4a ?_
 intros
 refine sG 1 ?_
 refine g2 ?_
 refine rD 1 [] results11 ?_
 exact ⟨rfl, _, _, _, _, _, _, rfl, .inl ⟨b7, rfl, rfl⟩⟩
 have c1 : e9 = 0 := by simpa using h7
 obtain ⟨e6, l9, b5, b9⟩ := h9.resolve_left (fun h => by omega)
 refine g5b ?_
 intros
 refine sq rfl (fS hD rfl call29 rfl (c29 (t := (.mk o9 a9 l9)) b5) ?_)
 rintro v6 rfl
 refine g2 ?_
 refine cN ?_ ?_ <;> intro e3
 refine g3a ?_
 intros
 refine sG 1 ?_
 refine g2 ?_
 refine rD 1 [] results11 ?_
 exact ⟨rfl, _, _, _, _, _, _, rfl, .inl ⟨rfl, rfl, rfl⟩⟩
 refine g4a ?_
 intros
 refine sq rfl (fP hD rfl call30 rfl (c30 (t := .mk o9 a9 l9) b5) ?_)
 rintro v1 H2 ⟨o2, a2, A2, n2, c2, e2, rfl, h2⟩ h8
 have ⟨hl, h5, b5⟩ := mo3 h8 hl h5 b5
 refine g3 ?_
 refine aL fun f8 => ?_
 refine sG 0 ?_
 refine g8b ?_
 intros
 refine sB 43 ?_ ?_ <;> intro b6
 refine g9a ?_
 intros
 refine sG 2 ?_
 refine g2 ?_
 refine rD 2 [] results11 ?_
 exact ⟨rfl, _, _, _, _, _, _, rfl, .inl ⟨rfl, rfl, rfl⟩⟩
 have d3 : e2 = 0 := by simpa using b6
 obtain ⟨e7, l2, d1, d2, d5⟩ := h2.resolve_left (fun h => h d3)
 refine g1 ?_
 refine sqY rfl rfl rfl rfl (fS hD rfl call29 rfl (c29 (t := (.mk o2 a2 l2)) d1) ?_)
 rintro v0 rfl
 refine g3 ?_
 refine cN ?_ ?_ <;> intro d9
 refine g3a ?_
 intros
 refine sG 2 ?_
 refine g2 ?_
 refine rD 2 [] results11 ?_
 exact ⟨rfl, _, _, _, _, _, _, rfl, .inl ⟨rfl, rfl, rfl⟩⟩
 refine g4a ?_
 intros
 refine sG 2 ?_
 refine g2 ?_
 refine rD 2 [] results11 ?_
 exact ⟨rfl, _, _, _, _, _, _, rfl, .inr ⟨rfl, l2, d1, d5, ⟨fun s => (d2.leaf s).trans (b9.once.leaf s), fun v hv => d2.lang _ (b9.once.lang v hv)⟩⟩⟩
theorem sset_of (h : CpR id True ys L) (hs : ys.Pairwise leB) : SSet L := by
 have h1 : L.Pairwise leB := by
  have := h.sub
  rw [List.map_id, List.map_id] at this
  exact hs.sublist this
 refine ⟨h1, ?_⟩
 have ha := h.adj trivial
 rw [List.nodup_iff_pairwise_ne, List.pairwise_iff_getElem]
 rw [List.pairwise_iff_getElem] at h1
 intro i j hi hj h6 e
 have h2 := ha i L[i] L[i + 1] oM (List.getElem?_eq_getElem hi) (List.getElem?_eq_getElem oM)
 rcases Nat.lt_or_ge (i + 1) j with h3 | h3
 ·have h4 := h1 i (i + 1) hi oM oM
  have h5 := h1 (i + 1) j oM hj h3
  rw [← e] at h5
  exact h2 (leB_anti h4 h5)
 ·obtain rfl : j = i + 1 := by omega
  exact h2 e
def MA (t : Tree) : Value → Ghost → List HL → Prop := fun v H' O' => O' = [] ∧ ∃ A n c ys, v = .slice A n c ∧ Sl rStr H' ys A n c ∧ SSet ys ∧ (∀ s, s ∈ ys ↔ s ∈ leafs t) ∧ ys.length ≤ t.size
theorem leafsL_take {l : List Tree} {i : Nat} (h : l[i]? = some x) (s : BA) : s ∈ leafsL (l.take (i + 1)) ↔ s ∈ leafsL (l.take i) ∨ s ∈ leafs x := by
 rw [List.take_add_one, h, leafsL_mem, leafsL_mem]
 simp only [Option.toList_some, List.mem_append, List.mem_singleton]
 constructor
 ·rintro ⟨y, hy | rfl, hs⟩
  ·exact .inl ⟨y, hy, hs⟩
  ·exact .inr hs
 ·rintro (⟨y, hy, hs⟩ | hs)
  ·exact ⟨y, .inl hy, hs⟩
  ·exact ⟨x, .inr rfl, hs⟩
theorem sizeL_take {l : List Tree} {i : Nat} (h : l[i]? = some x) : sizeL (l.take (i + 1)) = sizeL (l.take i) + x.size := by
 rw [List.take_add_one, h, sizeL_append]; simp [sizeL]
theorem cpr_id (h : CpR id True ys L) (s : BA) : s ∈ L ↔ s ∈ ys := by
 have h1 := h.sub; have h2 := h.mem
 simp only [List.map_id] at h1 h2
 exact ⟨fun hs => h1.subset hs, fun hs => h2 s hs⟩
theorem acts_fin {t : Tree} {ys : LB} {xs : LB} (hx : ∀ s, s ∈ xs ↔ (t.op = 1 ∧ s = t.act) ∨ s ∈ leafsL t.l) (hp : ys.Perm xs) (h : CpR id True ys L) (s : BA) : s ∈ L ↔ s ∈ leafs t := by
 rw [cpr_id h, hp.mem_iff, hx, leafs_eq, List.mem_append]
 by_cases h1 : t.op = 1 <;> simp [h1]
theorem c13s {N : Nat} (ih : ∀ (t : Tree) (H : Ghost) (cx : LV), t.size < N → rTree.rel H t cx → Ct PP 13 #[.agg cx.toArray] H [] (MA t)) {t : Tree} (ht : t.size ≤ N) (hN : N ≤ 1000) (hl : Sl rTree H t.l A n c) : Ct PP 13 #[.agg #[.int .i64 t.op, .string t.act, .slice A n c]] H [] (MA t) := by
 have e9 := hl.len
 have e4 := Tree.size_l t
 have i5 := len_sizeL t.l
 refine cB func13 ntmps13 fun I hD hI j0 => ?_
 refine g2a ?_
 intros
 refine bG fun b2 => ?_
 refine g6a ?_
 intros
 refine TK.seq fun K5 d6 => ?_
 have d0 : ∀ (b4 : LB) (Ax : OA) (nx cx : Nat) (d3 : ∀ s, s ∈ b4 ↔ t.op = 1 ∧ s = t.act) (b8 : b4.length = nx ∧ nx ≤ 1), TK 30 I K5 [(1, .pointer (ad b2)), (3, .slice Ax nx cx)] H [.row 9 1 (.slice Ax nx cx) nx ((b4).map Value.string), .blk b2 37 [.int .i64 t.op, .string t.act, .slice A n c]] := by
  intro b4 Ax nx cx d3 b8
  refine d6 _ _ _ ?_
  refine g9b ?_
  intros
  refine lp1 (fun D f E H' O m => ∃ (i : Nat) (xs : LB) (Ay : OA) (ny cy : Nat), Ghost.le H H' ∧ (i ≤ n) ∧ (∀ s, s ∈ xs ↔ (t.op = 1 ∧ s = t.act) ∨ s ∈ leafsL (t.l.take i)) ∧ (xs.length = ny ∧ ny ≤ 1 + sizeL (t.l.take i)) ∧ m = n - i ∧ O = [.row 9 1 (.slice Ay ny cy) ny ((xs).map Value.string), f] ∧ E = (3, .slice Ay ny cy) :: (17, .int .i64 (i : Int)) :: D) [15, 16] [0, 1] ⟨0, b4, Ax, nx, cx, Ghost.le.refl _, Nat.zero_le _, (fun s => by rw [d3]; simp [leafsL]), ⟨b8.1, by simp [sizeL]; exact b8.2⟩, rfl, rfl, rfl⟩ ?_
  rintro _ _ _ _ ⟨i, xs, Ay, ny, cy, h6, hi, hx, e6, rfl, rfl, rfl⟩ _ b6
  have hl := hl.mono h6
  have f9 := sizeL_sub (List.take_sublist i t.l)
  refine g5b ?_
  intros
  refine cD ?_ ?_ <;> intro e5
  refine g5b ?_
  intros
  obtain ⟨d2, h4⟩ := eX hl i
  obtain ⟨i8, o4, d8, e1, c0, h9⟩ := hl.at_ h4
  obtain ⟨A3, n2, c31, rfl, h7⟩ := rTree_dest c0
  refine g2 ?_
  refine aL fun f8 => ?_
  refine sG 0 ?_
  refine g4 ?_
  refine sq rfl (fP hD rfl call13 rfl (ih d2 _ _ (by have := size_mem (mG h4); rw [Tree.size_l] at ht; omega) (rTree_mk (t := d2) h7)) ?_)
  rintro v1 H0 ⟨A1, n1, c1, y1, rfl, d1, e8, e2, i7⟩ h5
  have ⟨hl, h9, h7⟩ := mo3 h5 hl h9 h7
  have i6 := d1.len
  have d9 := size_mem (mG h4)
  refine sL hD 1 d1 fun A2 c38 n0 b5 => ?_
  obtain rfl := reps_eqS b5
  rw [← List.map_append]
  refine g5 ?_
  exact nK b6 ⟨i + 1, xs ++ y1, A2, ny + n1, c38, (h6.trans h5), oM, (fun s => by rw [List.mem_append, hx, leafsL_take h4, e2, or_assoc]), ⟨by rw [List.length_append]; omega, by rw [sizeL_take h4]; omega⟩, rfl, rfl, rfl⟩
  refine g4a ?_
  intros
  refine sq rfl (fT hD [0] [1] rfl call31 rfl (c31 (xs := xs) oM e6.1) ?_)
  rintro v2 O1 ⟨ys, rfl, d4, e0⟩
  refine g4a ?_
  intros
  have i4 := d4.length_eq
  refine sq rfl (fT hD [0] [1] rfl call32 rfl (c32 (T := ys) oM oM) ?_)
  rintro v0 O2 ⟨L3, B3, k3, c3, rfl, rfl, b7⟩
  refine g2 ?_
  refine row_len (i := 0) rfl fun e7 _ => ?_
  have d7 := b7.sub.length_le
  simp only [List.length_map] at d7 e7
  have d5 : ∀ s, s ∈ xs ↔ (t.op = 1 ∧ s = t.act) ∨ s ∈ leafsL t.l := by rw [List.take_of_length_le oM] at hx; exact hx
  refine tR 0 (r := rStr) (ys := L3) (strs L3) fun H1 h8 b9 => ?_
  have hl := hl.mono h8
  refine kP [] ?_
  refine rT results13 ?_
  exact ⟨rfl, _, _, _, L3, rfl, b9, sset_of b7 e0, acts_fin d5 d4 b7, by omega⟩
 refine g6a ?_
 intros
 refine cD ?_ ?_ <;> intro e3
 refine g4 ?_
 refine sq rfl (bS [.string t.act] fun i9 => ?_)
 refine newRow 9 1 ?_
 refine sq rfl (tAppend hD (i := 0) (news := [.string t.act]) rfl uC iC rfl dC rfl rfl (Mem.row (i := 1) rfl rfl) rfl oC oM oM dC fun A0 c55 => ?_)
 refine g1 ?_
 exact jN (d0 [t.act] A0 (0 + 1) c55 (fun s => ⟨fun h => ⟨by assumption, by simpa using h⟩, fun h => by simpa using h.2⟩) ⟨rfl, by omega⟩)
 refine newRow 9 1 ?_
 exact jS (d0 [] none 0 0 (fun s => ⟨fun h => by simp at h, fun h => absurd h.1 (by assumption)⟩) ⟨rfl, by omega⟩)
theorem c13 : ∀ (N : Nat) (t : Tree) (H : Ghost) (cx : LV), t.size < N → N ≤ 1000 → rTree.rel H t cx → Ct PP 13 #[.agg cx.toArray] H [] (MA t)
 | 0, _, _, _, h, _, _ => absurd h (Nat.not_lt_zero _)
 | N + 1, t, H, cx, h, hN, h1 => by
  obtain ⟨A, n, c, rfl, hl⟩ := rTree_dest h1
  exact c13s (N := N) (fun t H cx h h1 => c13 N t H cx h oM h1) oM oM hl
end
inductive RunA (mv : List Mv) : Int → LI → Int → Prop
 | nil {s : Int} : RunA mv s [] s
 | eps {s t u : Int} {w : LI} : (⟨s, t, -1⟩ : Mv) ∈ mv → RunA mv t w u → RunA mv s w u
 | sym {s t u c : Int} {w : LI} : (⟨s, t, c⟩ : Mv) ∈ mv → 0 ≤ c → RunA mv t w u → RunA mv s (c :: w) u
theorem RunA.trans {mv : List Mv} {a c : Int} (h : RunA mv a u b) (k : RunA mv b v c) : RunA mv a (u ++ v) c := by
 induction h with
 | nil => exact k
 | eps h1 _ ih => exact .eps h1 (ih k)
 | sym h1 h2 _ ih => exact .sym h1 h2 (ih k)
theorem RunA.map {mv mv' : List Mv} {f : Int → Int} (hm : ∀ s t c, (⟨s, t, c⟩ : Mv) ∈ mv → (⟨f s, f t, c⟩ : Mv) ∈ mv') {a : Int} {w : LI} (h : RunA mv a w b) : RunA mv' (f a) w (f b) := by
 induction h with
 | nil => exact .nil
 | eps h1 _ ih => exact .eps (hm _ _ _ h1) ih
 | sym h1 h2 _ ih => exact .sym (hm _ _ _ h1) h2 ih
theorem RunA.mono {mv mv' : List Mv} (hm : ∀ m ∈ mv, m ∈ mv') {a : Int} {w : LI} (h : RunA mv a w b) : RunA mv' a w b := RunA.map (f := id) (fun s t c h => hm _ h) h
theorem RunA.split {mv : List Mv} {c : Int} {u : LI} (h : RunA mv i (c :: u) f) : ∃ i1 i2, RunA mv i [] i1 ∧ (⟨i1, i2, c⟩ : Mv) ∈ mv ∧ 0 ≤ c ∧ RunA mv i2 u f := by
 generalize he : c :: u = z at h
 induction h with
 | nil => cases he
 | eps h1 _ ih => obtain ⟨i1, i2, e1, e2⟩ := ih he; exact ⟨i1, i2, .eps h1 e1, e2⟩
 | sym h1 h2 h3 _ => cases he; exact ⟨_, _, .nil, h1, h2, h3⟩
def AccA (a : Auto) (w : LI) : Prop := ∃ s ∈ a.start, ∃ f ∈ a.final, RunA a.moves s w f
def statesB (n : Int) (l : LI) : Bool := (l.all fun x => decide (0 ≤ x ∧ x < n)) && ascI l
def orI (a b : Int) : Int := if a = 0 then b else a
def cmpInt (x y : Int) : Int := if x < y then -1 else if y < x then 1 else 0
def cmpM (a b : Mv) : Int := orI (cmpInt a.src b.src) (orI (cmpInt a.sym b.sym) (cmpInt a.dst b.dst))
def ascM : List Mv → Bool
 | [] => true
 | [_] => true
 | x :: y :: r => decide (cmpM x y < 0) && ascM (y :: r)
def okMv (a : Auto) (m : Mv) : Bool := decide (0 ≤ m.src ∧ m.src < a.states ∧ 0 ≤ m.dst ∧ m.dst < a.states ∧ -1 ≤ m.sym ∧ m.sym < a.syms)
def validA (a : Auto) : Bool := decide (0 ≤ a.states ∧ a.states ≤ 2000 ∧ 0 ≤ a.syms ∧ a.syms ≤ 40) && decide (a.moves.length ≤ 20000) && statesB a.states a.start && statesB a.states a.final && a.moves.all (okMv a) && ascM a.moves
structure WfA (a : Auto) : Prop where
 st : 0 ≤ a.states ∧ a.states ≤ 10000
 sy : 0 ≤ a.syms ∧ a.syms ≤ 40
 len : a.moves.length ≤ 100000
 start : ∀ s ∈ a.start, 0 ≤ s ∧ s < a.states
 final : ∀ s ∈ a.final, 0 ≤ s ∧ s < a.states
 mv : ∀ m ∈ a.moves, okMv a m = true
theorem validA_wf (h : validA a = true) : WfA a := by
 unfold validA statesB at h
 simp only [Bool.and_eq_true, decide_eq_true_eq, List.all_eq_true] at h
 obtain ⟨⟨⟨⟨⟨h1, h2⟩, h3⟩, h4⟩, h5⟩, h6⟩ := h
 exact ⟨⟨h1.1, by omega⟩, ⟨h1.2.2.1, h1.2.2.2⟩, by omega, h3.1, h4.1, h5⟩
theorem okMv_iff : okMv a m = true ↔ 0 ≤ m.src ∧ m.src < a.states ∧ 0 ≤ m.dst ∧ m.dst < a.states ∧ -1 ≤ m.sym ∧ m.sym < a.syms := by unfold okMv; rw [decide_eq_true_eq]
def WordS (n : Int) (w : LI) : Prop := ∀ c ∈ w, 0 ≤ c ∧ c < n
structure RedR (a b : Auto) : Prop where
 valid : validA b = true
 syms : b.syms = a.syms
 acc : ∀ w, WordS a.syms w → AccA a w → AccA b w
theorem RunA.word {a : Auto} (h : WfA a) {t : Int} {w : LI} (hr : RunA a.moves s w t) : WordS a.syms w := by
 induction hr with
 | nil => intro c hc; simp at hc
 | eps _ _ ih => exact ih
 | sym h1 h2 _ ih =>
  intro c hc
  rcases List.mem_cons.1 hc with rfl | hc
  ·have := okMv_iff.1 (h.mv _ h1); exact ⟨h2, this.2.2.2.2.2⟩
  ·exact ih c hc
theorem AccA.word {a : Auto} (h : WfA a) {w : LI} (hr : AccA a w) : WordS a.syms w := by obtain ⟨_, _, _, _, hr⟩ := hr; exact hr.word h
structure Tab where
 syms : Int
 next : List LI
 fin : List Bool
def Tab.to (t : Tab) (i c : Int) : Int := (t.next.getD i.toNat []).getD c.toNat 0
def Tab.run (t : Tab) (i : Int) (w : LI) : Int := w.foldl t.to i
structure TabOk (t : Tab) : Prop where
 sy : 0 ≤ t.syms ∧ t.syms ≤ 40
 len : 1 ≤ t.next.length ∧ t.next.length ≤ 2000
 fin : t.fin.length = t.next.length
 row : ∀ r ∈ t.next, r.length = t.syms.toNat
 to : ∀ r ∈ t.next, ∀ x ∈ r, 0 ≤ x ∧ x < (t.next.length : Int)
def Tab.acc (t : Tab) (w : LI) : Prop := t.fin[(t.run 0 w).toNat]? = some true
theorem TabOk.to_lt {t : Tab} (h : TabOk t) {i c : Int} (hi : 0 ≤ i ∧ i < (t.next.length : Int)) (hc : 0 ≤ c ∧ c < t.syms) : 0 ≤ t.to i c ∧ t.to i c < (t.next.length : Int) := by
 unfold Tab.to
 have h1 : i.toNat < t.next.length := by omega
 rw [show t.next.getD i.toNat [] = t.next[i.toNat] by rw [List.getD_eq_getElem?_getD, List.getElem?_eq_getElem h1, Option.getD_some]]
 have h2 := h.row _ (List.getElem_mem h1)
 have h3 : c.toNat < t.next[i.toNat].length := by omega
 rw [List.getD_eq_getElem?_getD, List.getElem?_eq_getElem h3, Option.getD_some]
 exact h.to _ (List.getElem_mem h1) _ (List.getElem_mem h3)
theorem Tab.to_at {t : Tab} {i c : Nat} {r : LI} (hi : t.next[i]? = some r) (hc : r[c]? = some x) : t.to (i : Int) (c : Int) = x := by
 unfold Tab.to
 rw [Int.toNat_natCast, Int.toNat_natCast, show t.next.getD i [] = r by rw [List.getD_eq_getElem?_getD, hi, Option.getD_some], List.getD_eq_getElem?_getD, hc, Option.getD_some]
structure SubR (a : Auto) (t : Tab) : Prop where
 ok : TabOk t
 syms : t.syms = a.syms
 sets : ∃ S : List LI, S.length = t.next.length ∧ (∀ s0, S[0]? = some s0 → ∀ s ∈ a.start, s ∈ s0) ∧ (∀ l ∈ S, ∀ s ∈ l, ∀ u, (⟨s, u, -1⟩ : Mv) ∈ a.moves → u ∈ l) ∧
  (∀ (i c : Nat) (l l' : LI), (c : Int) < a.syms → S[i]? = some l → S[(t.to i c).toNat]? = some l' → ∀ s ∈ l, ∀ u, (⟨s, u, (c : Int)⟩ : Mv) ∈ a.moves → u ∈ l') ∧
  ∀ (i : Nat) (l : LI), S[i]? = some l → (∃ s ∈ l, s ∈ a.final) → t.fin[i]? = some true
theorem SubR.acc {a : Auto} {t : Tab} (h : SubR a t) {w : LI} (hw : WordS a.syms w) (ha : AccA a w) : t.acc w := by
 obtain ⟨S, hl, h0, h8, b5, h5⟩ := h.sets
 obtain ⟨s, hs, f, hf, hr⟩ := ha
 have k0 : ∀ {s u : Int} {w : LI}, RunA a.moves s w u → ∀ {i : Int} {l : LI}, 0 ≤ i ∧ i < (t.next.length : Int) → S[i.toNat]? = some l → s ∈ l → WordS a.syms w → ∃ l', 0 ≤ t.run i w ∧ t.run i w < (t.next.length : Int) ∧ S[(t.run i w).toNat]? = some l' ∧ u ∈ l' := by
  intro s u w hr
  induction hr with
  | nil => intro i l hi hl hs _; exact ⟨l, hi.1, hi.2, hl, hs⟩
  | eps h1 _ ih => intro i l hi hl hs hw; exact ih hi hl (h8 l (mG hl) _ hs _ h1) hw
  | @sym s x u c w h1 h2 _ ih =>
   intro i l hi h9 hs hw
   have hc := hw c (by simp)
   have b4 := h.ok.to_lt hi (c := c) (by rw [h.syms]; exact hc)
   obtain ⟨l', h6⟩ : ∃ l', S[(t.to i c).toNat]? = some l' := ⟨_, List.getElem?_eq_getElem oM⟩
   have e1 : ((i.toNat : Nat) : Int) = i := by omega
   have e2 : ((c.toNat : Nat) : Int) = c := by omega
   have hx := b5 i.toNat c.toNat l l' oM h9 (by rw [e1, e2]; exact h6) s hs x (by rw [e2]; exact h1)
   exact ih b4 h6 hx fun d hd => hw d (by simp [hd])
 have hlen := h.ok.len
 obtain ⟨l0, h7⟩ : ∃ l0, S[0]? = some l0 := ⟨_, List.getElem?_eq_getElem oM⟩
 obtain ⟨l', h1, h2, h3, h4⟩ := k0 hr (i := 0) (l := l0) oM h7 (h0 l0 h7 s hs) hw
 exact h5 _ l' h3 ⟨f, h4, hf⟩
structure ClassOk (t : Tab) (c : LI) : Prop where
 len : c.length = t.next.length
 fin : ∀ (i j : Nat) (x : Int), c[i]? = some x → c[j]? = some x → t.fin[i]? = t.fin[j]?
 to : ∀ (i j : Nat) (x : Int) (d : Int), c[i]? = some x → c[j]? = some x → 0 ≤ d → d < t.syms → c[(t.to i d).toNat]? = c[(t.to j d).toNat]?
structure MinR (t : Tab) (b : Auto) : Prop where
 valid : validA b = true
 syms : b.syms = t.syms
 order : ∃ (c order : LI), ClassOk t c ∧ (∀ x ∈ order, 0 ≤ x ∧ x < (t.next.length : Int)) ∧ b.start = [0] ∧ (∃ x0, order[0]? = some x0 ∧ c[x0.toNat]? = c[0]?) ∧
  (∀ (i : Nat) (x : Int), order[i]? = some x → t.fin[x.toNat]? = some true → (i : Int) ∈ b.final) ∧
  ∀ (i d : Nat) (x : Int), (d : Int) < t.syms → order[i]? = some x → ∃ (j : Nat) (y : Int), order[j]? = some y ∧ c[y.toNat]? = c[(t.to x d).toNat]? ∧ (⟨(i : Int), (j : Int), (d : Int)⟩ : Mv) ∈ b.moves
theorem MinR.acc {t : Tab} (ht : TabOk t) (h : MinR t b) {w : LI} (hw : WordS t.syms w) (ha : t.acc w) : AccA b w := by
 obtain ⟨c, o4, hc, h6, b5, ⟨x0, b6, b7⟩, h7, b8⟩ := h.order
 have k0 : ∀ {w : LI} {i : Nat} {x s : Int}, WordS t.syms w → o4[i]? = some x → 0 ≤ s ∧ s < (t.next.length : Int) → c[x.toNat]? = c[s.toNat]? → t.fin[(t.run s w).toNat]? = some true → ∃ f ∈ b.final, RunA b.moves (i : Int) w f := by
  intro w
  induction w with
  | nil =>
   intro i x s _ hx hs he hf
   have b4 := hc.len
   obtain ⟨y, hy⟩ : ∃ y, c[s.toNat]? = some y := ⟨_, List.getElem?_eq_getElem oM⟩
   exact ⟨i, h7 i x hx (by rw [hc.fin x.toNat s.toNat y (by rw [he, hy]) hy]; exact hf), .nil⟩
  | cons d w ih =>
   intro i x s hw hx hs he hf
   have hd := hw d (by simp)
   have b4 := hc.len
   obtain ⟨j, y, hy, h8, hm⟩ := b8 i d.toNat x oM hx
   have e2 : ((d.toNat : Nat) : Int) = d := by omega
   rw [e2] at h8 hm
   have b9 := h6 x (mG hx)
   obtain ⟨z, hz⟩ : ∃ y, c[s.toNat]? = some y := ⟨_, List.getElem?_eq_getElem oM⟩
   have h9 := hc.to x.toNat s.toNat z d (by rw [he, hz]) hz hd.1 hd.2
   rw [show ((x.toNat : Nat) : Int) = x by omega, show ((s.toNat : Nat) : Int) = s by omega] at h9
   obtain ⟨f, h5, h4⟩ := ih (fun e he => hw e (by simp [he])) hy (ht.to_lt hs hd) (h8.trans h9) hf
   exact ⟨f, h5, .sym hm hd.1 h4⟩
 have hlen := ht.len
 obtain ⟨f, h5, h4⟩ := k0 hw b6 (s := 0) oM b7 ha
 exact ⟨0, by rw [b5]; simp, f, h5, h4⟩
theorem RedR.of {a : Auto} {t : Tab} (h : SubR a t) (k : MinR t b) : RedR a b :=
 ⟨k.valid, k.syms.trans h.syms, fun w hw ha => k.acc h.ok (by rw [h.syms]; exact hw) (h.acc hw ha)⟩
def shiftI (l : LI) (k : Int) : LI := l.map fun x => x + k
def shiftM (l : List Mv) (k : Int) : List Mv := l.map fun m => ⟨m.src + k, m.dst + k, m.sym⟩
theorem run_shift {mv' : List Mv} (hm : ∀ m ∈ shiftM mv k, m ∈ mv') (h : RunA mv a w b) : RunA mv' (a + k) w (b + k) :=
 RunA.map (f := fun x => x + k) (fun s t c h => hm _ (List.mem_map.2 ⟨_, h, rfl⟩)) h
theorem acc_union {a b out : Auto} (h1 : ∀ m ∈ a.moves, m ∈ out.moves) (h2 : ∀ m ∈ shiftM b.moves a.states, m ∈ out.moves) (h3 : out.start = a.start ++ shiftI b.start a.states) (h4 : out.final = a.final ++ shiftI b.final a.states) (h : AccA a w ∨ AccA b w) : AccA out w := by
 rcases h with ⟨s, hs, f, hf, hr⟩ | ⟨s, hs, f, hf, hr⟩
 ·exact ⟨s, by rw [h3]; exact List.mem_append_left _ hs, f, by rw [h4]; exact List.mem_append_left _ hf, hr.mono h1⟩
 ·exact ⟨s + a.states, by rw [h3]; exact List.mem_append_right _ (List.mem_map.2 ⟨s, hs, rfl⟩), f + a.states, by rw [h4]; exact List.mem_append_right _ (List.mem_map.2 ⟨f, hf, rfl⟩), run_shift h2 hr⟩
theorem acc_concat {a b out : Auto} (h1 : ∀ m ∈ a.moves, m ∈ out.moves) (h2 : ∀ m ∈ shiftM b.moves a.states, m ∈ out.moves) (h3 : out.start = a.start) (h4 : out.final = shiftI b.final a.states) (h5 : ∀ x ∈ a.final, ∀ y ∈ b.start, (⟨x, y + a.states, -1⟩ : Mv) ∈ out.moves) (hu : AccA a u) (hv : AccA b v) : AccA out (u ++ v) := by
 obtain ⟨s, hs, f, hf, hr⟩ := hu
 obtain ⟨s', h6, f', h8, h7⟩ := hv
 exact ⟨s, by rw [h3]; exact hs, f' + a.states, by rw [h4]; exact List.mem_map.2 ⟨f', h8, rfl⟩, (hr.mono h1).trans (.eps (h5 f hf s' h6) (run_shift h2 h7))⟩
inductive StarW (A : LI → Prop) : LI → Prop
 | nil : StarW A []
 | cons {u v : LI} : A u → StarW A v → StarW A (u ++ v)
theorem acc_star {a out : Auto} (h1 : ∀ m ∈ a.moves, m ∈ out.moves) (h3 : out.start = [a.states]) (h4 : out.final = [a.states]) (h5 : ∀ y ∈ a.start, (⟨a.states, y, -1⟩ : Mv) ∈ out.moves) (h6 : ∀ y ∈ a.final, (⟨y, a.states, -1⟩ : Mv) ∈ out.moves) (h : StarW (AccA a) w) : AccA out w := by
 refine ⟨a.states, by rw [h3]; simp, a.states, by rw [h4]; simp, ?_⟩
 induction h with
 | nil => exact .nil
 | cons hu _ ih =>
  obtain ⟨s, hs, f, hf, hr⟩ := hu
  exact .eps (h5 s hs) ((hr.mono h1).trans (.eps (h6 f hf) ih))
theorem acc_shuffle {out : Auto} (ha : WfA a) (hb : WfA b) (h1 : ∀ x ∈ a.moves, ∀ j, 0 ≤ j → j < b.states → (⟨x.src * b.states + j, x.dst * b.states + j, x.sym⟩ : Mv) ∈ out.moves) (h2 : ∀ x ∈ b.moves, ∀ i, 0 ≤ i → i < a.states → (⟨i * b.states + x.src, i * b.states + x.dst, x.sym⟩ : Mv) ∈ out.moves) (h3 : ∀ i ∈ a.start, ∀ j ∈ b.start, i * b.states + j ∈ out.start ∨ j + i * b.states ∈ out.start) (h4 : ∀ i ∈ a.final, ∀ j ∈ b.final, i * b.states + j ∈ out.final ∨ j + i * b.states ∈ out.final) (hu : AccA a u) (hv : AccA b v) (hs : Shuf u v w) : AccA out w := by
 obtain ⟨s, h8, f, b5, b9⟩ := hu
 obtain ⟨s', b6, f', b4, b8⟩ := hv
 have k0 : ∀ {u v w : LI}, Shuf u v w → ∀ {i j : Int}, 0 ≤ i ∧ i < a.states → 0 ≤ j ∧ j < b.states → RunA a.moves i u f → RunA b.moves j v f' → RunA out.moves (i * b.states + j) w (f * b.states + f') := by
  intro u v w hs
  have h9 := ha.final f b5
  have b7 := hb.final f' b4
  induction hs with
  | nil =>
   intro i j hi hj h6 h5
   have e1 := RunA.map (f := fun x => x * b.states + j) (mv' := out.moves) (fun s t c hm => h1 _ hm j hj.1 hj.2) h6
   have e2 := RunA.map (f := fun x => f * b.states + x) (mv' := out.moves) (fun s t c hm => h2 _ hm f h9.1 h9.2) h5
   exact e1.trans e2
  | @left c u v w _ ih =>
   intro i j hi hj h6 h5
   obtain ⟨i1, i2, e1, e2, e3, e4⟩ := h6.split
   have := okMv_iff.1 (ha.mv _ e2)
   exact (RunA.map (f := fun x => x * b.states + j) (mv' := out.moves) (fun s t c hm => h1 _ hm j hj.1 hj.2) e1).trans (.sym (h1 _ e2 j hj.1 hj.2) e3 (ih ⟨this.2.2.1, this.2.2.2.1⟩ hj e4 h5))
  | @right c u v w _ ih =>
   intro i j hi hj h6 h5
   obtain ⟨i1, i2, e1, e2, e3, e4⟩ := h5.split
   have := okMv_iff.1 (hb.mv _ e2)
   exact (RunA.map (f := fun x => i * b.states + x) (mv' := out.moves) (fun s t c hm => h2 _ hm i hi.1 hi.2) e1).trans (.sym (h2 _ e2 i hi.1 hi.2) e3 (ih hi ⟨this.2.2.1, this.2.2.2.1⟩ h6 e4))
 have h7 := k0 hs (ha.start s h8) (hb.start s' b6) b9 b8
 have e1 : s * b.states + s' ∈ out.start := by
  rcases h3 s h8 s' b6 with h | h
  ·exact h
  ·rwa [Int.add_comm] at h
 have e2 : f * b.states + f' ∈ out.final := by
  rcases h4 f b5 f' b4 with h | h
  ·exact h
  ·rwa [Int.add_comm] at h
 exact ⟨_, e1, _, e2, h7⟩
theorem Shuf.map {α β : Type} (f : α → β) {u v w : List α} (h : Shuf u v w) : Shuf (u.map f) (v.map f) (w.map f) := by
 induction h with
 | nil => exact .nil
 | left _ ih => exact .left ih
 | right _ ih => exact .right ih
theorem LoopW.star {A B : Word → Prop} {f : BA → Int} {w : Word} (h : LoopW A B w) : ∃ u v, w = u ++ v ∧ A u ∧ StarW (fun x => ∃ p q, x = (p ++ q).map f ∧ B p ∧ A q) (v.map f) := by
 induction h with
 | one h => exact ⟨_, [], by simp, h, .nil⟩
 | @more u v w h1 h2 _ ih =>
  obtain ⟨x, y, rfl, hx, hy⟩ := ih
  refine ⟨u, v ++ (x ++ y), rfl, h1, ?_⟩
  rw [← List.append_assoc, List.map_append]
  exact .cons ⟨v, x, rfl, h2, hx⟩ hy
theorem StarW.mono {A B : LI → Prop} {w : LI} (h : StarW A w) (hA : ∀ w, A w → B w) : StarW B w := by
 induction h with
 | nil => exact .nil
 | cons h1 _ ih => exact .cons (hA _ h1) ih
section
open Go.Proofs.Tryz
attribute [local irreducible] TK Yl OpK AnyT wpList Code.wp
theorem c218d {x : Int} : CtD PP 218 #[.int .i64 x] H [] fun v H' O' => O' = [] ∧ v = .bool false := by
 refine cB func218 ntmps218 fun I hD hI h4 => ?_
 refine g11b ?_
 intros
 refine rT results218 ?_
 exact ⟨rfl, by simp⟩
theorem c188e {x y : Int} : CtD PP 188 #[.int .i64 x, .int .i64 y] H [] fun v H' O' => O' = [] ∧ v = .int .i64 (cmpInt x y) := by
 refine cB func188 ntmps188 fun I hD hI h6 => ?_
 refine g7b ?_
 intros
 refine sq rfl (fS hD rfl call218 rfl c218d ?_)
 rintro v3 rfl
 refine g5a ?_
 intros
 refine sq rfl (fS hD rfl call218 rfl c218d ?_)
 rintro v5 rfl
 refine g16d ?_
 intros
 refine g7b ?_
 intros
 refine cD ?_ ?_ <;> intro h4
 refine g4a ?_
 intros
 refine rT results188 ?_
 exact ⟨rfl, congrArg (Value.int .i64) (by unfold cmpInt; (try split) <;> (try split) <;> omega)⟩
 refine g8b ?_
 intros
 refine cD ?_ ?_ <;> intro h5
 refine g4a ?_
 intros
 refine rT results188 ?_
 exact ⟨rfl, congrArg (Value.int .i64) (by unfold cmpInt; (try split) <;> (try split) <;> omega)⟩
 refine g5a ?_
 intros
 refine rT results188 ?_
 exact ⟨rfl, congrArg (Value.int .i64) (by unfold cmpInt; (try split) <;> (try split) <;> omega)⟩
theorem c137 {x y : Mv} : CtD PP 137 #[.agg #[.int .i64 x.src, .int .i64 x.dst, .int .i64 x.sym], .agg #[.int .i64 y.src, .int .i64 y.dst, .int .i64 y.sym]] H [] fun v H' O' => O' = [] ∧ v = .int .i64 (cmpM x y) := by
 refine cB func137 ntmps137 fun I hD hI h6 => ?_
 refine g2a ?_
 intros
 refine bG fun b2 => ?_
 refine bG fun b3 => ?_
 refine g3a ?_
 intros
 refine ts 14 fun _ => ?_
 refine tj 0 ?_
 refine g3 ?_
 refine tj 5 ?_
 refine g3 ?_
 refine tj 10 ?_
 refine g3 ?_
 refine oI 4 rfl kR (fS hD rfl call188 rfl c188e ?_)
 rintro v6 rfl
 refine g1 ?_
 refine oI 9 rfl kR (fS hD rfl call188 rfl c188e ?_)
 rintro v7 rfl
 refine g2 ?_
 refine sq rfl (fS hD rfl call188 rfl c188e ?_)
 rintro v8 rfl
 refine sq rfl (tBSlice (k := 1) (out := [.int .i64 (cmpInt x.src y.src), .int .i64 (cmpInt x.sym y.sym), .int .i64 (cmpInt x.dst y.dst)]) uC sC nC rfl (fun zs hz => fillAll [.int .i64 (cmpInt x.src y.src), .int .i64 (cmpInt x.sym y.sym), .int .i64 (cmpInt x.dst y.dst)] zs hz) rfl dC dC dC dC fun b9 => ?_)
 refine tR 0 (repsI [cmpInt x.src y.src, cmpInt x.sym y.sym, cmpInt x.dst y.dst]) fun H0 h5 h4 => ?_
 refine sq rfl (fS hD rfl call187 rfl (c187 h4) ?_)
 rintro v0 rfl
 refine g2 ?_
 refine kP [] ?_
 refine rT results137 ?_
 exact ⟨rfl, congrArg (Value.int .i64) (by simp only [firstI, cmpM, orI]; split <;> (try split) <;> simp_all)⟩
theorem c136 {pl : Int} {l : LI} (hl : Sl rInt H l A n c) : Ct PP 136 #[.slice A n c, .int .i64 pl] H [] fun v H' O' => O' = [] ∧ v = .bool (statesB pl l) := by
 have hn := hl.2.2.1
 refine cB func136 ntmps136 fun I hD hI d2 => ?_
 refine g12c ?_
 intros
 refine lp0 (fun D E H' O m => ∃ (i : Nat), H = H' ∧ (i ≤ n) ∧ (∀ (j : Nat) (x : Int), j < i → l[j]? = some x → 0 ≤ x ∧ x < pl) ∧ (∀ (j : Nat) (x y : Int), j + 1 < i → l[j]? = some x → l[j + 1]? = some y → x < y) ∧ m = n - i ∧ O = [] ∧ E = (9, .int .i64 (i : Int)) :: D) [0, 1, 7, 8] [] ⟨0, rfl, Nat.zero_le _, upto_zero, (fun j _ _ hj => absurd hj oM), rfl, rfl, rfl⟩ ?_
 rintro _ _ _ _ ⟨i, rfl, hi, hp, hq, rfl, rfl, rfl⟩ _ h6
 refine g5b ?_
 intros
 refine cD ?_ ?_ <;> intro h7
 refine g6b ?_
 intros
 obtain ⟨c1, h4⟩ := eX hl i
 obtain ⟨d1, o4, b7, b4⟩ := hl.atI h4
 refine g10a ?_
 intros
 refine sD 16 ?_ ?_ <;> intro b5
 refine g18 ?_
 refine g5a ?_
 intros
 refine rT results136 ?_
 exact ⟨rfl, congrArg Value.bool (placesB_out h4 oM).symm⟩
 refine g5 ?_
 refine sD 21 ?_ ?_ <;> intro b9
 refine g18a ?_
 intros
 refine rT results136 ?_
 exact ⟨rfl, congrArg Value.bool (placesB_out h4 oM).symm⟩
 refine g3 ?_
 refine sD 24 ?_ ?_ <;> intro b6
 refine g3 ?_
 obtain ⟨c0, h5⟩ := Sl.ex hl (i := ((i : Int) - 1 : Int).toNat) oM
 obtain ⟨d0, o5, h9, b8⟩ := hl.atI h5
 refine g7 ?_
 refine cD ?_ ?_ <;> intro h8
 refine g4a ?_
 intros
 refine rT results136 ?_
 exact ⟨rfl, congrArg Value.bool (placesB_asc (i := i - 1) (by rw [show i - 1 = ((i : Int) - 1).toNat by omega]; exact h5) (by rw [show i - 1 + 1 = i by omega]; exact h4) oM).symm⟩
 refine g4 ?_
 exact nK h6 ⟨i + 1, rfl, oM, (upto_succ hp h4 oM), (ascI_succ hq (fun a b _ h1 h2 => by rw [show i - 1 = ((i : Int) - 1).toNat by omega, h5] at h1; rw [h4] at h2; cases h1; cases h2; omega)), rfl, rfl, rfl⟩
 refine g15 ?_
 exact nK h6 ⟨i + 1, rfl, oM, (upto_succ hp h4 oM), (ascI_succ hq (fun a b h0 => absurd h0 oM)), rfl, rfl, rfl⟩
 refine g5a ?_
 intros
 refine rT results136 ?_
 exact ⟨rfl, congrArg Value.bool (placesB_of (upto_all hp (by rw [hl.len]; omega)) (fun j x y hx hy => hq j x y (by have := (gE hy).1; have := hl.len; omega) hx hy)).symm⟩
theorem ascM_iff {l : List Mv} : ascM l = true ↔ ∀ (j : Nat) (x y : Mv), l[j]? = some x → l[j + 1]? = some y → cmpM x y < 0 := by
 induction l with
 | nil => simp [ascM]
 | cons a r ih =>
  cases r with
  | nil => simp [ascM]
  | cons b r =>
   simp only [ascM, Bool.and_eq_true, decide_eq_true_eq, ih]
   constructor
   ·rintro ⟨h1, h2⟩ j x y hx hy
    cases j with
    | zero => simp at hx hy; subst hx hy; exact h1
    | succ j => exact h2 j x y (by simpa using hx) (by simpa using hy)
   ·intro h
    exact ⟨h 0 a b rfl rfl, fun j x y hx hy => h (j + 1) x y (by simpa using hx) (by simpa using hy)⟩
def headA (a : Auto) : Bool := decide (0 ≤ a.states ∧ a.states ≤ 2000 ∧ 0 ≤ a.syms ∧ a.syms ≤ 40) && decide (a.moves.length ≤ 20000) && statesB a.states a.start && statesB a.states a.final
theorem validA_head (a : Auto) : validA a = (headA a && a.moves.all (okMv a) && ascM a.moves) := rfl
theorem validA_no (h : headA a = false) : validA a = false := by rw [validA_head, h]; rfl
theorem validA_mv {a : Auto} {i : Nat} (hm : a.moves[i]? = some m) (h : okMv a m = false) : validA a = false := by
 have : a.moves.all (okMv a) = false := List.all_eq_false.2 ⟨m, mG hm, by rw [h]; simp⟩
 rw [validA_head, this]; simp
theorem validA_asc {a : Auto} {i : Nat} (hx : a.moves[i]? = some x) (hy : a.moves[i + 1]? = some y) (h : ¬ cmpM x y < 0) : validA a = false := by
 have : ascM a.moves = false := by rw [Bool.eq_false_iff]; intro h2; exact h (ascM_iff.1 h2 i x y hx hy)
 rw [validA_head, this]; simp
theorem validA_yes (h1 : headA a = true) (h2 : ∀ (j : Nat) (x : Mv), a.moves[j]? = some x → okMv a x = true) (h3 : ∀ (j : Nat) (x y : Mv), a.moves[j]? = some x → a.moves[j + 1]? = some y → cmpM x y < 0) : validA a = true := by
 rw [validA_head, h1, ascM_iff.2 h3, show a.moves.all (okMv a) = true from List.all_eq_true.2 fun x hx => by obtain ⟨i, hi⟩ := List.getElem?_of_mem hx; exact h2 i x hi]; rfl
theorem ascM_succ {l : List Mv} {i : Nat} (h : ∀ (j : Nat) (x y : Mv), j + 1 < i → l[j]? = some x → l[j + 1]? = some y → cmpM x y < 0) (h2 : ∀ x y : Mv, 0 < i → l[i - 1]? = some x → l[i]? = some y → cmpM x y < 0) : ∀ (j : Nat) (x y : Mv), j + 1 < i + 1 → l[j]? = some x → l[j + 1]? = some y → cmpM x y < 0 := by
 intro j x y hj hx hy
 rcases Nat.lt_or_ge (j + 1) i with h4 | h4
 ·exact h j x y h4 hx hy
 ·obtain rfl : i = j + 1 := by omega
  exact h2 x y oM (by simpa using hx) hy
theorem upto_succ_t {α : Type} {p : α → Bool} {xs : List α} {i : Nat} {x : α} (h : ∀ (j : Nat) (y : α), j < i → xs[j]? = some y → p y = true) (hx : xs[i]? = some x) (hp : p x = true) : ∀ (j : Nat) (y : α), j < i + 1 → xs[j]? = some y → p y = true := upto_step h hx hp
theorem c83 {a : Auto} (h1 : Sl rInt H a.start A1 n1 k1) (h2 : Sl rInt H a.final A2 n2 k2) (h3 : Sl rMv H a.moves A3 n3 k3) : Ct PP 83 #[.agg #[.int .i64 a.states, .int .i64 a.syms, .slice A1 n1 k1, .slice A2 n2 k2, .slice A3 n3 k3]] H [] fun v H' O' => O' = [] ∧ v = .bool (validA a) := by
 have e1 := h3.len
 have e4 := h3.2.2.1
 refine cB func83 ntmps83 fun I hD hI e5 => ?_
 refine g2a ?_
 intros
 refine bG fun b2 => ?_
 refine g9b ?_
 intros
 refine sD 8 ?_ ?_ <;> intro e0
 refine g18 ?_
 refine g18 ?_
 refine g6a ?_
 intros
 refine kP [] ?_
 refine rT results83 ?_
 exact ⟨rfl, congrArg Value.bool (validA_no (by unfold headA; first | (rw [decide_eq_false oM]; rfl) | (rw [decide_eq_false (p := a.moves.length ≤ 20000) oM]; simp) | simp_all)).symm⟩
 refine g5 ?_
 refine sD 13 ?_ ?_ <;> intro e3
 refine g18 ?_
 refine g18a ?_
 intros
 refine g1 ?_
 refine kP [] ?_
 refine rT results83 ?_
 exact ⟨rfl, congrArg Value.bool (validA_no (by unfold headA; first | (rw [decide_eq_false oM]; rfl) | (rw [decide_eq_false (p := a.moves.length ≤ 20000) oM]; simp) | simp_all)).symm⟩
 refine g5 ?_
 refine sD 18 ?_ ?_ <;> intro e6
 refine g18 ?_
 refine g12a ?_
 intros
 refine g2 ?_
 refine kP [] ?_
 refine rT results83 ?_
 exact ⟨rfl, congrArg Value.bool (validA_no (by unfold headA; first | (rw [decide_eq_false oM]; rfl) | (rw [decide_eq_false (p := a.moves.length ≤ 20000) oM]; simp) | simp_all)).symm⟩
 refine g5 ?_
 refine sD 23 ?_ ?_ <;> intro d6
 refine g18 ?_
 refine g9a ?_
 intros
 refine kP [] ?_
 refine rT results83 ?_
 exact ⟨rfl, congrArg Value.bool (validA_no (by unfold headA; first | (rw [decide_eq_false oM]; rfl) | (rw [decide_eq_false (p := a.moves.length ≤ 20000) oM]; simp) | simp_all)).symm⟩
 refine g6 ?_
 refine sD 29 ?_ ?_ <;> intro b8
 refine g18a ?_
 intros
 refine g3 ?_
 refine kP [] ?_
 refine rT results83 ?_
 exact ⟨rfl, congrArg Value.bool (validA_no (by unfold headA; first | (rw [decide_eq_false oM]; rfl) | (rw [decide_eq_false (p := a.moves.length ≤ 20000) oM]; simp) | simp_all)).symm⟩
 refine g4 ?_
 refine sqY rfl rfl rfl rfl (fS hD rfl call136 rfl (c136 h1) ?_)
 rintro v2 rfl
 refine g3 ?_
 refine sB 37 ?_ ?_ <;> intro c1
 refine g12a ?_
 intros
 refine g1 ?_
 refine kP [] ?_
 refine rT results83 ?_
 exact ⟨rfl, congrArg Value.bool (validA_no (by unfold headA; first | (rw [decide_eq_false oM]; rfl) | (rw [decide_eq_false (p := a.moves.length ≤ 20000) oM]; simp) | simp_all)).symm⟩
 refine g4 ?_
 refine sqY rfl rfl rfl rfl (fS hD rfl call136 rfl (c136 h2) ?_)
 rintro v0 rfl
 refine g3 ?_
 refine cN ?_ ?_ <;> intro d8
 refine g4a ?_
 intros
 refine kP [] ?_
 refine rT results83 ?_
 exact ⟨rfl, congrArg Value.bool (validA_no (by unfold headA; first | (rw [decide_eq_false oM]; rfl) | (rw [decide_eq_false (p := a.moves.length ≤ 20000) oM]; simp) | simp_all)).symm⟩
 refine g10b ?_
 intros
 have d5 : headA a = true := by unfold headA; rw [decide_eq_true oM, decide_eq_true (p := a.moves.length ≤ 20000) oM]; simp_all
 refine lp1 (fun D f E H' O m => ∃ (i : Nat), H = H' ∧ (i ≤ n3) ∧ (∀ (j : Nat) (x : Mv), j < i → a.moves[j]? = some x → okMv a x = true) ∧ (∀ (j : Nat) (x y : Mv), j + 1 < i → a.moves[j]? = some x → a.moves[j + 1]? = some y → cmpM x y < 0) ∧ m = n3 - i ∧ O = [f] ∧ E = (48, .int .i64 (i : Int)) :: D) [1, 46, 47] [0] ⟨0, rfl, Nat.zero_le _, upto_nil, (fun j _ _ hj => absurd hj oM), rfl, rfl, rfl⟩ ?_
 rintro _ _ _ _ ⟨i, rfl, hi, hp, hq, rfl, rfl, rfl⟩ _ h6
 refine g5b ?_
 intros
 refine cD ?_ ?_ <;> intro b5
 refine g6b ?_
 intros
 obtain ⟨b4, h4⟩ := eX h3 i
 obtain ⟨e7, o4, _, c0, rfl, b6⟩ := h3.at_ h4
 refine g2 ?_
 refine aL fun e2 => ?_
 refine g1 ?_
 refine sG 0 ?_
 refine g2a ?_
 intros
 refine ts 45 fun _ => ?_
 refine tj 0 ?_
 refine g3 ?_
 refine sD 56 ?_ ?_ <;> intro b7
 refine tjN 4 ?_
 refine g18 ?_
 refine g18 ?_
 refine g12a ?_
 intros
 refine g3 ?_
 refine kP [] ?_
 refine rT results83 ?_
 exact ⟨rfl, congrArg Value.bool (validA_mv h4 (by unfold okMv; exact decide_eq_false oM)).symm⟩
 refine tjY 4 ?_
 refine g6 ?_
 refine sD 63 ?_ ?_ <;> intro d1
 refine tjN 11 ?_
 refine g18 ?_
 refine g18 ?_
 refine g8a ?_
 intros
 refine kP [] ?_
 refine rT results83 ?_
 exact ⟨rfl, congrArg Value.bool (validA_mv h4 (by unfold okMv; exact decide_eq_false oM)).symm⟩
 refine tjY 11 ?_
 refine g4 ?_
 refine sD 68 ?_ ?_ <;> intro b9
 refine tjN 16 ?_
 refine g18 ?_
 refine g18a ?_
 intros
 refine g3 ?_
 refine kP [] ?_
 refine rT results83 ?_
 exact ⟨rfl, congrArg Value.bool (validA_mv h4 (by unfold okMv; exact decide_eq_false oM)).symm⟩
 refine tjY 16 ?_
 refine g6 ?_
 refine sD 75 ?_ ?_ <;> intro h7
 refine tjN 23 ?_
 refine g18 ?_
 refine g12a ?_
 intros
 refine g2 ?_
 refine kP [] ?_
 refine rT results83 ?_
 exact ⟨rfl, congrArg Value.bool (validA_mv h4 (by unfold okMv; exact decide_eq_false oM)).symm⟩
 refine tjY 23 ?_
 refine g4 ?_
 refine sD 80 ?_ ?_ <;> intro h8
 refine tjN 28 ?_
 refine g18 ?_
 refine g9a ?_
 intros
 refine kP [] ?_
 refine rT results83 ?_
 exact ⟨rfl, congrArg Value.bool (validA_mv h4 (by unfold okMv; exact decide_eq_false oM)).symm⟩
 refine tjY 28 ?_
 refine g6 ?_
 refine sD 87 ?_ ?_ <;> intro d7
 refine tjN 35 ?_
 refine g18a ?_
 intros
 refine g2 ?_
 refine kP [] ?_
 refine rT results83 ?_
 exact ⟨rfl, congrArg Value.bool (validA_mv h4 (by unfold okMv; exact decide_eq_false oM)).symm⟩
 refine tjY 35 ?_
 refine g2 ?_
 refine sD 90 ?_ ?_ <;> intro d0
 refine tjY 38 ?_
 refine g3 ?_
 obtain ⟨d3, h5⟩ := Sl.ex h3 (i := ((i : Int) - 1 : Int).toNat) oM
 obtain ⟨d9, o5, _, h9, rfl, d2⟩ := h3.at_ h5
 refine tjY 42 ?_
 refine g3 ?_
 refine sqY rfl rfl rfl rfl (TK.callS (fun _ => trivial) rfl rfl (ent call137 rfl) (c137 (x := d3) (y := b4)) ?_)
 rintro v1 rfl
 refine g4 ?_
 refine cD ?_ ?_ <;> intro d4
 refine g4a ?_
 intros
 refine kP [] ?_
 refine rT results83 ?_
 exact ⟨rfl, congrArg Value.bool (validA_asc (i := i - 1) (by rw [show i - 1 = ((i : Int) - 1).toNat by omega]; exact h5) (by rw [show i - 1 + 1 = i by omega]; exact h4) oM).symm⟩
 refine g4 ?_
 exact nK h6 ⟨i + 1, rfl, oM, (upto_succ_t hp h4 (by unfold okMv; exact decide_eq_true oM)), (ascM_succ hq (fun a b _ h1 h2 => by rw [show i - 1 = ((i : Int) - 1).toNat by omega, h5] at h1; rw [h4] at h2; cases h1; cases h2; omega)), rfl, rfl, rfl⟩
 refine tjN 38 ?_
 refine g15 ?_
 refine g2 ?_
 exact nK h6 ⟨i + 1, rfl, oM, (upto_succ_t hp h4 (by unfold okMv; exact decide_eq_true oM)), (ascM_succ hq (fun a b h0 => absurd h0 oM)), rfl, rfl, rfl⟩
 refine g5a ?_
 intros
 refine kP [] ?_
 refine rT results83 ?_
 exact ⟨rfl, congrArg Value.bool (validA_yes d5 (fun j x hx => hp j x (by have := (gE hx).1; omega) hx) (fun j x y hx hy => hq j x y (by have := (gE hy).1; omega) hx hy)).symm⟩
end
end Go.Proofs.YtookcfeogbeooaaGreatDoor
namespace Go.Proofs
open Go.Shelf
def Tryz.laysM176_ren : Go.Shelf.Ren := ⟨fun | 176 => 284 | 249 => 300 | 288 => 305 | 283 => 307 | 284 => 308 | 285 => 309 | 286 => 310 | 129 => 128 | 317 => 311 | 318 => 312 | 319 => 313 | 320 => 314 | 337 => 315 | 338 => 316 | n => n, fun | 37 => 156 | 2 => 2 | 3 => 3 | 53 => 203 | 4 => 4 | 9 => 9 | 171 => 344 | 0 => 0 | 173 => 346 | 212 => 350 | 51 => 201 | 5 => 5 | 20 => 20 | 213 => 351 | 46 => 138 | 232 => 352 | 233 => 353 | n => n, fun | 17 => 1 | 18 => 2 | 19 => 3 | n => n⟩
theorem Tryz.laysM176 : Go.Proofs.LaysM.n176 Tryz.prog Tryz.laysM176_ren := {
 mixed := by kernel_rfl
 f129 := Tryz.func128.trans (congrArg some (by kernel_rfl))
 f176 := Tryz.func284.trans (congrArg some (by kernel_rfl))
 f249 := Tryz.func300.trans (congrArg some (by kernel_rfl))
 f283 := Tryz.func307.trans (congrArg some (by kernel_rfl))
 f284 := Tryz.func308.trans (congrArg some (by kernel_rfl))
 f285 := Tryz.func309.trans (congrArg some (by kernel_rfl))
 f286 := Tryz.func310.trans (congrArg some (by kernel_rfl))
 f288 := Tryz.func305.trans (congrArg some (by kernel_rfl))
 f317 := Tryz.func311.trans (congrArg some (by kernel_rfl))
 f318 := Tryz.func312.trans (congrArg some (by kernel_rfl))
 f319 := Tryz.func313.trans (congrArg some (by kernel_rfl))
 f320 := Tryz.func314.trans (congrArg some (by kernel_rfl))
 f337 := Tryz.func315.trans (congrArg some (by kernel_rfl))
 f338 := Tryz.func316.trans (congrArg some (by kernel_rfl))
 t0 := Tryz.underlying0
 a0 := Tryz.isAgg0
 z0 := Tryz.sizeOf0
 v0 := Tryz.zeroValue0
 t2 := Tryz.underlying2
 a2 := Tryz.isAgg2
 z2 := Tryz.sizeOf2
 v2 := Tryz.zeroValue2
 t3 := Tryz.underlying3
 a3 := Tryz.isAgg3
 z3 := Tryz.sizeOf3
 v3 := Tryz.zeroValue3
 t4 := Tryz.underlying4
 a4 := Tryz.isAgg4
 z4 := Tryz.sizeOf4
 v4 := Tryz.zeroValue4
 t5 := Tryz.underlying5
 a5 := Tryz.isAgg5
 z5 := Tryz.sizeOf5
 v5 := Tryz.zeroValue5
 t9 := Tryz.underlying9
 a9 := Tryz.isAgg9
 z9 := Tryz.sizeOf9
 v9 := Tryz.zeroValue9
 t20 := Tryz.underlying20
 a20 := Tryz.isAgg20
 z20 := Tryz.sizeOf20
 v20 := Tryz.zeroValue20
 t37 := Tryz.underlying156
 a37 := Tryz.isAgg156
 z37 := Tryz.sizeOf156
 v37 := Tryz.zeroValue156
 t46 := Tryz.underlying138
 a46 := Tryz.isAgg138
 z46 := Tryz.sizeOf138
 v46 := Tryz.zeroValue138
 t51 := Tryz.underlying201
 a51 := Tryz.isAgg201
 z51 := Tryz.sizeOf201
 v51 := Tryz.zeroValue201
 t53 := Tryz.underlying203
 a53 := Tryz.isAgg203
 z53 := Tryz.sizeOf203
 v53 := Tryz.zeroValue203
 t171 := Tryz.underlying344
 a171 := Tryz.isAgg344
 z171 := Tryz.sizeOf344
 v171 := Tryz.zeroValue344
 t173 := Tryz.underlying346
 a173 := Tryz.isAgg346
 z173 := Tryz.sizeOf346
 v173 := Tryz.zeroValue346
 t212 := Tryz.underlying350
 a212 := Tryz.isAgg350
 z212 := Tryz.sizeOf350
 v212 := Tryz.zeroValue350
 t213 := Tryz.underlying351
 a213 := Tryz.isAgg351
 z213 := Tryz.sizeOf351
 t232 := Tryz.underlying352
 a232 := Tryz.isAgg352
 z232 := Tryz.sizeOf352
 v232 := Tryz.zeroValue352
 t233 := Tryz.underlying353
 a233 := Tryz.isAgg353
 z233 := Tryz.sizeOf353
 v233 := Tryz.zeroValue353
 g17 := by kernel_rfl
 g18 := by kernel_rfl
 g19 := by kernel_rfl
 i0 := by kernel_rfl
 i2 := by kernel_rfl
 i3 := by kernel_rfl
 i4 := by kernel_rfl
 i5 := by kernel_rfl
 i9 := by kernel_rfl
 i20 := by kernel_rfl
 i37 := by kernel_rfl
 i46 := by kernel_rfl
 i51 := by kernel_rfl
 i53 := by kernel_rfl
 i171 := by kernel_rfl
 i173 := by kernel_rfl
 i212 := by kernel_rfl
 i232 := by kernel_rfl
 i233 := by kernel_rfl
 m17 := by kernel_rfl
 m18 := by kernel_rfl
 m19 := by kernel_rfl }
end Go.Proofs

