/-
Automata of mixed words. Automata of trees; automata in rows. The activities of a tree, by a map. Automata of trees. Words that a tree accepts, by its automaton.
Conditions: those that each theorem states.
-/
import Derived.Test.YtookcfeogbeooaaGreatDoorM24
set_option linter.all false
set_option maxRecDepth 100000
set_option maxHeartbeats 8000000
set_option autoImplicit true
set_option relaxedAutoImplicit true
namespace Go.Proofs.YtookcfeogbeooaaGreatDoor
open Go Go.Proofs
section
open Go.Proofs.Tryz
attribute [local irreducible] TK Yl OpK AnyT wpList Code.wp
theorem mvC_rowL {K : List Mv} : mvC (K ++ rowL x m k) ++ [.int .i64 (x.src * m + k), .int .i64 (x.dst * m + k), .int .i64 x.sym] = mvC (K ++ rowL x m (k + 1)) := by rw [mvC_snoc, List.append_assoc, rowL_succ]
theorem mvC_rowR {K : List Mv} : mvC (K ++ rowR x m k) ++ [.int .i64 ((k : Int) * m + x.src), .int .i64 ((k : Int) * m + x.dst), .int .i64 x.sym] = mvC (K ++ rowR x m (k + 1)) := by rw [mvC_snoc, List.append_assoc, rowR_succ]
theorem shufR_app {K l : List Mv} {i : Nat} (h : l[i]? = some x) : K ++ shufR (l.take i) m k ++ rowR x m k = K ++ shufR (l.take (i + 1)) m k := by rw [List.append_assoc, shufR_succ h]
theorem c135 (hT : TabH H) (hva : validA a = true) (hvb : validA b = true) (hs : a.syms = b.syms) (h1 : Sl rInt H a.start A1 n1 k1) (h2 : Sl rInt H a.final A2 n2 k2) (h3 : Sl rMv H a.moves A3 n3 k3) (h1b : Sl rInt H b.start A1b n1b k1b) (h2b : Sl rInt H b.final A2b n2b k2b) (h3b : Sl rMv H b.moves A3b n3b k3b) : Ct PP 135 #[.agg #[.int .i64 a.states, .int .i64 a.syms, .slice A1 n1 k1, .slice A2 n2 k2, .slice A3 n3 k3], .agg #[.int .i64 b.states, .int .i64 b.syms, .slice A1b n1b k1b, .slice A2b n2b k2b, .slice A3b n3b k3b]] H [] (AutO (OpR a.syms (fun w => ∃ u v, Shuf u v w ∧ AccA a u ∧ AccA b v))) := by
 have va := validA_all hva
 have vb := validA_all hvb
 have wa := validA_wf hva
 have wb := validA_wf hvb
 have u3 := h1.len
 have t2 := h2.len
 have l4 := h3.len
 have o8 := h1b.len
 have s5 := h2b.len
 have e1 := h3b.len
 obtain ⟨n, hn⟩ := Int.eq_ofNat_of_zero_le va.1.1
 obtain ⟨m, hm⟩ := Int.eq_ofNat_of_zero_le vb.1.1
 refine cB func135 ntmps135 fun I hD hI u4 => ?_
 refine g2a ?_
 intros
 refine bG fun b2 => ?_
 refine bG fun b3 => ?_
 refine aL fun b4 => ?_
 refine g4b ?_
 intros
 refine tSeal (i := 2) rfl fun H7 j5 h6 => ?_
 have ⟨h1, h2, h3, h1b, h2b, h3b, hT⟩ := mo7 j5 h1 h2 h3 h1b h2b h3b hT
 refine tSeal (i := 1) rfl fun H0 d9 h4 => ?_
 have ⟨h1, h2, h3, h1b, h2b, h3b, h6, hT⟩ := mo8 d9 h1 h2 h3 h1b h2b h3b h6 hT
 refine g3 ?_
 refine sq rfl (fS hD rfl call182 rfl (c182 hva hvb hs h1 h2 h3 h1b h2b h3b) ?_)
 rintro v3 rfl
 refine g7a ?_
 intros
 refine cN ?_ ?_ <;> intro j4
 exfalso; simp [hs] at j4
 refine g2a ?_
 intros
 refine ts 6 fun _ => ?_
 refine tj 0 ?_
 refine g9b ?_
 intros
 have l9 := mul_rg va.1 vb.1
 have u0 := mul_rg (x := (n3 : Int)) (y := b.states) (n := 20000) oM vb.1
 have t6 := mul_rg (x := (n3b : Int)) (y := a.states) (n := 20000) oM va.1
 refine g6 ?_
 refine sD 35 ?_ ?_ <;> intro n9
 refine g18a ?_
 intros
 refine sG 0 ?_
 refine g2 ?_
 refine rD 0 [] results135 ?_
 exact ⟨rfl, ⟨0, 0, [], [], []⟩, _, _, _, _, _, _, _, _, _, _, rfl, .inl rfl⟩
 refine g12 ?_
 refine g2 ?_
 refine cD ?_ ?_ <;> intro r6
 refine g3a ?_
 intros
 refine sG 0 ?_
 refine g2 ?_
 refine rD 0 [] results135 ?_
 exact ⟨rfl, ⟨0, 0, [], [], []⟩, _, _, _, _, _, _, _, _, _, _, rfl, .inl rfl⟩
 refine g9a ?_
 intros
 refine aL fun d8 => ?_
 refine sG 0 ?_
 refine g3b ?_
 intros
 refine newRow 3 1 ?_
 refine newRow 3 1 ?_
 refine newRow 166 3 ?_
 refine eO5 (fun _ _ _ e3 e4 => [.row 166 3 (.slice none 0 0) 0 (mvC (shufL (a.moves.take 0) b.states m)), .row 3 1 (.slice none 0 0) 0 ((shufS (a.final.take 0) b.final b.states).map fun x => Value.int .i64 x), .row 3 1 (.slice none 0 0) 0 ((shufS (a.start.take 0) b.start b.states).map fun x => Value.int .i64 x), e3, e4]) ?_
 have e2 : (n3 : Int) * b.states + (n3b : Int) * a.states ≤ 40000 := by omega
 rw [hm, hn] at e2
 have hlen : n3 * m + n3b * n ≤ 40000 := by omega
 refine g7 ?_
 refine lp3 (fun D f f1 f2 E H O m' => ∃ (i : Nat) (Aw : OA) (nw cw : Nat), H0 = H ∧ (i ≤ n3) ∧ (nw = i * m) ∧ m' = n3 - i ∧ O = [.row 166 3 (.slice Aw nw cw) nw (mvC (shufL (a.moves.take i) b.states m)), f, f1, .blk d8 84 [.int .i64 (a.states * b.states), .int .i64 a.syms, .slice none 0 0, .slice none 0 0, .slice Aw nw cw], f2] ∧ E = (59, .int .i64 (i : Int)) :: D) [2, 3, 4, 7, 8, 9, 57, 58] [0, 1, 2, 3, 4] ⟨0, none, 0, 0, rfl, Nat.zero_le _, oM, rfl, rfl, rfl⟩ ?_
 rintro _ _ _ _ ⟨i, Aw, nw, cw, rfl, hi, j9, rfl, rfl, rfl⟩ _ j1
 have t1 := Nat.mul_le_mul_right m hi
 refine g5b ?_
 intros
 refine cD ?_ ?_ <;> intro l5
 refine g5b ?_
 intros
 obtain ⟨d5, d0⟩ := eX h3 i
 obtain ⟨t9, u2, _, s4, rfl, r9⟩ := h3.at_ d0
 refine g2 ?_
 refine aL fun s9 => ?_
 refine sG 0 ?_
 refine g2a ?_
 intros
 have n8 := okMv_iff.1 (wa.mv _ (mG d0))
 have q1 := mul_rg (x := d5.src) (y := b.states) (n := 2000) oM vb.1
 have q2 := mul_rg (x := d5.dst) (y := b.states) (n := 2000) oM vb.1
 refine g5 ?_
 refine eO6 (fun e0 _ _ _ e4 e5 => [e0, .row 166 3 (.slice Aw nw cw) nw (mvC (shufL (a.moves.take i) b.states m ++ rowL d5 b.states 0)), .row 3 1 (.slice none 0 0) 0 ((shufS (a.final.take 0) b.final b.states).map fun x => Value.int .i64 x), .row 3 1 (.slice none 0 0) 0 ((shufS (a.start.take 0) b.start b.states).map fun x => Value.int .i64 x), e4, e5]) ?_ (he := by simp [rowL])
 refine lp4 (fun D f f1 f2 f3 E H O m' => ∃ (j : Nat) (Av : OA) (n4 cv : Nat), H0 = H ∧ (j ≤ m) ∧ (n4 = nw + j) ∧ m' = m - j ∧ O = [f, .row 166 3 (.slice Av n4 cv) n4 (mvC (shufL (a.moves.take i) b.states m ++ rowL d5 b.states j)), f1, f2, .blk d8 84 [.int .i64 (a.states * b.states), .int .i64 a.syms, .slice none 0 0, .slice none 0 0, .slice Av n4 cv], f3] ∧ E = (64, .int .i64 (j : Int)) :: D) [2, 3, 4, 7, 8, 9, 11, 57, 58, 59, 63] [0, 1, 2, 3, 4, 5] ⟨0, Aw, nw, cw, rfl, Nat.zero_le _, oM, rfl, rfl, rfl⟩ ?_
 rintro _ _ _ _ ⟨j, Av, n4, cv, rfl, hj, o4, rfl, rfl, rfl⟩ _ j7
 refine g5b ?_
 intros
 refine cD ?_ ?_ <;> intro s0
 refine g12b ?_
 intros
 refine g12 ?_
 refine g2 ?_
 refine sq rfl (bS [.int .i64 ((d5.src * b.states) + (j : Int)), .int .i64 ((d5.dst * b.states) + (j : Int)), .int .i64 d5.sym] fun s8 => ?_)
 refine sq rfl (aR 2 fun A6 c62 => ?_)
 refine g1 ?_
 refine sU 5 ?_
 refine g4 ?_
 rw [mvC_rowL]
 exact nK j7 ⟨j + 1, A6, n4 + 1, c62, rfl, oM, oM, rfl, rfl, rfl⟩
 refine g4 ?_
 have l8 : j = m := by omega
 rw [l8, shufL_succ d0]
 exact nK j1 ⟨i + 1, Av, n4, cv, rfl, oM, (by rw [Nat.add_mul]; omega), rfl, rfl, rfl⟩
 refine g10b ?_
 intros
 have l7 : i = n3 := by omega
 rw [l7] at j9
 have n7 : a.moves.take i = a.moves := List.take_of_length_le oM
 refine eO5 (fun _ _ _ e3 e4 => [.row 166 3 (.slice Aw nw cw) nw (mvC (shufL a.moves b.states m ++ shufR (b.moves.take 0) b.states n)), .row 3 1 (.slice none 0 0) 0 ((shufS (a.final.take 0) b.final b.states).map fun x => Value.int .i64 x), .row 3 1 (.slice none 0 0) 0 ((shufS (a.start.take 0) b.start b.states).map fun x => Value.int .i64 x), e3, e4]) ?_ (he := by rw [n7]; simp [shufR])
 refine lp3 (fun D f f1 f2 E H O m' => ∃ (p : Nat) (Ax : OA) (nx cx : Nat), H0 = H ∧ (p ≤ n3b) ∧ (nx = nw + p * n) ∧ m' = n3b - p ∧ O = [.row 166 3 (.slice Ax nx cx) nx (mvC (shufL a.moves b.states m ++ shufR (b.moves.take p) b.states n)), f, f1, .blk d8 84 [.int .i64 (a.states * b.states), .int .i64 a.syms, .slice none 0 0, .slice none 0 0, .slice Ax nx cx], f2] ∧ E = (92, .int .i64 (p : Int)) :: D) [2, 3, 4, 7, 8, 9, 90, 91] [0, 1, 2, 3, 4] ⟨0, Aw, nw, cw, rfl, Nat.zero_le _, oM, rfl, rfl, rfl⟩ ?_
 rintro _ _ _ _ ⟨p, Ax, nx, cx, rfl, hp, s3, rfl, rfl, rfl⟩ _ j2
 have t8 := Nat.mul_le_mul_right n hp
 refine g5b ?_
 intros
 refine cD ?_ ?_ <;> intro s2
 refine g5b ?_
 intros
 obtain ⟨e6, d1⟩ := eX h3b p
 obtain ⟨t7, t5, _, o9, rfl, r5⟩ := h3b.at_ d1
 refine g2 ?_
 refine aL fun t3 => ?_
 refine sG 0 ?_
 refine g2a ?_
 intros
 have n8 := okMv_iff.1 (wb.mv _ (mG d1))
 refine g5 ?_
 refine eO6 (fun e0 _ _ _ e4 e5 => [e0, .row 166 3 (.slice Ax nx cx) nx (mvC (shufL a.moves b.states m ++ shufR (b.moves.take p) b.states n ++ rowR e6 b.states 0)), .row 3 1 (.slice none 0 0) 0 ((shufS (a.final.take 0) b.final b.states).map fun x => Value.int .i64 x), .row 3 1 (.slice none 0 0) 0 ((shufS (a.start.take 0) b.start b.states).map fun x => Value.int .i64 x), e4, e5]) ?_ (he := by simp [rowR])
 refine lp4 (fun D f f1 f2 f3 E H O m' => ∃ (z : Nat) (Ay : OA) (n0 cy : Nat), H0 = H ∧ (z ≤ n) ∧ (n0 = nx + z) ∧ m' = n - z ∧ O = [f, .row 166 3 (.slice Ay n0 cy) n0 (mvC (shufL a.moves b.states m ++ shufR (b.moves.take p) b.states n ++ rowR e6 b.states z)), f1, f2, .blk d8 84 [.int .i64 (a.states * b.states), .int .i64 a.syms, .slice none 0 0, .slice none 0 0, .slice Ay n0 cy], f3] ∧ E = (97, .int .i64 (z : Int)) :: D) [2, 3, 4, 7, 8, 9, 14, 90, 91, 92, 96] [0, 1, 2, 3, 4, 5] ⟨0, Ax, nx, cx, rfl, Nat.zero_le _, oM, rfl, rfl, rfl⟩ ?_
 rintro _ _ _ _ ⟨z, Ay, n0, cy, rfl, hz, r8, rfl, rfl, rfl⟩ _ i7
 refine g5b ?_
 intros
 refine cD ?_ ?_ <;> intro r1
 refine g8b ?_
 intros
 have q1 := mul_rg (x := (z : Int)) (y := b.states) (n := 2000) oM vb.1
 refine g18 ?_
 refine sq rfl (bS [.int .i64 (((z : Int) * b.states) + e6.src), .int .i64 (((z : Int) * b.states) + e6.dst), .int .i64 e6.sym] fun u1 => ?_)
 refine sq rfl (aR 2 fun A5 c99 => ?_)
 refine g1 ?_
 refine sU 5 ?_
 refine g4 ?_
 rw [mvC_rowR]
 exact nK i7 ⟨z + 1, A5, n0 + 1, c99, rfl, oM, oM, rfl, rfl, rfl⟩
 refine g4 ?_
 have s7 : z = n := by omega
 rw [s7, shufR_app d1]
 exact nK j2 ⟨p + 1, Ay, n0, cy, rfl, oM, (by rw [Nat.add_mul]; omega), rfl, rfl, rfl⟩
 refine g10b ?_
 intros
 have r3 : p = n3b := by omega
 rw [r3] at s3
 have r7 : b.moves.take p = b.moves := List.take_of_length_le oM
 have k7 := shuf_wf hva hvb hs hn hm oM (by rw [l4, e1]; exact hlen)
 have r4 : (shufL a.moves b.states m ++ shufR b.moves b.states n).length = nx := by rw [List.length_append, shufL_len, shufR_len, l4, e1]; omega
 refine eO5 (fun _ _ _ e3 e4 => [.row 166 3 (.slice Ax nx cx) nx (mvC (shufL a.moves b.states m ++ shufR b.moves b.states n)), .row 3 1 (.slice none 0 0) 0 ((shufS (a.final.take 0) b.final b.states).map fun x => Value.int .i64 x), .row 3 1 (.slice none 0 0) 0 ((shufS (a.start.take 0) b.start b.states).map fun x => Value.int .i64 x), e3, e4]) ?_ (he := by rw [r7])
 refine lp3 (fun D f f1 f2 E H O m' => ∃ (u : Nat) (Au : OA) (nu cu : Nat), Ghost.le H0 H ∧ (u ≤ n1) ∧ (nu ≤ u * 2000) ∧ m' = n1 - u ∧ O = [f, f1, .row 3 1 (.slice Au nu cu) nu ((shufS (a.start.take u) b.start b.states).map fun x => Value.int .i64 x), .blk d8 84 [.int .i64 (a.states * b.states), .int .i64 a.syms, .slice Au nu cu, .slice none 0 0, .slice Ax nx cx], f2] ∧ E = (125, .int .i64 (u : Int)) :: D) [2, 3, 4, 8, 9, 123, 124] [0, 1, 2, 3, 4] ⟨0, none, 0, 0, Ghost.le.refl _, Nat.zero_le _, oM, rfl, rfl, rfl⟩ ?_
 rintro _ H1 _ _ ⟨u, Au, nu, cu, b5, hu, t4, rfl, rfl, rfl⟩ _ i5
 have ⟨h6, h4, h3b, h1, h2, h3, h1b, h2b, hT⟩ := mo9 b5 h6 h4 h3b h1 h2 h3 h1b h2b hT
 refine g5b ?_
 intros
 refine cD ?_ ?_ <;> intro k8
 refine g5b ?_
 intros
 obtain ⟨i9, b6⟩ := eX h1 u
 obtain ⟨o6, o7, k9, c0⟩ := h1.atI b6
 refine g4 ?_
 have l6 := wa.start _ (mG b6)
 have q1 := mul_rg (x := i9) (y := b.states) (n := 2000) oM vb.1
 refine ts 8 fun _ => ?_
 refine tj 0 ?_
 refine g6 ?_
 refine oI 7 rfl kR (fP hD rfl call184 rfl (c184 h1b oM (fun x hx => by have := wb.start x hx; omega) oM) ?_)
 rintro v2 H6 ⟨B4, e8, l0, rfl, j0, d6⟩ h8
 have ⟨h6, h4, h1, c0, h1b, h2, h3, h2b, h3b, hT⟩ := mo10 h8 h6 h4 h1 c0 h1b h2 h3 h2b h3b hT
 refine ta_next (kG h8) ?_
 refine g1 ?_
 refine sL hD 2 d6 fun A4 j3 n5 e9 => ?_
 refine g1 ?_
 refine sU 3 ?_
 refine g4 ?_
 obtain rfl := reps_eqI e9
 rw [← List.map_append, shufS_succ b6]
 exact nK i5 ⟨u + 1, A4, (nu + e8), j3, (b5.trans h8), oM, (by rw [Nat.add_mul]; omega), rfl, rfl, rfl⟩
 refine g10b ?_
 intros
 refine lp3 (fun D f f1 f2 E H O m' => ∃ (w : Nat) (Aw : OA) (nw cw : Nat), Ghost.le H1 H ∧ (w ≤ n2) ∧ (nw ≤ w * 2000) ∧ m' = n2 - w ∧ O = [f, .row 3 1 (.slice Aw nw cw) nw ((shufS (a.final.take w) b.final b.states).map fun x => Value.int .i64 x), f1, .blk d8 84 [.int .i64 (a.states * b.states), .int .i64 a.syms, .slice Au nu cu, .slice Aw nw cw, .slice Ax nx cx], f2] ∧ E = (143, .int .i64 (w : Int)) :: D) [3, 4, 8, 9, 141, 142] [0, 1, 2, 3, 4] ⟨0, none, 0, 0, Ghost.le.refl _, Nat.zero_le _, oM, rfl, rfl, rfl⟩ ?_
 rintro _ _ _ _ ⟨w, Aw, nw, cw, h9, hw, j9, rfl, rfl, rfl⟩ _ f8
 have ⟨h6, h4, h1, h2, h3, h1b, h2b, h3b, hT⟩ := mo9 h9 h6 h4 h1 h2 h3 h1b h2b h3b hT
 refine g5b ?_
 intros
 refine cD ?_ ?_ <;> intro k0
 refine g5b ?_
 intros
 obtain ⟨j6, b9⟩ := eX h2 w
 obtain ⟨r0, o5, k6, c1⟩ := h2.atI b9
 refine g4 ?_
 have l6 := wa.final _ (mG b9)
 have q1 := mul_rg (x := j6) (y := b.states) (n := 2000) oM vb.1
 refine ts 8 fun _ => ?_
 refine tj 0 ?_
 refine g6 ?_
 refine oI 7 rfl kR (fP hD rfl call184 rfl (c184 h2b oM (fun x hx => by have := wb.final x hx; omega) oM) ?_)
 rintro v0 H2 ⟨B0, f9, k5, rfl, i8, d3⟩ h7
 have ⟨h4, h2, c1, h2b, h1, h3, h1b, h3b, hT, h6⟩ := mo10 h7 h4 h2 c1 h2b h1 h3 h1b h3b hT h6
 refine ta_next (kG h7) ?_
 refine g1 ?_
 refine sL hD 1 d3 fun A0 c153 n6 i4 => ?_
 refine g1 ?_
 refine sU 3 ?_
 refine g4 ?_
 obtain rfl := reps_eqI i4
 rw [← List.map_append, shufS_succ b9]
 exact nK f8 ⟨w + 1, A0, (nw + f9), c153, (h9.trans h7), oM, (by rw [Nat.add_mul]; omega), rfl, rfl, rfl⟩
 refine g2a ?_
 intros
 have j8 : a.start.take u = a.start := List.take_of_length_le oM
 have i6 : a.final.take w = a.final := List.take_of_length_le oM
 refine eO5 (fun _ _ _ e3 e4 => [.row 166 3 (.slice Ax nx cx) nx (mvC (shufL a.moves b.states m ++ shufR b.moves b.states n)), .row 3 1 (.slice Aw nw cw) nw ((shufS a.final b.final b.states).map fun x => Value.int .i64 x), .row 3 1 (.slice Au nu cu) nu ((shufS a.start b.start b.states).map fun x => Value.int .i64 x), e3, e4]) ?_ (he := by rw [j8, i6])
 refine tR 2 (r := rInt) (ys := (shufS a.start b.start b.states)) (repsI _) fun H3 d7 h5 => ?_
 have ⟨h4, h2, h1, h3, h1b, h2b, h3b, hT, h6⟩ := mo9 d7 h4 h2 h1 h3 h1b h2b h3b hT h6
 refine tR 1 (r := rInt) (ys := (shufS a.final b.final b.states)) (repsI _) fun H4 d2 b8 => ?_
 have ⟨h4, h2, h5, h1, h3, h1b, h2b, h3b, hT, h6⟩ := mo10 d2 h4 h2 h5 h1 h3 h1b h2b h3b hT h6
 refine g2 ?_
 refine sq rfl (fO hD [0] [1, 2] rfl call185 rfl (c185 (a := shufA a b n m) hT k7 h5 b8 r4) ?_)
 rintro v1 H5 O1 ⟨rfl, b7, B1, m1, l1, B2, m2, l2, B3, m3, l3, e7, rfl, s6⟩ d4
 have ⟨h4, h2, h5, b8, h1, h3, h1b, h2b, h3b, hT, h6⟩ := mo11 d4 h4 h2 h5 b8 h1 h3 h1b h2b h3b hT h6
 refine g2 ?_
 refine sG 1 ?_
 refine g2 ?_
 refine rD 1 [] results135 ?_
 exact ⟨rfl, b7, _, _, _, _, _, _, _, _, _, _, rfl, s6.imp id fun ⟨h0, k1, k2, k3, k4⟩ => ⟨h0, k1, k2, k3, by have h := k4.op k7 (shuf_acc hva hvb hn hm); exact h⟩⟩
end
def ixA (acts : LB) (s : BA) : Int := idxOf (fun x => decide (s = x)) acts
theorem ixA_in {acts : LB} {s : BA} (h : s ∈ acts) : 0 ≤ ixA acts s ∧ ixA acts s < (acts.length : Int) := by
 unfold ixA idxOf
 cases hf : acts.findIdx? (fun x => decide (s = x)) with
 | none =>
  rw [List.findIdx?_eq_none_iff] at hf
  have := hf s h
  simp at this
 | some i =>
  have := (List.findIdx?_eq_some_iff_findIdx_eq.1 hf).1
  simp only; omega
def LW (acts : LB) (t : Tree) (w : LI) : Prop := ∃ u, Lang t u ∧ w = u.map (ixA acts)
abbrev TrA (acts : LB) (t : Tree) : Auto → Prop := OpR (acts.length : Int) (LW acts t)
theorem OpR.mono {n : Int} {P Q : LI → Prop} (h : OpR n P b) (hp : ∀ w, Q w → P w) : OpR n Q b := ⟨h.valid, h.syms, fun w hw => h.acc w (hp w hw)⟩
def leafAu (n k : Int) : Auto := ⟨2, n, [0], [1], [⟨0, 1, k⟩]⟩
def noneAu (n : Int) : Auto := ⟨1, n, [0], [0], []⟩
theorem leafAu_valid {n k : Int} (hn : n ≤ 40) (hk : 0 ≤ k ∧ k < n) : validA (leafAu n k) = true := by
 refine validA_yes ?_ (fun j x hx => ?_) (fun j x y hx hy => ?_)
 ·simp [headA, leafAu, statesB, ascI]; omega
 ·have := mG hx
  simp only [leafAu, List.mem_singleton] at this
  subst this
  rw [okMv_iff]; simp only [leafAu]; omega
 ·exact absurd (gE hy).1 (by simp [leafAu])
theorem noneAu_valid {n : Int} (hn : 0 ≤ n ∧ n ≤ 40) : validA (noneAu n) = true := by
 refine validA_yes ?_ (fun j x hx => by simp [noneAu] at hx) (fun j x y hx hy => by simp [noneAu] at hx)
 simp [headA, noneAu, statesB, ascI]; omega
theorem leafAu_op {acts : LB} {t : Tree} (h : RedR (leafAu acts.length (ixA acts t.act)) b) (hn : (acts.length : Int) ≤ 40) (hk : t.act ∈ acts) (ho : t.op = 1) : TrA acts t b := by
 have hx := ixA_in hk
 refine h.op (validA_wf (leafAu_valid hn hx)) ?_
 rintro w ⟨u, hu, rfl⟩
 rw [hu.op1 ho]
 exact ⟨0, by simp [leafAu], 1, by simp [leafAu], .sym (t := 1) (by simp [leafAu]) hx.1 .nil⟩
theorem noneAu_op {acts : LB} {t : Tree} (h : RedR (noneAu acts.length) b) (hn : (acts.length : Int) ≤ 40) (ho : t.op = 2) : TrA acts t b := by
 refine h.op (validA_wf (noneAu_valid ⟨by omega, hn⟩)) ?_
 rintro w ⟨u, hu, rfl⟩
 rw [hu.op2 ho]
 exact ⟨0, by simp [noneAu], 0, by simp [noneAu], .nil⟩
theorem loop_op {t x y : Tree} {q : Auto} (ho : t.op = 6) (hl : t.l = [x, y]) (hp : TrA acts x p) (hq : TrA acts y q) (hr : OpR q.syms (fun w => ∃ u v, w = u ++ v ∧ AccA q u ∧ AccA p v) r) (hs : OpR r.syms (StarW (AccA r)) s) (hb : OpR p.syms (fun w => ∃ u v, w = u ++ v ∧ AccA p u ∧ AccA s v) b) : TrA acts t b := by
 refine ⟨hb.valid, hb.syms.trans hp.syms, ?_⟩
 rintro w ⟨u, hu, rfl⟩
 obtain ⟨x', y', h5, hu⟩ := hu.op6 ho
 rw [hl] at h5
 obtain ⟨rfl, rfl⟩ : x = x' ∧ y = y' := by simpa using h5
 obtain ⟨u1, v1, rfl, h1, h2⟩ := hu.star (f := ixA acts)
 rw [List.map_append]
 exact hb.acc _ ⟨_, _, rfl, hp.acc _ ⟨u1, h1, rfl⟩, hs.acc _ (h2.mono fun z hz => by
  obtain ⟨p', q', rfl, h3, h4⟩ := hz
  rw [List.map_append]
  exact hr.acc _ ⟨_, _, rfl, hq.acc _ ⟨p', h3, rfl⟩, hp.acc _ ⟨q', h4, rfl⟩⟩)⟩
def PartW (op : Int) (l : List Tree) (u : Word) : Prop := (op = 3 ∧ SeqW Lang l u) ∨ (op = 4 ∧ ∃ x ∈ l, Lang x u) ∨ (op = 5 ∧ AndW Lang l u)
def LP (acts : LB) (op : Int) (l : List Tree) (w : LI) : Prop := ∃ u, PartW op l u ∧ w = u.map (ixA acts)
theorem SeqW.one {x : Tree} (h : SeqW Lang [x] u) : Lang x u := by
 cases h with
 | cons h1 h2 => cases h2; rw [List.append_nil]; exact h1
theorem AndW.one {x : Tree} (h : AndW Lang [x] u) : Lang x u := by
 cases h with
 | cons h1 h2 h3 => cases h2; rw [← (h3.comm).eq_left]; exact h1
theorem SeqW.back {x : Tree} : ∀ {l : List Tree} {u : Word}, SeqW Lang (l ++ [x]) u → ∃ a b, u = a ++ b ∧ SeqW Lang l a ∧ Lang x b
 | [], u, h => ⟨[], u, rfl, .nil, SeqW.one h⟩
 | y :: l, u, h => by
  rw [List.cons_append] at h
  cases h with
  | cons h1 h2 =>
   obtain ⟨a, b, rfl, h3, h4⟩ := SeqW.back h2
   exact ⟨_, b, (List.append_assoc _ _ _).symm, .cons h1 h3, h4⟩
theorem AndW.back {x : Tree} : ∀ {l : List Tree} {u : Word}, AndW Lang (l ++ [x]) u → ∃ a b, Shuf a b u ∧ AndW Lang l a ∧ Lang x b
 | [], u, h => ⟨[], u, Shuf.nil_left u, .nil, AndW.one h⟩
 | y :: l, u, h => by
  rw [List.cons_append] at h
  cases h with
  | cons h1 h2 h3 =>
   obtain ⟨a, b, h4, h5, h6⟩ := AndW.back h2
   obtain ⟨z, h7, h8⟩ := (h4.comm).assoc (h3.comm)
   exact ⟨z, b, h8.comm, .cons h1 h5 h7.comm, h6⟩
def JW (op : Int) (a b : Auto) (w : LI) : Prop := (op = 3 ∧ ∃ u v, w = u ++ v ∧ AccA a u ∧ AccA b v) ∨ (op = 4 ∧ (AccA a w ∨ AccA b w)) ∨ (op = 5 ∧ ∃ u v, Shuf u v w ∧ AccA a u ∧ AccA b v)
theorem LP.first {acts : LB} {op : Int} {l : List Tree} (h : TrA acts x b) (hl : l[0]? = some x) : OpR (acts.length : Int) (LP acts op (l.take 1)) b := by
 have e : l.take 1 = [x] := by rw [List.take_add_one, hl]; rfl
 refine h.mono ?_
 rintro w ⟨u, hu, rfl⟩
 rw [e] at hu
 rcases hu with ⟨_, h2⟩ | ⟨_, y, hy, h2⟩ | ⟨_, h2⟩
 ·exact ⟨u, h2.one, rfl⟩
 ·simp at hy; subst hy; exact ⟨u, h2, rfl⟩
 ·exact ⟨u, h2.one, rfl⟩
theorem LP.step {acts : LB} {op : Int} {l : List Tree} {a c : Auto} (ha : OpR (acts.length : Int) (LP acts op (l.take j)) a) (hb : TrA acts x b) (hl : l[j]? = some x) (hc : OpR a.syms (JW op a b) c) : OpR (acts.length : Int) (LP acts op (l.take (j + 1))) c := by
 refine ⟨hc.valid, hc.syms.trans ha.syms, ?_⟩
 rintro w ⟨u, hu, rfl⟩
 rw [List.take_add_one, hl, Option.toList_some] at hu
 refine hc.acc _ ?_
 rcases hu with ⟨ho, h⟩ | ⟨ho, y, hy, h⟩ | ⟨ho, h⟩
 ·obtain ⟨p, q, rfl, h1, h2⟩ := h.back
  rw [List.map_append]
  exact .inl ⟨ho, _, _, rfl, ha.acc _ ⟨p, .inl ⟨ho, h1⟩, rfl⟩, hb.acc _ ⟨q, h2, rfl⟩⟩
 ·refine .inr (.inl ⟨ho, ?_⟩)
  rcases List.mem_append.1 hy with hy | hy
  ·exact .inl (ha.acc _ ⟨u, .inr (.inl ⟨ho, y, hy, h⟩), rfl⟩)
  ·simp at hy; subst hy; exact .inr (hb.acc _ ⟨u, h, rfl⟩)
 ·obtain ⟨p, q, h0, h1, h2⟩ := h.back
  exact .inr (.inr ⟨ho, _, _, h0.map (ixA acts), ha.acc _ ⟨p, .inr (.inr ⟨ho, h1⟩), rfl⟩, hb.acc _ ⟨q, h2, rfl⟩⟩)
theorem LP.done {acts : LB} {t : Tree} {a : Auto} (ho : t.op = 3 ∨ t.op = 4 ∨ t.op = 5) (h : OpR (acts.length : Int) (LP acts t.op t.l) a) : TrA acts t a := by
 refine h.mono ?_
 rintro w ⟨u, hu, rfl⟩
 refine ⟨u, ?_, rfl⟩
 rcases ho with h1 | h1 | h1
 ·exact .inl ⟨h1, hu.op3 h1⟩
 ·exact .inr (.inl ⟨h1, hu.op4 h1⟩)
 ·exact .inr (.inr ⟨h1, hu.op5 h1⟩)
structure AP where
 A1 : OA
 n1 : Nat
 k1 : Nat
 A2 : OA
 n2 : Nat
 k2 : Nat
 A3 : OA
 n3 : Nat
 k3 : Nat
 a : Auto
def apC (p : AP) : LV := [.int .i64 p.a.states, .int .i64 p.a.syms, .slice p.A1 p.n1 p.k1, .slice p.A2 p.n2 p.k2, .slice p.A3 p.n3 p.k3]
def apO (S : List AP) : LV := S.flatMap apC
def ApOk (H : Ghost) (p : AP) : Prop := Sl rInt H p.a.start p.A1 p.n1 p.k1 ∧ Sl rInt H p.a.final p.A2 p.n2 p.k2 ∧ Sl rMv H p.a.moves p.A3 p.n3 p.k3
def apsOk (H : Ghost) (S : List AP) : Prop := ∀ p ∈ S, ApOk H p
theorem ApOk.mono {H : Ghost} (h : ApOk H p) (hle : Ghost.le H H') : ApOk H' p := ⟨h.1.mono hle, h.2.1.mono hle, h.2.2.mono hle⟩
theorem apsOk.mono {H : Ghost} (h : apsOk H S) (hle : Ghost.le H H') : apsOk H' S := fun p hp => (h p hp).mono hle
theorem apsOk.snoc {H : Ghost} (h : apsOk H S) (hp : ApOk H p) : apsOk H (S ++ [p]) := fun q hq => by
 rcases List.mem_append.1 hq with hq | hq
 ·exact h q hq
 ·simp at hq; subst hq; exact hp
theorem apO_snoc {p : AP} : apO S ++ [.int .i64 p.a.states, .int .i64 p.a.syms, .slice p.A1 p.n1 p.k1, .slice p.A2 p.n2 p.k2, .slice p.A3 p.n3 p.k3] = apO (S ++ [p]) := by simp [apO, apC]
theorem apO_at {k : Nat} : ∀ {S : List AP}, S[k]? = some p → ((apO S).drop (0 + k * 5)).take 5 = apC p := by
 induction k with
 | zero =>
  intro l h
  match l, h with
  | y :: l, h => simp at h; subst h; simp [apO, apC]
 | succ k ih =>
  intro l h
  match l, h with
  | y :: l, h =>
   have := ih (S := l) (by simpa using h)
   rw [apO, List.flatMap_cons, show 0 + (k + 1) * 5 = (apC y).length + (0 + k * 5) by simp [apC]; omega, List.drop_append, List.drop_of_length_le oM, Nat.add_sub_cancel_left, List.nil_append]
   exact this
def PartsA (acts : LB) (l : List Tree) (S : List AP) : Prop := ∀ (j : Nat) (p : AP) (x : Tree), S[j]? = some p → l[j]? = some x → TrA acts x p.a
theorem PartsA.snoc {acts : LB} {l : List Tree} {p : AP} (h : PartsA acts l S) (hx : l[S.length]? = some x) (hp : TrA acts x p.a) : PartsA acts l (S ++ [p]) := fun j q y hq hy => by
 rcases Nat.lt_or_ge j S.length with h1 | h1
 ·rw [List.getElem?_append_left h1] at hq; exact h j q y hq hy
 ·rw [List.getElem?_append_right h1] at hq
  have h2 : j = S.length := by
   rcases Nat.eq_zero_or_pos (j - S.length) with h4 | h4
   ·omega
   ·rw [List.getElem?_eq_none (by simp; omega)] at hq; cases hq
  subst h2
  rw [Nat.sub_self] at hq
  simp at hq; subst hq
  rw [hx] at hy; cases hy
  exact hp
structure KeysM (m m' : List (BA × Bool)) (L : LB) : Prop where
 nd : (m.map (·.1)).Nodup → (m'.map (·.1)).Nodup
 key : ∀ s, s ∈ m'.map (·.1) ↔ s ∈ m.map (·.1) ∨ s ∈ L
 len : m'.length ≤ m.length + L.length
theorem KeysM.refl {m : List (BA × Bool)} : KeysM m m [] := ⟨id, fun s => by simp, by simp⟩
theorem KeysM.put {m : List (BA × Bool)} : KeysM m (mput m s b) [s] where
 nd h := mput_nodup h s b
 key t := by
  rw [mput_keys]
  split
  ·rename_i h
   constructor
   ·exact .inl
   ·rintro (h1 | h1)
    ·exact h1
    ·simp at h1; subst h1; exact h
  ·rw [List.mem_append]
 len := by have := (mput_len m s b).1; simpa using this
theorem KeysM.trans {m : List (BA × Bool)} (h : KeysM m m' L) (k : KeysM m' m'' K) : KeysM m m'' (L ++ K) where
 nd x := k.nd (h.nd x)
 key s := by rw [k.key, h.key, List.mem_append, or_assoc]
 len := by have := h.len; have := k.len; rw [List.length_append]; omega
theorem leafsL_append : ∀ (l k : List Tree), leafsL (l ++ k) = leafsL l ++ leafsL k
 | [], k => by simp [leafsL]
 | x :: l, k => by rw [List.cons_append, leafsL, leafsL_append l k, leafsL, List.append_assoc]
theorem leafsL_snoc {l : List Tree} {i : Nat} (h : l[i]? = some x) : leafsL (l.take (i + 1)) = leafsL (l.take i) ++ leafs x := by
 rw [List.take_add_one, h, leafsL_append]; simp [leafsL]
instance : Mo (ApOk H p) H H' (ApOk H' p) := ⟨fun h e => h.mono e⟩
instance : Mo (apsOk H S) H H' (apsOk H' S) := ⟨fun h e => h.mono e⟩
section
open Go.Proofs.Tryz
attribute [local irreducible] TK Yl OpK AnyT wpList Code.wp
theorem c40 {y : BA} (hl : Sl rStr H xs A n c) (hn : n ≤ 140737488355328) : Ct PP 40 #[.slice A n c, .string y] H [] fun v H' O' => O' = [] ∧ v = .int .i64 (ixA xs y) := by
 refine cB func40 ntmps40 fun I hD hI h4 => ?_
 refine g8b ?_
 intros
 refine sq rfl (fS hD rfl call82 rfl (c82 hl hn) ?_)
 rintro v3 rfl
 refine g2 ?_
 refine rT results40 ?_
 exact ⟨rfl, rfl⟩
def KA (m : List (BA × Bool)) (b : Nat) (t : Tree) : Value → Ghost → List HL → Prop := fun v H' O' => v = .tuple #[] ∧ ∃ m', O' = [.map b (mapL Value.string Value.bool m')] ∧ KeysM m m' (leafs t)
theorem c130s {N : Nat} (ih : ∀ (t : Tree) (H : Ghost) (m : List (BA × Bool)) (b : Nat) (cx : LV), t.size < N → rTree.rel H t cx → Ct PP 130 #[.map (some b), .agg cx.toArray] H [.map b (mapL Value.string Value.bool m)] (KA m b t)) {t : Tree} (ht : t.size ≤ N) (hl : Sl rTree H t.l A n c) : Ct PP 130 #[.map (some b), .agg #[.int .i64 t.op, .string t.act, .slice A n c]] H [.map b (mapL Value.string Value.bool m)] (KA m b t) := by
 have d1 := hl.len
 have d3 := hl.2.2.1
 refine cB func130 ntmps130 fun I hD hI d2 => ?_
 refine g2a ?_
 intros
 refine bG fun b2 => ?_
 refine g1 ?_
 refine TK.seq fun K4 h8 => ?_
 have b6 : ∀ (m1 : List (BA × Bool)) (b5 : KeysM m m1 (if t.op = 1 then [t.act] else [])), TK 23 I K4 [(0, .map (some b)), (3, .pointer (ad b2))] H [.map b (mapL Value.string Value.bool m1), .blk b2 37 [.int .i64 t.op, .string t.act, .slice A n c]] := by
  intro m1 b5
  refine h8 _ _ _ ?_
  refine g8a ?_
  intros
  refine lp1 (fun D f E H' O m' => ∃ (i : Nat) (m2 : List (BA × Bool)), H = H' ∧ (i ≤ n) ∧ (KeysM m m2 ((if t.op = 1 then [t.act] else []) ++ leafsL (t.l.take i))) ∧ m' = n - i ∧ O = [.map b (mapL Value.string Value.bool m2), f] ∧ E = (15, .int .i64 (i : Int)) :: D) [0, 13, 14] [0, 1] ⟨0, m1, rfl, Nat.zero_le _, (by simpa [leafsL] using b5), rfl, rfl, rfl⟩ ?_
  rintro _ _ _ _ ⟨i, m2, rfl, hi, h9, rfl, rfl, rfl⟩ _ h7
  refine g5b ?_
  intros
  refine cD ?_ ?_ <;> intro b8
  refine g5b ?_
  intros
  obtain ⟨b4, h4⟩ := eX hl i
  obtain ⟨d4, o4, c0, c1, h6, b9⟩ := hl.at_ h4
  obtain ⟨A0, n0, c29, rfl, h5⟩ := rTree_dest h6
  refine g2 ?_
  refine aL fun d0 => ?_
  refine sG 0 ?_
  refine g4 ?_
  refine sq rfl (fT hD [1] [0, 2] rfl call130 rfl (ih b4 H m2 b _ (by have := size_mem (mG h4); rw [Tree.size_l] at ht; omega) (rTree_mk (t := b4) h5)) ?_)
  rintro v0 O1 ⟨rfl, m3, rfl, h8⟩
  refine g4 ?_
  exact nK h7 ⟨i + 1, m3, rfl, oM, (by have h := h9.trans h8; rw [List.append_assoc, ← leafsL_snoc h4] at h; exact h), rfl, rfl, rfl⟩
  refine TK.exit (TK.keep [0] dC rfl (TK.end0 results130 ?_))
  exact ⟨rfl, _, rfl, by rw [leafs_eq]; rw [List.take_of_length_le oM] at h9; exact h9⟩
 refine g6a ?_
 intros
 refine cD ?_ ?_ <;> intro b7
 refine g4 ?_
 refine sq rfl (tMapUpd (m := m) (k := t.act) (g := Value.bool) (v := true) (i := 1) uC (keyStr uC) rfl rfl rfl rfl ?_)
 exact TK.nil (wP [1, 0] [] 2 (b6 (mput m t.act true) (by rw [if_pos (by assumption)]; exact KeysM.put)))
 exact TK.skip (wP [1, 0] [] 2 (b6 m (by rw [if_neg (by assumption)]; exact KeysM.refl)))
theorem c130 : ∀ (N : Nat) (t : Tree) (H : Ghost) (m : List (BA × Bool)) (b : Nat) (cx : LV), t.size < N → rTree.rel H t cx → Ct PP 130 #[.map (some b), .agg cx.toArray] H [.map b (mapL Value.string Value.bool m)] (KA m b t)
 | 0, _, _, _, _, _, h, _ => absurd h (Nat.not_lt_zero _)
 | N + 1, t, H, m, b, cx, h, h1 => by
  obtain ⟨A, n, c, rfl, hl⟩ := rTree_dest h1
  exact c130s (N := N) (c130 N) oM hl
theorem str_snoc {ys : LB} {s : BA} : ys.map Value.string ++ [.string s] = (ys ++ [s]).map Value.string := by simp
theorem c80 {t : Tree} {zs : LB} (hv : validT t = true) (hz : zs.length ≤ 40) (hin : ∀ s ∈ leafs t, s ∈ zs) (hl : Sl rTree H t.l A n c) : Ct PP 80 #[.agg #[.int .i64 t.op, .string t.act, .slice A n c]] H [] fun v H' O' => O' = [] ∧ ∃ A k c ys, v = .tuple #[.slice A k c, .int .i64 0] ∧ Sl rStr H' ys A k c ∧ ys.length ≤ 40 ∧ ∀ s, s ∈ ys ↔ s ∈ leafs t := by
 refine cB func80 ntmps80 fun I hD hI e4 => ?_
 refine g2a ?_
 intros
 refine bG fun b2 => ?_
 refine g7b ?_
 intros
 refine sq rfl (fS hD rfl call29 rfl (c29 hl) ?_)
 rintro v5 rfl
 rw [hv]
 refine g6a ?_
 intros
 refine sq rfl (tMakeMap dC fun b7 => ?_)
 refine g6a ?_
 intros
 refine sq rfl (fT hD [0] [1] rfl call130 rfl (c130 _ t H [] b7 _ (Nat.lt_succ_self _) (rTree_mk hl)) ?_)
 rintro v9 O2 ⟨rfl, m1, rfl, hK⟩
 have d5 := hK.nd (by simp)
 have e3 : m1.length ≤ 40 := by have h1 := nodup_sub (ys := zs) d5 (fun s hs => hin s (((hK.key s).1 hs).elim (fun h => by simp at h) id)); rw [List.length_map] at h1; omega
 have e1 : (mapL Value.string Value.bool m1).length = m1.length := mapL_len
 refine g8b ?_
 intros
 refine cD ?_ ?_ <;> intro d7
 exfalso; omega
 refine g8c ?_
 intros
 refine g1 ?_
 refine mapOpen (i := 0) rfl fun e0 c0 b5 => ?_
 refine sq rfl (tRange (i := 0) uC rfl rfl dC fun r0 => ?_)
 refine g2 ?_
 refine newRow 9 1 ?_
 refine lp2 (fun D f f1 E H' O m => ∃ (dn : List Nat) (ys : LB) (A3 : OA) (c3 : Nat), H = H' ∧ (dn.Nodup) ∧ (∀ q ∈ dn, q < (mapL Value.string Value.bool m1).length) ∧ (ys = (dn.filterMap (m1[·]?)).map (·.1)) ∧ m = m1.length - dn.length ∧ O = [.row 9 1 (.slice A3 ys.length c3) ys.length (ys.map Value.string), .obj r0 (itObj b7 e0 c0 dn), f, f1] ∧ E = (5, .slice A3 ys.length c3) :: D) [18] [0, 1, 2, 3] ⟨[], [], none, 0, rfl, (by simp), (by simp), rfl, rfl, rfl, rfl⟩ ?_
 rintro _ _ _ _ ⟨dn, ys, A3, c3, rfl, b6, h8, b9, rfl, rfl, rfl⟩ _ d1
 refine g2a ?_
 intros
 refine sq rfl (tNext (i := 1) (j := 2) rfl rfl b5 rfl dC h8 (fun h7 => ?_) (fun d6 k0 v1 b4 h4 => ?_))
 refine g8b ?_
 intros
 have d3 : ∀ q ∈ dn, q < m1.length := fun x hx => by have := h8 x hx; omega
 have c1 := (all_done b6 d3 (fun q hq => h7 q oM)).map (·.1)
 rw [← b9] at c1
 have d4 := c1.length_eq
 rw [List.length_map] at d4
 refine sq rfl (fT hD [0] [1, 2, 3] rfl call31 rfl (c31 (xs := ys) oM rfl) ?_)
 rintro v0 O1 ⟨zz, rfl, d2, e2⟩
 refine g7a ?_
 intros
 have d9 := d2.length_eq
 refine tR 0 (r := rStr) (ys := zz) (repsS zz) fun H0 h9 d0 => ?_
 have hl := hl.mono h9
 refine kP [] ?_
 refine r2 results80 ?_
 exact ⟨rfl, _, _, _, zz, rfl, d0, by omega, fun s => by rw [d2.mem_iff, c1.mem_iff, hK.key]; simp⟩
 obtain ⟨b8, h6, rfl, rfl⟩ := mapL_at b4
 refine g8b ?_
 intros
 refine q (yEntry (i := 1) (j := 2) rfl rfl b5 b4 rfl) rfl rfl rfl ?_
 refine g6 ?_
 refine sq rfl (bS [.string b8.1] fun d8 => ?_)
 refine sq rfl (tAppend hD (i := 1) (news := [.string b8.1]) rfl uC iC rfl dC rfl rfl (Mem.row (i := 0) rfl rfl) rfl oC (by have := nodup_len b6 h8; have h5 := congrArg List.length b9; have := List.length_filterMap_le (m1[·]?) dn; simp only [List.length_map] at *; omega) (by have := nodup_len b6 h8; have h5 := congrArg List.length b9; have := List.length_filterMap_le (m1[·]?) dn; simp only [List.length_map] at *; omega) dC fun A0 c48 => ?_)
 refine g1 ?_
 rw [str_snoc, show ys.length + 1 = (ys ++ [b8.1]).length by simp]
 exact nK d1 ⟨dn ++ [d6], ys ++ [b8.1], A0, c48, rfl, (nodup_snoc b6 h4), (by have := bnd_snoc (m := m1) (fun x hx => by have := h8 x hx; omega) h6; intro x hx; have := this x hx; omega), (by rw [fm_snoc h6, List.map_append, b9]; rfl), rfl, rfl, rfl⟩ (hm := by have h1 := nodup_len (nodup_snoc b6 h4) (bnd_snoc (m := m1) (fun x hx => by have := h8 x hx; omega) h6); simp only [List.length_append, List.length_singleton] at h1 ⊢; omega)
theorem leafs_one {t : Tree} (h : t.op = 1) : t.act ∈ leafs t := by rw [leafs_eq, if_pos h]; simp
theorem leafs_sub {t x : Tree} {s : BA} (hx : x ∈ t.l) (hs : s ∈ leafs x) : s ∈ leafs t := by rw [leafs_eq]; exact List.mem_append_right _ (leafsL_mem.2 ⟨x, hx, hs⟩)
def AuR (H : Ghost) (R : Auto → Prop) (b : Auto) (A1 : OA) (n1 k1 : Nat) (A2 : OA) (n2 k2 : Nat) (A3 : OA) (n3 k3 : Nat) (e : Int) : Prop := e = 13 ∨ e = 0 ∧ Sl rInt H b.start A1 n1 k1 ∧ Sl rInt H b.final A2 n2 k2 ∧ Sl rMv H b.moves A3 n3 k3 ∧ R b
theorem jw3 {op : Int} (h : op = 3) (hw : JW op a b w) : ∃ u v, w = u ++ v ∧ AccA a u ∧ AccA b v := by
 rcases hw with h1 | h1 | h1
 ·exact h1.2
 ·have := h1.1; omega
 ·have := h1.1; omega
theorem jw4 {op : Int} (h : op = 4) (hw : JW op a b w) : AccA a w ∨ AccA b w := by
 rcases hw with h1 | h1 | h1
 ·have := h1.1; omega
 ·exact h1.2
 ·have := h1.1; omega
theorem jw5 {op : Int} (h : op = 5) (hw : JW op a b w) : ∃ u v, Shuf u v w ∧ AccA a u ∧ AccA b v := by
 rcases hw with h1 | h1 | h1
 ·have := h1.1; omega
 ·have := h1.1; omega
 ·exact h1.2
theorem AutO.wide {n : Int} {P Q : LI → Prop} {H : Ghost} {O : List HL} (h : AutO (OpR n P) v H O) (hp : ∀ w, Q w → P w) : AutO (OpR n Q) v H O := by
 obtain ⟨h0, b, A1, n1, k1, A2, n2, k2, A3, n3, k3, e, h1, h2⟩ := h
 exact ⟨h0, b, A1, n1, k1, A2, n2, k2, A3, n3, k3, e, h1, h2.imp id fun ⟨a1, a2, a3, a4, a5⟩ => ⟨a1, a2, a3, a4, a5.mono hp⟩⟩
def JoinC (op : Int) (g : Nat) : Prop := ∀ {H : Ghost} {a b : Auto} (_ : TabH H) (_ : validA a = true) (_ : validA b = true) (_ : a.syms = b.syms) {A1 A2 A3 : OA} {n1 n2 n3 k1 k2 k3 : Nat} (_ : Sl rInt H a.start A1 n1 k1) (_ : Sl rInt H a.final A2 n2 k2) (_ : Sl rMv H a.moves A3 n3 k3) {A1b A2b A3b : OA} {n1b n2b n3b k1b k2b k3b : Nat} (_ : Sl rInt H b.start A1b n1b k1b) (_ : Sl rInt H b.final A2b n2b k2b) (_ : Sl rMv H b.moves A3b n3b k3b),
 Ct PP g #[.agg #[.int .i64 a.states, .int .i64 a.syms, .slice A1 n1 k1, .slice A2 n2 k2, .slice A3 n3 k3], .agg #[.int .i64 b.states, .int .i64 b.syms, .slice A1b n1b k1b, .slice A2b n2b k2b, .slice A3b n3b k3b]] H [] (AutO (OpR a.syms (JW op a b)))
theorem many_of {t : Tree} (h : okT t = true) (ho : t.op = 3 ∨ t.op = 4 ∨ t.op = 5) : 1 ≤ t.l.length := by
 have hr := okT_right h
 unfold rightB at hr
 rw [if_neg oM, if_neg oM, if_pos ho] at hr
 simp at hr
 have := hr.1
 omega
theorem c81s {N : Nat} {acts : LB} (ha : acts.length ≤ 40) (ih : ∀ (t : Tree) (H : Ghost) (cx : LV), t.size < N → okT t = true → (∀ s ∈ leafs t, s ∈ acts) → TabH H → Sl rStr H acts C nc kc → rTree.rel H t cx → Ct PP 81 #[.agg cx.toArray, .slice C nc kc] H [] (AutO (TrA acts t))) {t : Tree} (ht : t.size ≤ N) (hN : N ≤ 1000) (hok : okT t = true) (hin : ∀ s ∈ leafs t, s ∈ acts) (hT : TabH H) (h2 : Sl rStr H acts C nc kc) (hl : Sl rTree H t.l A n c) : Ct PP 81 #[.agg #[.int .i64 t.op, .string t.act, .slice A n c], .slice C nc kc] H [] (AutO (TrA acts t)) := by
 have w5 := Tree.size_l t
 have z9 := len_sizeL t.l
 have y7 := hl.len
 have C6 := hl.2.2.1
 have C9 := h2.len
 refine cB func81 ntmps81 fun I hD hI D3 => ?_
 refine g2a ?_
 intros
 refine bG fun b2 => ?_
 refine aL fun b3 => ?_
 refine g4b ?_
 intros
 refine tSeal (i := 1) rfl fun H6 o7 h8 => ?_
 have ⟨hl, h2, hT⟩ := mo3 o7 hl h2 hT
 refine g10a ?_
 intros
 refine cD ?_ ?_ <;> intro d8
 refine g4a ?_
 intros
 refine sq rfl (bS [.int .i64 0] fun C4 => ?_)
 refine sq rfl (bS [.int .i64 1] fun C0 => ?_)
 refine g3 ?_
 refine sq rfl (fS hD rfl call40 rfl (c40 h2 oM) ?_)
 rintro z5 rfl
 refine g1 ?_
 refine sq rfl (bS [.int .i64 0, .int .i64 1, .int .i64 (ixA acts t.act)] fun C3 => ?_)
 refine g1 ?_
 refine tR 2 (repsI [0]) fun H9 k0 c0 => ?_
 have ⟨hl, h2, h8, hT⟩ := mo4 k0 hl h2 h8 hT
 refine tR 1 (repsI [1]) fun A8 j9 d3 => ?_
 have ⟨hl, h2, h8, c0, hT⟩ := mo5 j9 hl h2 h8 c0 hT
 refine tR 0 (mv_reps [⟨0, 1, ixA acts t.act⟩]) fun C7 l7 f9 => ?_
 have ⟨hl, h2, h8, c0, d3, hT⟩ := mo6 l7 hl h2 h8 c0 d3 hT
 refine sq rfl (fP hD rfl call131 rfl ((by rw [show (nc : Int) = (acts.length : Int) by omega]; exact c131 (a := leafAu acts.length (ixA acts t.act)) hT (leafAu_valid oM (ixA_in (hin _ (leafs_one d8)))) c0 d3 f9)) ?_)
 rintro C8 H8 ⟨b7, B6, s8, t6, B8, s6, t4, B7, s9, t3, e7, rfl, l9⟩ j8
 have ⟨hl, h2, h8, c0, d3, f9, hT⟩ := mo7 j8 hl h2 h8 c0 d3 f9 hT
 refine g2 ?_
 refine sG 0 ?_
 refine g2 ?_
 refine rD 0 [] results81 ?_
 exact ⟨rfl, b7, _, _, _, _, _, _, _, _, _, _, rfl, l9.imp id fun ⟨h0, k1, k2, k3, k4⟩ => ⟨h0, k1, k2, k3, leafAu_op k4 oM (hin _ (leafs_one d8)) d8⟩⟩
 refine g5a ?_
 intros
 refine cD ?_ ?_ <;> intro l4
 refine g4a ?_
 intros
 refine sq rfl (bS [.int .i64 0] fun z2 => ?_)
 refine sq rfl (bS [.int .i64 0] fun y6 => ?_)
 refine g1 ?_
 refine tR 1 (repsI [0]) fun A6 l3 d4 => ?_
 have ⟨hl, h2, h8, hT⟩ := mo4 l3 hl h2 h8 hT
 refine tR 0 (repsI [0]) fun z7 k8 i4 => ?_
 have ⟨hl, h2, h8, d4, hT⟩ := mo5 k8 hl h2 h8 d4 hT
 refine sq rfl (fP hD rfl call131 rfl ((by rw [show (nc : Int) = (acts.length : Int) by omega]; exact c131 (a := noneAu acts.length) hT (noneAu_valid ⟨by omega, by omega⟩) d4 i4 (Sl.nil _ _))) ?_)
 rintro z3 D2 ⟨b7, B6, s8, t6, B8, s6, t4, B7, s9, t3, e7, rfl, l9⟩ l5
 have ⟨hl, h2, h8, d4, i4, hT⟩ := mo6 l5 hl h2 h8 d4 i4 hT
 refine g2 ?_
 refine sG 0 ?_
 refine g2 ?_
 refine rD 0 [] results81 ?_
 exact ⟨rfl, b7, _, _, _, _, _, _, _, _, _, _, rfl, l9.imp id fun ⟨h0, k1, k2, k3, k4⟩ => ⟨h0, k1, k2, k3, noneAu_op k4 oM l4⟩⟩
 refine g14c ?_
 intros
 refine newRow 84 5 ?_
 refine eO2 (fun _ e1 => [.row 84 5 (.slice none 0 0) 0 (apO []), e1]) ?_ (he := by simp [apO])
 refine lp1 (fun D f E H O m => ∃ (i : Nat) (S : List AP) (Ap : OA) (cp : Nat), Ghost.le H6 H ∧ (i ≤ n) ∧ (S.length = i) ∧ (apsOk H S) ∧ (PartsA acts t.l S) ∧ m = n - i ∧ O = [.row 84 5 (.slice Ap i cp) i (apO S), f] ∧ E = (6, .slice Ap i cp) :: (49, .int .i64 (i : Int)) :: D) [1, 2, 4, 47, 48] [0, 1] ⟨0, [], none, 0, Ghost.le.refl _, Nat.zero_le _, rfl, (by intro p hp; simp at hp), (by intro j p x hj; simp at hj), rfl, rfl, rfl⟩ ?_
 rintro _ H2 _ _ ⟨i, S, Ap, cp, f8, hi, t5, h9, i9, rfl, rfl, rfl⟩ _ r7
 have ⟨hl, h2, h8, hT⟩ := mo4 f8 hl h2 h8 hT
 refine g5b ?_
 intros
 refine cD ?_ ?_ <;> intro w6
 refine g5b ?_
 intros
 obtain ⟨t2, i5⟩ := eX hl i
 obtain ⟨A9, z6, w0, y3, r8, j5⟩ := hl.at_ i5
 obtain ⟨D4, z4, c66, rfl, i6⟩ := rTree_dest r8
 refine g2 ?_
 refine aL fun y5 => ?_
 refine sG 0 ?_
 refine g5a ?_
 intros
 have r3 := mG i5
 refine sq rfl (fP hD rfl call81 rfl (ih t2 _ _ (by have := size_mem r3; rw [Tree.size_l] at ht; omega) (okT_mem hok _ r3) (fun s hs => hin s (leafs_sub r3 hs)) hT h2 (rTree_mk (t := t2) i6)) ?_)
 rintro A5 H7 ⟨b5, B0, d6, l1, B1, d5, l2, B2, d7, l0, e5, rfl, i7⟩ e3
 have ⟨h2, h8, hl, j5, i6, hT, h9⟩ := mo7 e3 h2 h8 hl j5 i6 hT h9
 refine g3 ?_
 refine aL fun A7 => ?_
 refine sG 0 ?_
 refine g8b ?_
 intros
 refine cN ?_ ?_ <;> intro j7
 refine g4a ?_
 intros
 refine sG 3 ?_
 refine g2 ?_
 refine rD 3 [] results81 ?_
 exact ⟨rfl, ⟨0, 0, [], [], []⟩, _, _, _, _, _, _, _, _, _, _, rfl, .inl (i7.elim id fun h => absurd h.1 (by have := j7; simpa using this))⟩
 refine g1 ?_
 obtain ⟨_, w3, v2, w2, y1⟩ := i7.resolve_left (by rintro rfl; simp at j7)
 have h9 := h9.snoc (p := (⟨B0, d6, l1, B1, d5, l2, B2, d7, l0, b5⟩ : AP)) ⟨w3, v2, w2⟩
 refine g3 ?_
 refine sq rfl (bS [.int .i64 b5.states, .int .i64 b5.syms, .slice B0 d6 l1, .slice B1 d5 l2, .slice B2 d7 l0] fun C5 => ?_)
 refine sq rfl (aR 3 fun A0 c80 => ?_)
 rw [apO_snoc (p := (⟨B0, d6, l1, B1, d5, l2, B2, d7, l0, b5⟩ : AP))]
 refine g5 ?_
 exact nK r7 ⟨i + 1, S ++ [(⟨B0, d6, l1, B1, d5, l2, B2, d7, l0, b5⟩ : AP)], A0, c80, (f8.trans e3), oM, (by simp [t5]), h9, (i9.snoc (by rw [t5]; exact i5) y1), rfl, rfl, rfl⟩
 refine g3b ?_
 intros
 have u3 : i = n := by omega
 have D5 := okT_right hok
 refine g5 ?_
 refine cD ?_ ?_ <;> intro j4
 refine TK.seq fun K1 o5 => ?_
 have u0 : t.op = 6 := j4
 have s7 := two_of hok u0
 obtain ⟨p, hp⟩ := ex_i (l := S) (i := 0) oM
 have h5 := h9 _ (mG hp)
 obtain ⟨u, hu⟩ := ex_i (l := S) (i := 1) oM
 have h4 := h9 _ (mG hu)
 obtain ⟨tx, j1⟩ := ex_i (l := t.l) (i := 0) oM
 obtain ⟨ty, k9⟩ := ex_i (l := t.l) (i := 1) oM
 have d9 := i9 _ _ _ hp j1
 have i8 := i9 _ _ _ hu k9
 have v5 := two_list s7 j1 k9
 refine row_addr (i := 0) rfl oM fun s5 n7 => ?_
 subst n7
 have l6 : ∀ (bj : Nat) (b6 : Auto) (B4 : OA) (r4 : Nat) (o6 : Nat) (B5 : OA) (o4 : Nat) (n5 : Nat) (B3 : OA) (n9 : Nat) (r9 : Nat) (e6 : Int) (H0 : Ghost) (e2 : Ghost.le H2 H0) (s3 : AuR H0 (OpR u.a.syms (fun w => ∃ x y, w = x ++ y ∧ AccA u.a x ∧ AccA p.a y)) b6 B4 r4 o6 B5 o4 n5 B3 n9 r9 e6) (h5 : ApOk H0 p) (h4 : ApOk H0 u), TK 130 I K1 [(4, .pointer (ad b3)), (6, .slice (ad s5) i cp), (11, .pointer (ad bj)), (12, .int .i64 e6)] H0 [.blk bj 84 [.int .i64 b6.states, .int .i64 b6.syms, .slice B4 r4 o6, .slice B5 o4 n5, .slice B3 n9 r9], .row 84 5 (.slice (ad s5) i cp) i (apO S), .blk b3 84 [.int .i64 0, .int .i64 0, .slice none 0 0, .slice none 0 0, .slice none 0 0]] := by
  intro bj b6 B4 r4 o6 B5 o4 n5 B3 n9 r9 e6 H0 e2 s3 h5 h4
  have ⟨h2, h8, hl, hT⟩ := mo4 e2 h2 h8 hl hT
  refine o5 _ _ _ ?_
  refine g6b ?_
  intros
  refine cN ?_ ?_ <;> intro n0
  refine g4a ?_
  intros
  refine sG 2 ?_
  refine g2 ?_
  refine rD 2 [] results81 ?_
  exact ⟨rfl, ⟨0, 0, [], [], []⟩, _, _, _, _, _, _, _, _, _, _, rfl, .inl (s3.elim id fun h => absurd h.1 (by have := n0; simpa using this))⟩
  refine g3b ?_
  intros
  obtain ⟨_, u7, u6, u1, r5⟩ := s3.resolve_left (by rintro rfl; simp at n0)
  refine g2 ?_
  refine sq rfl (fP hD rfl call133 rfl (c133 hT r5.valid u7 u6 u1) ?_)
  rintro y9 D0 ⟨b8, C1, y8, C2, A4, z0, D6, z8, D1, z1, e8, rfl, t8⟩ k7
  have ⟨hl, h2, hT, h8, h5, h4⟩ := mo6 k7 hl h2 hT h8 h5 h4
  refine g3 ?_
  refine sG 0 ?_
  refine g7a ?_
  intros
  refine cN ?_ ?_ <;> intro e0
  refine g4a ?_
  intros
  refine sG 2 ?_
  refine g2 ?_
  refine rD 2 [] results81 ?_
  exact ⟨rfl, ⟨0, 0, [], [], []⟩, _, _, _, _, _, _, _, _, _, _, rfl, .inl (t8.elim id fun h => absurd h.1 (by have := e0; simpa using this))⟩
  refine g2a ?_
  intros
  obtain ⟨_, n6, s4, o8, r6⟩ := t8.resolve_left (by rintro rfl; simp at e0)
  have r1 : (acts.length : Int) = b8.syms := by rw [r6.syms, r5.syms, i8.syms]
  refine ts 7 fun _ => ?_
  refine tj 0 ?_
  refine g1 ?_
  refine tk 2 rfl kR aS nP kS (yLoadA (cs := [.int .i64 p.a.states, .int .i64 p.a.syms, .slice p.A1 p.n1 p.k1, .slice p.A2 p.n2 p.k2, .slice p.A3 p.n3 p.k3]) aC sC rfl (Mem.row (i := 1) rfl (apO_at hp)) rfl) rfl rfl rfl ?_
  refine g1 ?_
  refine oI 4 rfl kR (fP hD rfl call132 rfl (c132 hT d9.valid r6.valid (d9.syms.trans r1) h5.1 h5.2.1 h5.2.2 n6 s4 o8) ?_)
  rintro y2 H4 ⟨b7, B6, s8, t6, B8, s6, t4, B7, s9, t3, e7, rfl, l9⟩ b4
  have ⟨hl, h2, hT, h8, h5, h4, n6, s4, o8⟩ := mo9 b4 hl h2 hT h8 h5 h4 n6 s4 o8
  refine ta_next (kG b4) ?_
  refine tk 5 rfl kR aS nP (kG b4) (yExtract rfl rfl) rfl rfl rfl ?_
  refine tk 6 rfl kR aS nP (kG b4) (yExtract rfl rfl) rfl rfl rfl ?_
  refine g1 ?_
  refine sG 2 ?_
  refine g2 ?_
  refine rD 2 [] results81 ?_
  exact ⟨rfl, b7, _, _, _, _, _, _, _, _, _, _, rfl, l9.imp id fun ⟨h0, k1, k2, k3, k4⟩ => ⟨h0, k1, k2, k3, loop_op u0 v5 d9 i8 r5 r6 k4⟩⟩
 refine ts 13 fun _ => ?_
 refine tj 0 ?_
 refine g1 ?_
 refine tk 2 rfl kR aS nP kS (yLoadA (cs := [.int .i64 u.a.states, .int .i64 u.a.syms, .slice u.A1 u.n1 u.k1, .slice u.A2 u.n2 u.k2, .slice u.A3 u.n3 u.k3]) aC sC rfl (Mem.row (i := 0) rfl (apO_at hu)) rfl) rfl rfl rfl ?_
 refine g2 ?_
 refine tk 5 rfl kR aS nP kS (yLoadA (cs := [.int .i64 p.a.states, .int .i64 p.a.syms, .slice p.A1 p.n1 p.k1, .slice p.A2 p.n2 p.k2, .slice p.A3 p.n3 p.k3]) aC sC rfl (Mem.row (i := 0) rfl (apO_at hp)) rfl) rfl rfl rfl ?_
 refine tm2 6 10 ?_ ?_
 refine fP hD rfl call132 rfl (c132 hT i8.valid d9.valid (i8.syms.trans d9.syms.symm) h4.1 h4.2.1 h4.2.2 h5.1 h5.2.1 h5.2.2) ?_
 rintro w1 H3 ⟨b5, B0, d6, l1, B1, d5, l2, B2, d7, l0, e5, rfl, i7⟩ h6
 have ⟨h2, h8, hl, hT, h5, h4⟩ := mo6 h6 h2 h8 hl hT h5 h4
 refine ta_next (kG h6) ?_
 refine tk 7 rfl kR aS nP (kG h6) (yMove rfl) rfl rfl rfl ?_
 refine tk 8 rfl kR aS nP (kG h6) (yExtract rfl rfl) rfl rfl rfl ?_
 refine tk 9 rfl kR aS nP (kG h6) (yExtract rfl rfl) rfl rfl rfl ?_
 refine oI 10 rfl kR (tAlloc zC dC fun r0 => ?_)
 refine ta_next (kG h6) ?_
 refine oI 11 rfl kR (tStoreA (i := 0) (cs := [.int .i64 b5.states, .int .i64 b5.syms, .slice B0 d6 l1, .slice B1 d5 l2, .slice B2 d7 l0]) rfl sC rfl rfl rfl rfl oC nL ?_)
 refine ta_next (kG h6) ?_
 refine tk 12 rfl kR aS nP (kG h6) (yAssign rfl) rfl rfl rfl ?_
 refine g1 ?_
 exact jN (l6 r0 b5 B0 d6 l1 B1 d5 l2 B2 d7 l0 e5 H3 h6 i7 h5 h4)
 refine tAlloc zC dC fun s0 => ?_
 refine g1 ?_
 refine oI 6 rfl kR (fP hD rfl call132 rfl (c132 hT i8.valid d9.valid (i8.syms.trans d9.syms.symm) h4.1 h4.2.1 h4.2.2 h5.1 h5.2.1 h5.2.2) ?_)
 rintro w9 H1 ⟨b5, B0, d6, l1, B1, d5, l2, B2, d7, l0, e5, rfl, i7⟩ h7
 have ⟨h2, h8, hl, hT, h5, h4⟩ := mo6 h7 h2 h8 hl hT h5 h4
 refine ta_next (kG h7) ?_
 refine tk 7 rfl kR aS nP (kG h7) (yMove rfl) rfl rfl rfl ?_
 refine tk 8 rfl kR aS nP (kG h7) (yExtract rfl rfl) rfl rfl rfl ?_
 refine tk 9 rfl kR aS nP (kG h7) (yExtract rfl rfl) rfl rfl rfl ?_
 refine oI 11 rfl kR (tStoreA (i := 0) (cs := [.int .i64 b5.states, .int .i64 b5.syms, .slice B0 d6 l1, .slice B1 d5 l2, .slice B2 d7 l0]) rfl sC rfl rfl rfl rfl oC nL ?_)
 refine ta_next (kG h7) ?_
 refine tk 12 rfl kR aS nP (kG h7) (yAssign rfl) rfl rfl rfl ?_
 refine g1 ?_
 exact jN (l6 s0 b5 B0 d6 l1 B1 d5 l2 B2 d7 l0 e5 H1 h7 i7 h5 h4)
 refine g5a ?_
 intros
 refine TK.seq fun K0 l8 => ?_
 have j3 : t.op = 3 ∨ t.op = 4 ∨ t.op = 5 := op_of hok d8 l4 j4
 have d1 : ∀ (g : Nat) (hg : ∀ (args : Array Value) (w : World), (callFunc g args).run PP w = .ok (.enter g args) w) (t1 : JoinC t.op g), TK 130 I K0 [(4, .pointer (ad b3)), (6, .slice Ap i cp), (13, .func (.func g) #[] #[])] H2 [.row 84 5 (.slice Ap i cp) i (apO S), .blk b3 84 [.int .i64 0, .int .i64 0, .slice none 0 0, .slice none 0 0, .slice none 0 0]] := by
  intro g hg t1
  refine l8 _ _ _ ?_
  refine g1a ?_
  intros
  have s7 : 1 ≤ n := by have := many_of hok j3; omega
  obtain ⟨p, hp⟩ := ex_i (l := S) (i := 0) oM
  have h5 := h9 _ (mG hp)
  obtain ⟨tx, j1⟩ := ex_i (l := t.l) (i := 0) oM
  have d9 := LP.first (op := t.op) (i9 _ _ _ hp j1) j1
  refine row_cap (i := 0) rfl fun y0 => ?_
  refine row_addr (i := 0) rfl oM fun u2 j0 => ?_
  subst j0
  refine g3 ?_
  refine q (yLoadA (cs := [.int .i64 p.a.states, .int .i64 p.a.syms, .slice p.A1 p.n1 p.k1, .slice p.A2 p.n2 p.k2, .slice p.A3 p.n3 p.k3]) aC sC rfl (Mem.row (i := 0) rfl (apO_at hp)) rfl) rfl rfl rfl ?_
  refine aL fun s2 => ?_
  refine sG 0 ?_
  refine g10b ?_
  intros
  refine lp2 (fun D f f1 E H O m => ∃ (k : Nat) (u : AP), Ghost.le H2 H ∧ (k ≤ i - 1) ∧ (apsOk H S) ∧ (ApOk H u) ∧ (OpR (acts.length : Int) (LP acts t.op (t.l.take (k + 1))) u.a) ∧ m = i - 1 - k ∧ O = [.blk s2 84 [.int .i64 u.a.states, .int .i64 u.a.syms, .slice u.A1 u.n1 u.k1, .slice u.A2 u.n2 u.k2, .slice u.A3 u.n3 u.k3], f, f1] ∧ E = (113, .int .i64 (k : Int)) :: D) [4, 13, 14, 111, 112] [0, 1, 2] ⟨0, p, Ghost.le.refl _, Nat.zero_le _, h9, h5, d9, rfl, rfl, rfl⟩ ?_
  rintro _ _ _ _ ⟨k, u, c1, hk, h9, h4, hQ, rfl, rfl, rfl⟩ _ j2
  have ⟨hl, h2, hT, h8, h5⟩ := mo5 c1 hl h2 hT h8 h5
  refine g5b ?_
  intros
  refine cD ?_ ?_ <;> intro t7
  refine g4b ?_
  intros
  obtain ⟨r, hr⟩ := ex_i (l := S) (i := k + 1) oM
  have d2 := h9 _ (mG hr)
  obtain ⟨ty, k9⟩ := ex_i (l := t.l) (i := k + 1) oM
  have o9 := i9 _ _ _ hr k9
  have n8 : ((apO S).drop (0 + 1 * 5 + k * 5)).take 5 = apC r := by rw [show 0 + 1 * 5 + k * 5 = 0 + (k + 1) * 5 by omega]; exact apO_at hr
  refine g1 ?_
  refine q (yIndexAddrE uC sC rfl (cutA_some oM) rfl oM oM) rfl rfl rfl ?_
  refine q (yLoadA (cs := [.int .i64 r.a.states, .int .i64 r.a.syms, .slice r.A1 r.n1 r.k1, .slice r.A2 r.n2 r.k2, .slice r.A3 r.n3 r.k3]) aC sC rfl (Mem.row (i := 1) rfl n8) rfl) rfl rfl rfl ?_
  refine aL fun v6 => ?_
  refine sG 0 ?_
  refine g10b ?_
  intros
  refine sq rfl (TK.callP hD rfl rfl (entV hg rfl rfl) (t1 hT hQ.valid o9.valid (hQ.syms.trans o9.syms.symm) h4.1 h4.2.1 h4.2.2 d2.1 d2.2.1 d2.2.2) ?_)
  rintro v0 H5 ⟨b9, u9, v7, v9, B9, y4, v3, u5, w7, v8, e9, rfl, t9⟩ d0
  have ⟨hl, h2, hT, h8, h9, h4, d2⟩ := mo7 d0 hl h2 hT h8 h9 h4 d2
  refine g3 ?_
  refine sG 1 ?_
  refine g7a ?_
  intros
  refine cN ?_ ?_ <;> intro e4
  refine g4a ?_
  intros
  refine sG 3 ?_
  refine g2 ?_
  refine rD 3 [] results81 ?_
  exact ⟨rfl, ⟨0, 0, [], [], []⟩, _, _, _, _, _, _, _, _, _, _, rfl, .inl (t9.elim id fun h => absurd h.1 (by have := e4; simpa using this))⟩
  refine g1 ?_
  obtain ⟨_, w4, u4, v4, w8⟩ := t9.resolve_left (by rintro rfl; simp at e4)
  refine g3 ?_
  exact nK j2 ⟨k + 1, (⟨u9, v7, v9, B9, y4, v3, u5, w7, v8, b9⟩ : AP), (c1.trans d0), oM, h9, ⟨w4, u4, v4⟩, (LP.step hQ o9 k9 w8), rfl, rfl, rfl⟩
  refine g4a ?_
  intros
  refine sG 2 ?_
  refine g2 ?_
  refine rD 2 [] results81 ?_
  have v1 : k + 1 = t.l.length := by omega
  rw [v1, List.take_length] at hQ
  exact ⟨rfl, u.a, _, _, _, _, _, _, _, _, _, _, rfl, .inr ⟨rfl, h4.1, h4.2.1, h4.2.2, LP.done j3 hQ⟩⟩
 refine g11b ?_
 intros
 refine cD ?_ ?_ <;> intro n4
 refine g2 ?_
 exact jN (d1 134 call134 (fun hT va vb hs => fun k1 k2 k3 => fun k4 k5 k6 => (c134 hT va vb hs k1 k2 k3 k4 k5 k6).mono fun v H' O' _ h => h.wide fun w hw => jw4 n4 hw))
 refine g5a ?_
 intros
 refine cD ?_ ?_ <;> intro j6
 refine g2 ?_
 exact jN (d1 135 call135 (fun hT va vb hs => fun k1 k2 k3 => fun k4 k5 k6 => (c135 hT va vb hs k1 k2 k3 k4 k5 k6).mono fun v H' O' _ h => h.wide fun w hw => jw5 j6 hw))
 exact jS (d1 132 call132 (fun hT va vb hs => fun k1 k2 k3 => fun k4 k5 k6 => (c132 hT va vb hs k1 k2 k3 k4 k5 k6).mono fun v H' O' _ h => h.wide fun w hw => jw3 oM hw))
theorem c81 {acts : LB} (ha : acts.length ≤ 40) : ∀ (N : Nat) (t : Tree) (H : Ghost) (cx : LV), t.size < N → N ≤ 1000 → okT t = true → (∀ s ∈ leafs t, s ∈ acts) → TabH H → Sl rStr H acts C nc kc → rTree.rel H t cx → Ct PP 81 #[.agg cx.toArray, .slice C nc kc] H [] (AutO (TrA acts t))
 | 0, _, _, _, h, _, _, _, _, _, _ => absurd h (Nat.not_lt_zero _)
 | N + 1, t, H, cx, h, hN, hok, hin, hT, h2, h1 => by
  obtain ⟨A, n, c, rfl, hl⟩ := rTree_dest h1
  exact c81s (N := N) ha (fun t H cx h => c81 ha N t H cx h oM) oM oM hok hin hT h2 hl
theorem c39 {t : Tree} {zs : LB} (hT : TabH H) (hv : validT t = true) (hz : zs.length ≤ 40) (hin : ∀ s ∈ leafs t, s ∈ zs) (hl : Sl rTree H t.l A n c) : Ct PP 39 #[.agg #[.int .i64 t.op, .string t.act, .slice A n c]] H [] fun v H' O' => O' = [] ∧ ∃ b A1 n1 k1 A2 n2 k2 A3 n3 k3 e C nc kc ys, v = .tuple #[.agg #[.int .i64 b.states, .int .i64 b.syms, .slice A1 n1 k1, .slice A2 n2 k2, .slice A3 n3 k3], .slice C nc kc, .int .i64 e] ∧ Sl rStr H' ys C nc kc ∧ ys.length ≤ 40 ∧ (∀ s, s ∈ ys ↔ s ∈ leafs t) ∧ AuR H' (TrA ys t) b A1 n1 k1 A2 n2 k2 A3 n3 k3 e := by
 have b7 : t.size + 1 ≤ 1000 := by have := validT_size hv; omega
 refine cB func39 ntmps39 fun I hD hI c1 => ?_
 refine g2a ?_
 intros
 refine bG fun b2 => ?_
 refine aL fun b3 => ?_
 refine g4a ?_
 intros
 refine tSeal (i := 1) rfl fun H5 h7 h5 => ?_
 have ⟨hl, hT⟩ := mo2 h7 hl hT
 refine g2 ?_
 refine sq rfl (fP hD rfl call80 rfl (c80 hv hz hin hl) ?_)
 rintro v0 H8 ⟨C, nc, kc, ys, rfl, h2, h9, b4⟩ h6
 have ⟨hl, h5, hT⟩ := mo3 h6 hl h5 hT
 refine g12b ?_
 intros
 refine cN ?_ ?_ <;> intro h8
 exfalso; simp at h8
 refine g5a ?_
 intros
 refine sq rfl (fP hD rfl call81 rfl (c81 h9 _ t _ _ (Nat.lt_succ_self _) b7 (validT_ok hv) (fun s hs => (b4 s).2 hs) hT h2 (rTree_mk hl)) ?_)
 rintro v1 H0 ⟨b5, B2, b8, l0, B0, d0, l2, B1, b9, l1, e5, rfl, b6⟩ h4
 have ⟨hl, h5, h2, hT⟩ := mo4 h4 hl h5 h2 hT
 refine g3 ?_
 refine aL fun c0 => ?_
 refine sG 0 ?_
 refine g7a ?_
 intros
 refine sG 1 ?_
 refine g3 ?_
 refine TK.ret (TK.retC3 (i := 1) [] dC results39 rfl aC sC rfl rfl rfl rfl rfl ?_)
 exact ⟨rfl, b5, _, _, _, _, _, _, _, _, _, _, _, _, _, ys, rfl, h2, h9, b4, b6⟩
theorem ix_snoc {w : LB} {i : Nat} (h : w[i]? = some x) : (((w.take i).map (ixA ys)).map fun x => Value.int .i64 x) ++ [.int .i64 (ixA ys x)] = ((w.take (i + 1)).map (ixA ys)).map fun x => Value.int .i64 x := by simp [List.take_add_one, h]
theorem c16 {t : Tree} {zs : LB} (hT : TabH H) (hv : validT t = true) (hz : zs.length ≤ 40) (hin : ∀ s ∈ leafs t, s ∈ zs) (hl : Sl rTree H t.l A n c) (hw : Sl rStr H w W nw cw) (hw2 : nw ≤ 200) (hwin : ∀ s ∈ w, s ∈ leafs t) (hlang : Lang t w) : Ct PP 16 #[.agg #[.int .i64 t.op, .string t.act, .slice A n c], .slice W nw cw] H [] fun v H' O' => O' = [] ∧ ∃ r e, v = .tuple #[.bool r, .int .i64 e] ∧ (e = 13 ∨ e = 0 ∧ r = true) := by
 have d9 := hw.len
 refine cB func16 ntmps16 fun I hD hI f9 => ?_
 refine g2a ?_
 intros
 refine bG fun b2 => ?_
 refine g5b ?_
 intros
 refine tSeal (i := 0) rfl fun H5 c0 h6 => ?_
 have ⟨hl, hw, hT⟩ := mo3 c0 hl hw hT
 refine g2 ?_
 refine sq rfl (fS hD rfl call29 rfl (c29 hl) ?_)
 rintro v8 rfl
 rw [hv]
 refine g11b ?_
 intros
 refine cD ?_ ?_ <;> intro d5
 exfalso; omega
 refine g4a ?_
 intros
 refine sq rfl (fP hD rfl call39 rfl (c39 hT hv hz hin hl) ?_)
 rintro v0 H0 ⟨b5, B0, e3, l1, B1, e2, l2, B2, e9, l0, e5, C, nc, kc, ys, rfl, h2, e0, d1, d2⟩ b7
 have ⟨hl, hw, h6, hT⟩ := mo4 b7 hl hw h6 hT
 have e7 := h2.len
 refine g4 ?_
 refine aL fun e6 => ?_
 refine sG 0 ?_
 refine g9b ?_
 intros
 refine cN ?_ ?_ <;> intro b8
 refine g6a ?_
 intros
 refine kP [] ?_
 refine r2 results16 ?_
 exact ⟨rfl, _, _, rfl, .inl (d2.elim id fun h => absurd h.1 (by have := b8; simpa using this))⟩
 refine g13c ?_
 intros
 obtain ⟨_, b4, h8, h9, d0⟩ := d2.resolve_left (by rintro rfl; simp at b8)
 refine newRow 3 1 ?_
 refine eO2 (fun _ e1 => [.row 3 1 (.slice none 0 0) 0 (((w.take 0).map (ixA ys)).map fun x => Value.int .i64 x), e1]) ?_ (he := by simp)
 refine lp1 (fun D f E H O m => ∃ (i : Nat) (As : OA) (cs : Nat), H0 = H ∧ (i ≤ nw) ∧ m = nw - i ∧ O = [.row 3 1 (.slice As i cs) i (((w.take i).map (ixA ys)).map fun x => Value.int .i64 x), f] ∧ E = (9, .slice As i cs) :: (30, .int .i64 (i : Int)) :: D) [6, 7, 28, 29] [0, 1] ⟨0, none, 0, rfl, Nat.zero_le _, rfl, rfl, rfl⟩ ?_
 rintro _ _ _ _ ⟨i, As, cs, rfl, hi, rfl, rfl, rfl⟩ _ c1
 refine g5b ?_
 intros
 refine cD ?_ ?_ <;> intro d4
 refine g5b ?_
 intros
 obtain ⟨d6, h4⟩ := eX hw i
 obtain ⟨f8, o4, d3, d7⟩ := hw.atS h4
 refine g8a ?_
 intros
 have e8 := ixA_in ((d1 _).2 (hwin _ (mG h4)))
 refine sq rfl (fS hD rfl call40 rfl (c40 h2 oM) ?_)
 rintro v1 rfl
 refine g8b ?_
 intros
 refine cD ?_ ?_ <;> intro d8
 exfalso; omega
 refine g4 ?_
 refine sq rfl (bS [.int .i64 (ixA ys d6)] fun e4 => ?_)
 refine sq rfl (aR 1 fun A0 c48 => ?_)
 refine g5 ?_
 rw [ix_snoc h4]
 exact nK c1 ⟨i + 1, A0, c48, rfl, oM, rfl, rfl, rfl⟩
 refine g2a ?_
 intros
 have b9 : w.take i = w := List.take_of_length_le oM
 refine eO2 (fun _ e1 => [.row 3 1 (.slice As i cs) i ((w.map (ixA ys)).map fun x => Value.int .i64 x), e1]) ?_ (he := by rw [b9])
 refine tR 0 (r := rInt) (ys := (w.map (ixA ys))) (repsI _) fun H1 h7 h5 => ?_
 have ⟨h2, hw, hl, hT, h6, b4, h8, h9⟩ := mo8 h7 h2 hw hl hT h6 b4 h8 h9
 refine g3 ?_
 refine sq rfl (fP hD rfl call41 rfl (c41 b4 h8 h9 d0.valid h5 oM (by rw [d0.syms]; intro c hc; obtain ⟨x, hx, rfl⟩ := List.mem_map.1 hc; exact ixA_in ((d1 x).2 (hwin x hx)))) ?_)
 rintro v2 H2 ⟨r, rfl, hr⟩ b6
 have ⟨h2, h5, hw, hl, hT, h6, b4, h8, h9⟩ := mo9 b6 h2 h5 hw hl hT h6 b4 h8 h9
 refine g5 ?_
 refine kP [] ?_
 refine r2 results16 ?_
 exact ⟨rfl, _, _, rfl, .inr ⟨rfl, hr (d0.acc _ ⟨w, hlang, rfl⟩)⟩⟩
end
end Go.Proofs.YtookcfeogbeooaaGreatDoor
