/-
Trees that are sorted in place. Rows out of which repeats are taken. Trees that are joined and made normal.
Conditions: those that each theorem states.
-/
import Derived.Test.YtookcfeogbeooaaGreatDoorM19
set_option linter.all false
set_option maxRecDepth 100000
set_option maxHeartbeats 8000000
set_option autoImplicit true
set_option relaxedAutoImplicit true
namespace Go.Proofs.YtookcfeogbeooaaGreatDoor
open Go Go.Proofs
section
open Go.Proofs.Tryz
attribute [local irreducible] TK Yl OpK AnyT wpList Code.wp
theorem half_eq {x : Int} (h0 : 0 ≤ x) (h1 : x < 4611686018427387904) : IntKind.i64.wrap (IntKind.u64.wrap x / 2 ^ 1) = x / 2 := by
 have e : IntKind.u64.wrap x = x := by
  unfold IntKind.wrap
  simp only [IntKind.bits, IntKind.signed, Bool.false_and]
  rw [if_neg dC]
  exact Int.emod_eq_of_lt h0 oM
 rw [e, show (2 : Int) ^ 1 = 2 from rfl, wrap_id oM oM]
theorem c299 {B : OA} {m c : Nat} {T : List TV} (hm : T.length = m) (hmc : m ≤ 1000000) (hok : tvOk H T) {a b k : Int} (h0 : 0 ≤ a) (h1 : 0 ≤ b) (h2 : 0 ≤ k) (h3 : a + k ≤ m) (h4 : b + k ≤ m) : Ct PP 299 #[.slice B m c, .int .i64 a, .int .i64 b, .int .i64 k, .func (.func 173) #[] #[]] H [.row 37 3 (.slice B m c) m (tC T)] fun v H' O' => ∃ T', O' = [.row 37 3 (.slice B m c) m (tC T')] ∧ T'.Perm T := by
 refine cB func299 ntmps299 fun I hD hI d4 => ?_
 refine g5a ?_
 intros
 refine lp0 (fun D E H' O m' => ∃ (i : Int) (T' : List TV), H = H' ∧ (0 ≤ i ∧ i ≤ k) ∧ (T'.Perm T) ∧ m' = (k - i).toNat ∧ O = [.row 37 3 (.slice B m c) m (tC (T'))] ∧ E = (10, .int .i64 i) :: D) [0, 1, 2, 3] [0] ⟨0, T, rfl, oM, (.refl _), rfl, rfl, rfl⟩ ?_
 rintro _ _ _ _ ⟨i, T', rfl, hi, hp, rfl, rfl, rfl⟩ _ b8
 have d2 := hp.length_eq
 have hok := hok.perm hp
 refine g7b ?_
 intros
 refine cD ?_ ?_ <;> intro d1
 refine g3a ?_
 intros
 refine row_addr (i := 0) rfl oM fun d3 h9 => ?_
 subst h9
 refine tss (List.nil_sublist _) 22 fun _ => ?_
 refine tj 0 ?_
 refine g12 ?_
 refine tj 14 ?_
 refine g4 ?_
 refine tm2 13 19 ?_ ?_
 obtain ⟨b6, h7⟩ := ex_i (l := T') (i := (b + i : Int).toNat) oM
 have c0 := hok _ (mG h7)
 refine TK.yl (yLoadA (cs := [.int .i64 b6.o, .string b6.a, .slice b6.A b6.n b6.c]) aC sC rfl (Mem.row (i := 0) rfl (tC_at h7)) rfl) rfl (blt_lt rfl) ?_
 refine g1 ?_
 obtain ⟨b7, h5⟩ := ex_i (l := T') (i := (a + i : Int).toNat) oM
 have c1 := hok _ (mG h5)
 refine oI 19 rfl kR (TK.yl (yLoadA (cs := [.int .i64 b7.o, .string b7.a, .slice b7.A b7.n b7.c]) aC sC rfl (Mem.row (i := 0) rfl (tC_at h5)) rfl) rfl (blt_lt rfl) ?_)
 refine g2 ?_
 refine oI 21 rfl kR (tStoreRow (i := 0) (cs := [.int .i64 b6.o, .string b6.a, .slice b6.A b6.n b6.c]) rfl sC rfl rfl rfl rfl oC (by rw [tC_len]; omega) ?_)
 rw [tC_set (x := b6) oM]
 refine g3 ?_
 refine sq rfl (tStoreRow (i := 0) (cs := [.int .i64 b7.o, .string b7.a, .slice b7.A b7.n b7.c]) rfl sC rfl rfl rfl rfl oC (by rw [tC_len]; simp only [List.length_set]; omega) ?_)
 rw [tC_set (x := b7) (by simp only [List.length_set]; omega)]
 refine g5 ?_
 exact nK b8 ⟨i + 1, ((T').set ((a + i : Int).toNat) b6).set ((b + i : Int).toNat) b7, rfl, oM, ((swap_perm h5 h7).trans hp), rfl, rfl, rfl⟩
 obtain ⟨b4, h6⟩ := ex_i (l := T') (i := (a + i : Int).toNat) oM
 have b9 := hok _ (mG h6)
 refine TK.yl (yLoadA (cs := [.int .i64 b4.o, .string b4.a, .slice b4.A b4.n b4.c]) aC sC rfl (Mem.row (i := 0) rfl (tC_at h6)) rfl) rfl (blt_lt rfl) ?_
 refine g1 ?_
 obtain ⟨b5, h8⟩ := ex_i (l := T') (i := (b + i : Int).toNat) oM
 have d0 := hok _ (mG h8)
 refine oI 13 rfl kR (TK.yl (yLoadA (cs := [.int .i64 b5.o, .string b5.a, .slice b5.A b5.n b5.c]) aC sC rfl (Mem.row (i := 0) rfl (tC_at h8)) rfl) rfl (blt_lt rfl) ?_)
 refine g1 ?_
 refine tj 20 ?_
 refine oI 21 rfl kR (tStoreRow (i := 0) (cs := [.int .i64 b5.o, .string b5.a, .slice b5.A b5.n b5.c]) rfl sC rfl rfl rfl rfl oC (by rw [tC_len]; omega) ?_)
 rw [tC_set (x := b5) oM]
 refine g3 ?_
 refine sq rfl (tStoreRow (i := 0) (cs := [.int .i64 b4.o, .string b4.a, .slice b4.A b4.n b4.c]) rfl sC rfl rfl rfl rfl oC (by rw [tC_len]; simp only [List.length_set]; omega) ?_)
 rw [tC_set (x := b4) (by simp only [List.length_set]; omega)]
 refine g5 ?_
 exact nK b8 ⟨i + 1, ((T').set ((a + i : Int).toNat) b5).set ((b + i : Int).toNat) b4, rfl, oM, ((swap_perm h6 h8).trans hp), rfl, rfl, rfl⟩
 refine TK.exit (TK.keep [0] dC rfl (TK.end0 results299 ?_))
 exact ⟨_, rfl, hp⟩
theorem c282 {B : OA} {m c : Nat} {T : List TV} (hm : T.length = m) (hmc : m ≤ 1000000) (hok : tvOk H T) {a b d : Int} (h0 : 0 ≤ a) (h1 : a < d) (h2 : d < b) (h3 : b ≤ m) : Ct PP 282 #[.slice B m c, .int .i64 a, .int .i64 d, .int .i64 b, .func (.func 173) #[] #[]] H [.row 37 3 (.slice B m c) m (tC T)] fun v H' O' => ∃ T', O' = [.row 37 3 (.slice B m c) m (tC T')] ∧ T'.Perm T := by
 have h8 := hok
 refine cB func282 ntmps282 fun I hD hI b7 => ?_
 refine g15c ?_
 intros
 refine g1 ?_
 refine lp0 (fun D E H' O m' => ∃ (i j : Int) (T' : List TV), H = H' ∧ (1 ≤ i ∧ i ≤ d - a ∧ 1 ≤ j ∧ j ≤ b - d) ∧ (T'.Perm T) ∧ m' = (i + j).toNat ∧ O = [.row 37 3 (.slice B m c) m (tC (T'))] ∧ E = (10, .int .i64 i) :: (11, .int .i64 j) :: D) [0, 2, 4] [0] ⟨d - a, b - d, T, rfl, oM, (.refl _), rfl, rfl, rfl⟩ ?_
 rintro _ _ _ _ ⟨i, j, T', rfl, hi, hp, rfl, rfl, rfl⟩ _ b4
 have h9 := hp.length_eq
 have hok := h8.perm hp
 refine g7b ?_
 intros
 refine cN ?_ ?_ <;> intro h6
 have b6 : ¬ i = j := by simpa using h6
 refine g8a ?_
 intros
 refine cD ?_ ?_ <;> intro b5
 refine g9a ?_
 intros
 refine sq rfl (fT hD [0] [] rfl call299 rfl (c299 (T := T') oM hmc hok oM oM oM oM oM) ?_)
 rintro v1 O2 ⟨T1, rfl, h5⟩
 have hp := h5.trans hp
 have h9 := hp.length_eq
 have hok := hok.perm h5
 refine g6 ?_
 exact nK b4 ⟨i - j, j, T1, rfl, oM, hp, rfl, rfl, rfl⟩
 refine g12a ?_
 intros
 refine g1 ?_
 refine sq rfl (fT hD [0] [] rfl call299 rfl (c299 (T := T') oM hmc hok oM oM oM oM oM) ?_)
 rintro v2 O3 ⟨T2, rfl, h7⟩
 have hp := h7.trans hp
 have h9 := hp.length_eq
 have hok := hok.perm h7
 refine g6 ?_
 exact nK b4 ⟨i, j - i, T2, rfl, oM, hp, rfl, rfl, rfl⟩
 have b6 : i = j := by simpa using h6
 refine g9 ?_
 refine sq rfl (fT hD [0] [] rfl call299 rfl (c299 (T := T') oM hmc hok oM oM oM oM oM) ?_)
 rintro v0 O1 ⟨T3, rfl, h4⟩
 have hp := h4.trans hp
 have h9 := hp.length_eq
 have hok := hok.perm h4
 refine TK.nil (TK.keep [0] dC rfl (TK.end0 results282 ?_))
 exact ⟨_, rfl, hp⟩
theorem c257 {B : OA} {m c : Nat} {T : List TV} (hm : T.length = m) (hmc : m ≤ 1000000) (hok : tvOk H T) {a b : Int} (h0 : 0 ≤ a) (h1 : a ≤ b) (h2 : b ≤ m) : Ct PP 257 #[.slice B m c, .int .i64 a, .int .i64 b, .func (.func 173) #[] #[]] H [.row 37 3 (.slice B m c) m (tC T)] fun v H' O' => ∃ T', O' = [.row 37 3 (.slice B m c) m (tC T')] ∧ T'.Perm T := by
 have c0 := hok
 refine cB func257 ntmps257 fun I hD hI e4 => ?_
 refine g7a ?_
 intros
 refine lp0 (fun D E H' O m' => ∃ (i : Int) (T' : List TV), H = H' ∧ (a + 1 ≤ i ∧ (i ≤ b ∨ i = a + 1)) ∧ (T'.Perm T) ∧ m' = (b - i).toNat ∧ O = [.row 37 3 (.slice B m c) m (tC (T'))] ∧ E = (8, .int .i64 i) :: D) [0, 1, 2, 3] [0] ⟨a + 1, T, rfl, oM, (.refl _), rfl, rfl, rfl⟩ ?_
 rintro _ _ _ _ ⟨i, T', rfl, hi, hp, rfl, rfl, rfl⟩ _ d4
 have e3 := hp.length_eq
 have hok := c0.perm hp
 refine g7b ?_
 intros
 refine cD ?_ ?_ <;> intro e1
 refine g9b ?_
 intros
 refine lp0 (fun D E H' O m' => ∃ (j : Int) (T1 : List TV), H = H' ∧ (a ≤ j ∧ j ≤ i) ∧ (T1.Perm T) ∧ m' = (j - a).toNat ∧ O = [.row 37 3 (.slice B m c) m (tC (T1))] ∧ E = (9, .int .i64 j) :: D) [0, 1, 2, 3, 8] [0] ⟨i, T', rfl, oM, hp, rfl, rfl, rfl⟩ ?_
 rintro _ _ _ _ ⟨j, T1, rfl, hj, h8, rfl, rfl, rfl⟩ _ h9
 have d5 := h8.length_eq
 have hok := c0.perm h8
 refine g2b ?_
 intros
 refine ts 14 fun _ => ?_
 refine tj 0 ?_
 refine g3 ?_
 refine sD 21 ?_ ?_ <;> intro e2
 refine tjY 4 ?_
 refine g2 ?_
 refine row_addr (i := 0) rfl oM fun e5 d3 => ?_
 subst d3
 refine tjY 7 ?_
 obtain ⟨b9, d0⟩ := ex_i (l := T1) (i := (j : Int).toNat) oM
 have d2 := hok _ (mG d0)
 refine tkY 8 rfl kR aS nP kS (yLoadA (cs := [.int .i64 b9.o, .string b9.a, .slice b9.A b9.n b9.c]) aC sC rfl (Mem.row (i := 0) rfl (tC_at d0)) rfl) rfl rfl rfl rfl rfl rfl ?_
 refine g4 ?_
 obtain ⟨b8, c1⟩ := ex_i (l := T1) (i := (j - 1 : Int).toNat) oM
 have d1 := hok _ (mG c1)
 refine tkY 13 rfl kR aS nP kS (yLoadA (cs := [.int .i64 b8.o, .string b8.a, .slice b8.A b8.n b8.c]) aC sC rfl (Mem.row (i := 0) rfl (tC_at c1)) rfl) rfl rfl rfl rfl rfl rfl ?_
 refine g1 ?_
 refine sqY rfl rfl rfl rfl (TK.callS hD rfl rfl (entV call173 rfl rfl) (c173 _ (b9.t) (b8.t) _ [_, _, _] [_, _, _] (Nat.lt_succ_self _) (rTree_mk (t := b9.t) d2) (rTree_mk (t := b8.t) d1)) ?_)
 rintro v0 ⟨r0, rfl⟩
 refine g3 ?_
 refine cD ?_ ?_ <;> intro d8
 refine g3a ?_
 intros
 refine tss (List.nil_sublist _) 16 fun _ => ?_
 refine tj 0 ?_
 refine g8 ?_
 refine tj 10 ?_
 refine g2 ?_
 refine tm2 9 13 ?_ ?_
 obtain ⟨b7, h7⟩ := ex_i (l := T1) (i := (j - 1 : Int).toNat) oM
 have d7 := hok _ (mG h7)
 refine TK.yl (yLoadA (cs := [.int .i64 b7.o, .string b7.a, .slice b7.A b7.n b7.c]) aC sC rfl (Mem.row (i := 0) rfl (tC_at h7)) rfl) rfl (blt_lt rfl) ?_
 refine g1 ?_
 obtain ⟨b4, h4⟩ := ex_i (l := T1) (i := (j : Int).toNat) oM
 have e0 := hok _ (mG h4)
 refine oI 13 rfl kR (TK.yl (yLoadA (cs := [.int .i64 b4.o, .string b4.a, .slice b4.A b4.n b4.c]) aC sC rfl (Mem.row (i := 0) rfl (tC_at h4)) rfl) rfl (blt_lt rfl) ?_)
 refine g2 ?_
 refine oI 15 rfl kR (tStoreRow (i := 0) (cs := [.int .i64 b7.o, .string b7.a, .slice b7.A b7.n b7.c]) rfl sC rfl rfl rfl rfl oC (by rw [tC_len]; omega) ?_)
 rw [tC_set (x := b7) oM]
 refine g3 ?_
 refine sq rfl (tStoreRow (i := 0) (cs := [.int .i64 b4.o, .string b4.a, .slice b4.A b4.n b4.c]) rfl sC rfl rfl rfl rfl oC (by rw [tC_len]; simp only [List.length_set]; omega) ?_)
 rw [tC_set (x := b4) (by simp only [List.length_set]; omega)]
 refine g5 ?_
 exact nK h9 ⟨j - 1, ((T1).set ((j : Int).toNat) b7).set ((j - 1 : Int).toNat) b4, rfl, oM, ((swap_perm h4 h7).trans h8), rfl, rfl, rfl⟩
 obtain ⟨b6, h6⟩ := ex_i (l := T1) (i := (j : Int).toNat) oM
 have d6 := hok _ (mG h6)
 refine TK.yl (yLoadA (cs := [.int .i64 b6.o, .string b6.a, .slice b6.A b6.n b6.c]) aC sC rfl (Mem.row (i := 0) rfl (tC_at h6)) rfl) rfl (blt_lt rfl) ?_
 refine g1 ?_
 obtain ⟨b5, h5⟩ := ex_i (l := T1) (i := (j - 1 : Int).toNat) oM
 have d9 := hok _ (mG h5)
 refine oI 9 rfl kR (TK.yl (yLoadA (cs := [.int .i64 b5.o, .string b5.a, .slice b5.A b5.n b5.c]) aC sC rfl (Mem.row (i := 0) rfl (tC_at h5)) rfl) rfl (blt_lt rfl) ?_)
 refine g1 ?_
 refine tj 14 ?_
 refine oI 15 rfl kR (tStoreRow (i := 0) (cs := [.int .i64 b5.o, .string b5.a, .slice b5.A b5.n b5.c]) rfl sC rfl rfl rfl rfl oC (by rw [tC_len]; omega) ?_)
 rw [tC_set (x := b5) oM]
 refine g3 ?_
 refine sq rfl (tStoreRow (i := 0) (cs := [.int .i64 b6.o, .string b6.a, .slice b6.A b6.n b6.c]) rfl sC rfl rfl rfl rfl oC (by rw [tC_len]; simp only [List.length_set]; omega) ?_)
 rw [tC_set (x := b6) (by simp only [List.length_set]; omega)]
 refine g5 ?_
 exact nK h9 ⟨j - 1, ((T1).set ((j : Int).toNat) b5).set ((j - 1 : Int).toNat) b6, rfl, oM, ((swap_perm h6 h5).trans h8), rfl, rfl, rfl⟩
 refine g5 ?_
 exact nK d4 ⟨i + 1, T1, rfl, oM, h8, rfl, rfl, rfl⟩
 refine tjN 4 ?_
 refine g18 ?_
 refine g2 ?_
 exact nK d4 ⟨i + 1, T1, rfl, oM, h8, rfl, rfl, rfl⟩
 refine TK.exit (TK.keep [0] dC rfl (TK.end0 results257 ?_))
 exact ⟨_, rfl, hp⟩
theorem c258s {N m c : Nat} {H : Ghost} {B : OA} {T : List TV} (ih : ∀ (T : List TV) (H : Ghost) (B : OA) (a d b : Int), T.length = m → tvOk H T → 0 ≤ a → a < d → d < b → b ≤ m → (b - a).toNat < N → Ct PP 258 #[.slice B m c, .int .i64 a, .int .i64 d, .int .i64 b, .func (.func 173) #[] #[]] H [.row 37 3 (.slice B m c) m (tC T)] fun v H' O' => ∃ T', O' = [.row 37 3 (.slice B m c) m (tC T')] ∧ T'.Perm T) (hm : T.length = m) (hmc : m ≤ 1000000) (hok : tvOk H T) {a b d : Int} (h0 : 0 ≤ a) (h1 : a < d) (h2 : d < b) (h3 : b ≤ m) (hN : (b - a).toNat ≤ N) : Ct PP 258 #[.slice B m c, .int .i64 a, .int .i64 d, .int .i64 b, .func (.func 173) #[] #[]] H [.row 37 3 (.slice B m c) m (tC T)] fun v H' O' => ∃ T', O' = [.row 37 3 (.slice B m c) m (tC T')] ∧ T'.Perm T := by
 have d3 := hok
 have hp : T.Perm T := .refl _
 have e2 := hm
 refine cB func258 ntmps258 fun I hD hI r7 => ?_
 refine g8b ?_
 intros
 refine cD ?_ ?_ <;> intro r5
 refine g12c ?_
 intros
 refine lp1 (fun D f E H' O m' => ∃ (i j : Int), H = H' ∧ (d ≤ i ∧ i ≤ j ∧ j ≤ b) ∧ m' = (j - i).toNat ∧ O = [f] ∧ E = (10, .int .i64 i) :: (11, .int .i64 j) :: D) [0, 1, 4] [0] ⟨d, b, rfl, oM, rfl, rfl, rfl⟩ ?_
 rintro _ _ _ _ ⟨i, j, rfl, n0, rfl, rfl, rfl⟩ _ j2
 refine g7b ?_
 intros
 refine cD ?_ ?_ <;> intro n4
 refine g8a ?_
 intros
 refine q (yShr (m := 1) rfl rfl dC) rfl rfl rfl ?_
 refine g4a ?_
 intros
 rw [half_eq oM oM]
 obtain ⟨hh, i4⟩ : ∃ z, z = (i + j) / 2 := ⟨_, rfl⟩
 rw [← i4]
 refine ts 9 fun _ => ?_
 refine tj 0 ?_
 refine g2 ?_
 refine row_addr (i := 0) rfl oM fun o8 j9 => ?_
 subst j9
 refine tj 3 ?_
 obtain ⟨e8, i6⟩ := ex_i (l := T) (i := (hh : Int).toNat) oM
 have k2 := hok _ (mG i6)
 refine tk 4 rfl kR aS nP kS (yLoadA (cs := [.int .i64 e8.o, .string e8.a, .slice e8.A e8.n e8.c]) aC sC rfl (Mem.row (i := 0) rfl (tC_at i6)) rfl) rfl rfl rfl ?_
 refine g3 ?_
 obtain ⟨e6, i7⟩ := ex_i (l := T) (i := (a : Int).toNat) oM
 have j8 := hok _ (mG i7)
 refine tk 8 rfl kR aS nP kS (yLoadA (cs := [.int .i64 e6.o, .string e6.a, .slice e6.A e6.n e6.c]) aC sC rfl (Mem.row (i := 0) rfl (tC_at i7)) rfl) rfl rfl rfl ?_
 refine g1 ?_
 refine sq rfl (TK.callS hD rfl rfl (entV call173 rfl rfl) (c173 _ (e8.t) (e6.t) _ [_, _, _] [_, _, _] (Nat.lt_succ_self _) (rTree_mk (t := e8.t) k2) (rTree_mk (t := e6.t) j8)) ?_)
 rintro v4 ⟨r3, rfl⟩
 refine g2 ?_
 refine cD ?_ ?_ <;> intro n7
 refine g4 ?_
 exact nK j2 ⟨hh + 1, j, rfl, oM, rfl, rfl, rfl⟩
 refine g3 ?_
 exact nK j2 ⟨i, hh, rfl, oM, rfl, rfl, rfl⟩
 refine g8b ?_
 intros
 refine lp0 (fun D E H' O m' => ∃ (k : Int) (T' : List TV), H = H' ∧ (a ≤ k) ∧ (T'.Perm T) ∧ m' = (i - k).toNat ∧ O = [.row 37 3 (.slice B m c) m (tC (T'))] ∧ E = (13, .int .i64 k) :: D) [0, 10] [0] ⟨a, T, rfl, oM, hp, rfl, rfl, rfl⟩ ?_
 rintro _ _ _ _ ⟨k, T', rfl, hk, h8, rfl, rfl, rfl⟩ _ j3
 have hp := h8
 have e2 := h8.length_eq
 have hok := d3.perm h8
 refine g8b ?_
 intros
 refine cD ?_ ?_ <;> intro o5
 refine g3a ?_
 intros
 refine row_addr (i := 0) rfl oM fun o7 k4 => ?_
 subst k4
 refine tss (List.nil_sublist _) 16 fun _ => ?_
 refine tj 0 ?_
 refine g8 ?_
 refine tj 10 ?_
 refine g2 ?_
 refine tm2 9 13 ?_ ?_
 obtain ⟨d0, e1⟩ := ex_i (l := T') (i := (k + 1 : Int).toNat) oM
 have n5 := hok _ (mG e1)
 refine TK.yl (yLoadA (cs := [.int .i64 d0.o, .string d0.a, .slice d0.A d0.n d0.c]) aC sC rfl (Mem.row (i := 0) rfl (tC_at e1)) rfl) rfl (blt_lt rfl) ?_
 refine g1 ?_
 obtain ⟨d1, e3⟩ := ex_i (l := T') (i := (k : Int).toNat) oM
 have n6 := hok _ (mG e3)
 refine oI 13 rfl kR (TK.yl (yLoadA (cs := [.int .i64 d1.o, .string d1.a, .slice d1.A d1.n d1.c]) aC sC rfl (Mem.row (i := 0) rfl (tC_at e3)) rfl) rfl (blt_lt rfl) ?_)
 refine g2 ?_
 refine oI 15 rfl kR (tStoreRow (i := 0) (cs := [.int .i64 d0.o, .string d0.a, .slice d0.A d0.n d0.c]) rfl sC rfl rfl rfl rfl oC (by rw [tC_len]; omega) ?_)
 rw [tC_set (x := d0) oM]
 refine g3 ?_
 refine sq rfl (tStoreRow (i := 0) (cs := [.int .i64 d1.o, .string d1.a, .slice d1.A d1.n d1.c]) rfl sC rfl rfl rfl rfl oC (by rw [tC_len]; simp only [List.length_set]; omega) ?_)
 rw [tC_set (x := d1) (by simp only [List.length_set]; omega)]
 refine g5 ?_
 exact nK j3 ⟨k + 1, ((T').set ((k : Int).toNat) d0).set ((k + 1 : Int).toNat) d1, rfl, oM, ((swap_perm e3 e1).trans h8), rfl, rfl, rfl⟩
 obtain ⟨c1, e7⟩ := ex_i (l := T') (i := (k : Int).toNat) oM
 have o6 := hok _ (mG e7)
 refine TK.yl (yLoadA (cs := [.int .i64 c1.o, .string c1.a, .slice c1.A c1.n c1.c]) aC sC rfl (Mem.row (i := 0) rfl (tC_at e7)) rfl) rfl (blt_lt rfl) ?_
 refine g1 ?_
 obtain ⟨c0, e9⟩ := ex_i (l := T') (i := (k + 1 : Int).toNat) oM
 have n9 := hok _ (mG e9)
 refine oI 9 rfl kR (TK.yl (yLoadA (cs := [.int .i64 c0.o, .string c0.a, .slice c0.A c0.n c0.c]) aC sC rfl (Mem.row (i := 0) rfl (tC_at e9)) rfl) rfl (blt_lt rfl) ?_)
 refine g1 ?_
 refine tj 14 ?_
 refine oI 15 rfl kR (tStoreRow (i := 0) (cs := [.int .i64 c0.o, .string c0.a, .slice c0.A c0.n c0.c]) rfl sC rfl rfl rfl rfl oC (by rw [tC_len]; omega) ?_)
 rw [tC_set (x := c0) oM]
 refine g3 ?_
 refine sq rfl (tStoreRow (i := 0) (cs := [.int .i64 c1.o, .string c1.a, .slice c1.A c1.n c1.c]) rfl sC rfl rfl rfl rfl oC (by rw [tC_len]; simp only [List.length_set]; omega) ?_)
 rw [tC_set (x := c1) (by simp only [List.length_set]; omega)]
 refine g5 ?_
 exact nK j3 ⟨k + 1, ((T').set ((k : Int).toNat) c0).set ((k + 1 : Int).toNat) c1, rfl, oM, ((swap_perm e7 e9).trans h8), rfl, rfl, rfl⟩
 refine g1 ?_
 refine TK.ret (TK.ret0 results258 ?_)
 exact ⟨_, rfl, hp⟩
 refine g9b ?_
 intros
 refine cD ?_ ?_ <;> intro n1
 refine g12c ?_
 intros
 refine lp1 (fun D f E H' O m' => ∃ (i j : Int), H = H' ∧ (a ≤ i ∧ i ≤ j ∧ j ≤ d) ∧ m' = (j - i).toNat ∧ O = [f] ∧ E = (14, .int .i64 i) :: (15, .int .i64 j) :: D) [0, 2, 4] [0] ⟨a, d, rfl, oM, rfl, rfl, rfl⟩ ?_
 rintro _ _ _ _ ⟨i, j, rfl, n0, rfl, rfl, rfl⟩ _ j1
 refine g7b ?_
 intros
 refine cD ?_ ?_ <;> intro n3
 refine g8a ?_
 intros
 refine q (yShr (m := 1) rfl rfl dC) rfl rfl rfl ?_
 refine g4a ?_
 intros
 rw [half_eq oM oM]
 obtain ⟨hh, i4⟩ : ∃ z, z = (i + j) / 2 := ⟨_, rfl⟩
 rw [← i4]
 refine ts 9 fun _ => ?_
 refine tj 0 ?_
 refine g2 ?_
 refine row_addr (i := 0) rfl oM fun r4 j7 => ?_
 subst j7
 refine tj 3 ?_
 obtain ⟨e4, f9⟩ := ex_i (l := T) (i := (d : Int).toNat) oM
 have k0 := hok _ (mG f9)
 refine tk 4 rfl kR aS nP kS (yLoadA (cs := [.int .i64 e4.o, .string e4.a, .slice e4.A e4.n e4.c]) aC sC rfl (Mem.row (i := 0) rfl (tC_at f9)) rfl) rfl rfl rfl ?_
 refine g3 ?_
 obtain ⟨e5, j0⟩ := ex_i (l := T) (i := (hh : Int).toNat) oM
 have k3 := hok _ (mG j0)
 refine tk 8 rfl kR aS nP kS (yLoadA (cs := [.int .i64 e5.o, .string e5.a, .slice e5.A e5.n e5.c]) aC sC rfl (Mem.row (i := 0) rfl (tC_at j0)) rfl) rfl rfl rfl ?_
 refine g1 ?_
 refine sq rfl (TK.callS hD rfl rfl (entV call173 rfl rfl) (c173 _ (e4.t) (e5.t) _ [_, _, _] [_, _, _] (Nat.lt_succ_self _) (rTree_mk (t := e4.t) k0) (rTree_mk (t := e5.t) k3)) ?_)
 rintro v5 ⟨r1, rfl⟩
 refine g3 ?_
 refine cN ?_ ?_ <;> intro o4
 refine g4 ?_
 exact nK j1 ⟨hh + 1, j, rfl, oM, rfl, rfl, rfl⟩
 refine g3 ?_
 exact nK j1 ⟨i, hh, rfl, oM, rfl, rfl, rfl⟩
 refine g8b ?_
 intros
 refine lp0 (fun D E H' O m' => ∃ (k : Int) (T' : List TV), H = H' ∧ (k ≤ d) ∧ (T'.Perm T) ∧ m' = (k - i).toNat ∧ O = [.row 37 3 (.slice B m c) m (tC (T'))] ∧ E = (17, .int .i64 k) :: D) [0, 14] [0] ⟨d, T, rfl, oM, hp, rfl, rfl, rfl⟩ ?_
 rintro _ _ _ _ ⟨k, T', rfl, hk, h8, rfl, rfl, rfl⟩ _ j5
 have hp := h8
 have e2 := h8.length_eq
 have hok := d3.perm h8
 refine g7b ?_
 intros
 refine cD ?_ ?_ <;> intro n8
 refine g3a ?_
 intros
 refine row_addr (i := 0) rfl oM fun r6 k1 => ?_
 subst k1
 refine tss (List.nil_sublist _) 16 fun _ => ?_
 refine tj 0 ?_
 refine g8 ?_
 refine tj 10 ?_
 refine g2 ?_
 refine tm2 9 13 ?_ ?_
 obtain ⟨b5, h7⟩ := ex_i (l := T') (i := (k - 1 : Int).toNat) oM
 have l5 := hok _ (mG h7)
 refine TK.yl (yLoadA (cs := [.int .i64 b5.o, .string b5.a, .slice b5.A b5.n b5.c]) aC sC rfl (Mem.row (i := 0) rfl (tC_at h7)) rfl) rfl (blt_lt rfl) ?_
 refine g1 ?_
 obtain ⟨b6, h9⟩ := ex_i (l := T') (i := (k : Int).toNat) oM
 have l6 := hok _ (mG h9)
 refine oI 13 rfl kR (TK.yl (yLoadA (cs := [.int .i64 b6.o, .string b6.a, .slice b6.A b6.n b6.c]) aC sC rfl (Mem.row (i := 0) rfl (tC_at h9)) rfl) rfl (blt_lt rfl) ?_)
 refine g2 ?_
 refine oI 15 rfl kR (tStoreRow (i := 0) (cs := [.int .i64 b5.o, .string b5.a, .slice b5.A b5.n b5.c]) rfl sC rfl rfl rfl rfl oC (by rw [tC_len]; omega) ?_)
 rw [tC_set (x := b5) oM]
 refine g3 ?_
 refine sq rfl (tStoreRow (i := 0) (cs := [.int .i64 b6.o, .string b6.a, .slice b6.A b6.n b6.c]) rfl sC rfl rfl rfl rfl oC (by rw [tC_len]; simp only [List.length_set]; omega) ?_)
 rw [tC_set (x := b6) (by simp only [List.length_set]; omega)]
 refine g5 ?_
 exact nK j5 ⟨k - 1, ((T').set ((k : Int).toNat) b5).set ((k - 1 : Int).toNat) b6, rfl, oM, ((swap_perm h9 h7).trans h8), rfl, rfl, rfl⟩
 obtain ⟨b4, h4⟩ := ex_i (l := T') (i := (k : Int).toNat) oM
 have l0 := hok _ (mG h4)
 refine TK.yl (yLoadA (cs := [.int .i64 b4.o, .string b4.a, .slice b4.A b4.n b4.c]) aC sC rfl (Mem.row (i := 0) rfl (tC_at h4)) rfl) rfl (blt_lt rfl) ?_
 refine g1 ?_
 obtain ⟨b7, h6⟩ := ex_i (l := T') (i := (k - 1 : Int).toNat) oM
 have l3 := hok _ (mG h6)
 refine oI 9 rfl kR (TK.yl (yLoadA (cs := [.int .i64 b7.o, .string b7.a, .slice b7.A b7.n b7.c]) aC sC rfl (Mem.row (i := 0) rfl (tC_at h6)) rfl) rfl (blt_lt rfl) ?_)
 refine g1 ?_
 refine tj 14 ?_
 refine oI 15 rfl kR (tStoreRow (i := 0) (cs := [.int .i64 b7.o, .string b7.a, .slice b7.A b7.n b7.c]) rfl sC rfl rfl rfl rfl oC (by rw [tC_len]; omega) ?_)
 rw [tC_set (x := b7) oM]
 refine g3 ?_
 refine sq rfl (tStoreRow (i := 0) (cs := [.int .i64 b4.o, .string b4.a, .slice b4.A b4.n b4.c]) rfl sC rfl rfl rfl rfl oC (by rw [tC_len]; simp only [List.length_set]; omega) ?_)
 rw [tC_set (x := b4) (by simp only [List.length_set]; omega)]
 refine g5 ?_
 exact nK j5 ⟨k - 1, ((T').set ((k : Int).toNat) b7).set ((k - 1 : Int).toNat) b4, rfl, oM, ((swap_perm h4 h6).trans h8), rfl, rfl, rfl⟩
 refine g1 ?_
 refine TK.ret (TK.ret0 results258 ?_)
 exact ⟨_, rfl, hp⟩
 refine g7a ?_
 intros
 refine q (yShr (m := 1) rfl rfl dC) rfl rfl rfl ?_
 refine g4a ?_
 intros
 rw [half_eq oM oM]
 obtain ⟨md, l9⟩ : ∃ z, z = (a + b) / 2 := ⟨_, rfl⟩
 rw [← l9]
 refine g11a ?_
 intros
 refine TK.seq fun K2 j4 => ?_
 have e0 : ∀ (p : Int) (r : Int) (k7 : a ≤ p ∧ p ≤ r ∧ r ≤ md ∧ r ≤ d ∧ md + d - b ≤ p), TK 220 I K2 [(0, .slice B m c), (1, .int .i64 a), (2, .int .i64 d), (3, .int .i64 b), (4, .func (.func 173) #[] #[]), (18, .int .i64 md), (19, .int .i64 (md + d)), (20, .int .i64 p), (21, .int .i64 r)] H [.row 37 3 (.slice B m c) m (tC (T))] := by
  intro p r k7
  refine j4 _ _ _ ?_
  refine g8b ?_
  intros
  refine lp1 (fun D f E H' O m' => ∃ (u v : Int), H = H' ∧ (a ≤ u ∧ u ≤ v ∧ v ≤ md ∧ v ≤ d ∧ md + d - b ≤ u) ∧ m' = (v - u).toNat ∧ O = [f] ∧ E = (20, .int .i64 u) :: (21, .int .i64 v) :: D) [0, 1, 2, 3, 4, 18, 19, 22] [0] ⟨p, r, rfl, k7, rfl, rfl, rfl⟩ ?_
  rintro _ _ _ _ ⟨u, v, rfl, o9, rfl, rfl, rfl⟩ _ d4
  refine g7b ?_
  intros
  refine cD ?_ ?_ <;> intro k9
  refine g8a ?_
  intros
  refine q (yShr (m := 1) rfl rfl dC) rfl rfl rfl ?_
  refine g4a ?_
  intros
  rw [half_eq oM oM]
  obtain ⟨hh, i4⟩ : ∃ z, z = (u + v) / 2 := ⟨_, rfl⟩
  rw [← i4]
  refine ts 11 fun _ => ?_
  refine tj 0 ?_
  refine g4 ?_
  refine row_addr (i := 0) rfl oM fun n2 f8 => ?_
  subst f8
  refine tj 5 ?_
  obtain ⟨b8, d7⟩ := ex_i (l := T) (i := (((md + d) - 1) - hh : Int).toNat) oM
  have j6 := hok _ (mG d7)
  refine tk 6 rfl kR aS nP kS (yLoadA (cs := [.int .i64 b8.o, .string b8.a, .slice b8.A b8.n b8.c]) aC sC rfl (Mem.row (i := 0) rfl (tC_at d7)) rfl) rfl rfl rfl ?_
  refine g3 ?_
  obtain ⟨b9, d5⟩ := ex_i (l := T) (i := (hh : Int).toNat) oM
  have i5 := hok _ (mG d5)
  refine tk 10 rfl kR aS nP kS (yLoadA (cs := [.int .i64 b9.o, .string b9.a, .slice b9.A b9.n b9.c]) aC sC rfl (Mem.row (i := 0) rfl (tC_at d5)) rfl) rfl rfl rfl ?_
  refine g1 ?_
  refine sq rfl (TK.callS hD rfl rfl (entV call173 rfl rfl) (c173 _ (b8.t) (b9.t) _ [_, _, _] [_, _, _] (Nat.lt_succ_self _) (rTree_mk (t := b8.t) j6) (rTree_mk (t := b9.t) i5)) ?_)
  rintro v3 ⟨r0, rfl⟩
  refine g3 ?_
  refine cN ?_ ?_ <;> intro l1
  refine g4 ?_
  exact nK d4 ⟨hh + 1, v, rfl, oM, rfl, rfl, rfl⟩
  refine g3 ?_
  exact nK d4 ⟨u, hh, rfl, oM, rfl, rfl, rfl⟩
  refine g8a ?_
  intros
  refine TK.seq fun K0 i8 => ?_
  have d2 : ∀ (Tj : List TV) (hp : Tj.Perm T), TK 220 I K0 [(0, .slice B m c), (1, .int .i64 a), (3, .int .i64 b), (4, .func (.func 173) #[] #[]), (18, .int .i64 md), (20, .int .i64 u), (24, .int .i64 ((md + d) - u))] H [.row 37 3 (.slice B m c) m (tC (Tj))] := by
   intro Tj hp
   refine i8 _ _ _ ?_
   have e2 := hp.length_eq
   have hok := d3.perm hp
   refine TK.seq fun K1 i9 => ?_
   have h5 : ∀ (Tj : List TV) (hp : Tj.Perm T), TK 220 I K1 [(0, .slice B m c), (3, .int .i64 b), (4, .func (.func 173) #[] #[]), (18, .int .i64 md), (24, .int .i64 ((md + d) - u))] H [.row 37 3 (.slice B m c) m (tC (Tj))] := by
    intro Tj hp
    refine i9 _ _ _ ?_
    have e2 := hp.length_eq
    have hok := d3.perm hp
    refine g6a ?_
    intros
    refine sD 209 ?_ ?_ <;> intro l8
    refine g5 ?_
    refine cD ?_ ?_ <;> intro k5
    refine g6 ?_
    refine sq rfl (fT hD [0] [] rfl call258 rfl (ih Tj _ _ _ _ _ oM hok oM oM oM oM oM) ?_)
    rintro v0 O2 ⟨T3, rfl, d9⟩
    have hp := d9.trans hp
    have e2 := hp.length_eq
    have hok := hok.perm d9
    refine TK.nil (TK.keep [0] dC rfl (TK.end0 results258 ?_))
    exact ⟨_, rfl, hp⟩
    refine TK.skip (TK.keep [0] dC rfl (TK.end0 results258 ?_))
    exact ⟨_, rfl, hp⟩
    refine g6 ?_
    refine TK.skip (TK.keep [0] dC rfl (TK.end0 results258 ?_))
    exact ⟨_, rfl, hp⟩
   refine g6a ?_
   intros
   refine sD 195 ?_ ?_ <;> intro l4
   refine g5 ?_
   refine cD ?_ ?_ <;> intro l2
   refine g6 ?_
   refine sq rfl (fT hD [0] [] rfl call258 rfl (ih Tj _ _ _ _ _ oM hok oM oM oM oM oM) ?_)
   rintro v1 O3 ⟨T2, rfl, d8⟩
   have hp := d8.trans hp
   have e2 := hp.length_eq
   have hok := hok.perm d8
   exact jN (h5 T2 hp)
   exact jS (h5 Tj hp)
   refine g6 ?_
   exact jS (h5 Tj hp)
  refine g6a ?_
  intros
  refine sD 181 ?_ ?_ <;> intro k6
  refine g5 ?_
  refine cD ?_ ?_ <;> intro k8
  refine g6 ?_
  refine sq rfl (fT hD [0] [] rfl call282 rfl (c282 (T := T) oM hmc hok oM oM oM oM) ?_)
  rintro v2 O1 ⟨T1, rfl, d6⟩
  have hp := d6.trans hp
  have e2 := hp.length_eq
  have hok := hok.perm d6
  exact jN (d2 T1 hp)
  exact jS (d2 T hp)
  refine g6 ?_
  exact jS (d2 T hp)
 refine g6a ?_
 intros
 refine cD ?_ ?_ <;> intro l7
 refine g10a ?_
 intros
 exact jN (e0 ((md + d) - b) md oM)
 refine g8a ?_
 intros
 exact jN (e0 a d oM)
theorem c258 {m c : Nat} (hmc : m ≤ 1000000) : ∀ (N : Nat) (T : List TV) (H : Ghost) (B : OA) (a d b : Int), T.length = m → tvOk H T → 0 ≤ a → a < d → d < b → b ≤ m → (b - a).toNat < N → Ct PP 258 #[.slice B m c, .int .i64 a, .int .i64 d, .int .i64 b, .func (.func 173) #[] #[]] H [.row 37 3 (.slice B m c) m (tC T)] fun v H' O' => ∃ T', O' = [.row 37 3 (.slice B m c) m (tC T')] ∧ T'.Perm T
 | 0, _, _, _, _, _, _, _, _, _, _, _, _, h => absurd h (Nat.not_lt_zero _)
 | N + 1, T, H, B, a, d, b, h1, h2, h3, h4, h5, h6, h7 => c258s (N := N) (fun T H B a d b h1 h2 h3 h4 h5 h6 h7 => c258 hmc N T H B a d b h1 h2 h3 h4 h5 h6 h7) h1 hmc h2 h3 h4 h5 h6 oM
theorem c209 {B : OA} {m c : Nat} {T : List TV} (hm : T.length = m) (hmc : m ≤ 1000000) (hok : tvOk H T) : Ct PP 209 #[.slice B m c, .int .i64 (m : Int), .func (.func 173) #[] #[]] H [.row 37 3 (.slice B m c) m (tC T)] fun v H' O' => ∃ T', O' = [.row 37 3 (.slice B m c) m (tC T')] ∧ T'.Perm T := by
 have h4 := hok
 have hp : T.Perm T := .refl _
 have h5 := hm
 refine cB func209 ntmps209 fun I hD hI d3 => ?_
 refine g12c ?_
 intros
 refine lp0 (fun D E H' O m' => ∃ (a1 b1 : Int) (T1 : List TV), H = H' ∧ (0 ≤ a1 ∧ a1 ≤ (m : Int) ∧ b1 = a1 + 20) ∧ (T1.Perm T) ∧ m' = ((m : Int) - a1).toNat ∧ O = [.row 37 3 (.slice B m c) m (tC (T1))] ∧ E = (7, .int .i64 a1) :: (8, .int .i64 b1) :: D) [0, 1, 2, 6] [0] ⟨0, 20, T, rfl, oM, hp, rfl, rfl, rfl⟩ ?_
 rintro _ _ _ _ ⟨a1, b1, T1, rfl, hb, d0, rfl, rfl, rfl⟩ _ b6
 have hp := d0
 have h5 := hp.length_eq
 have hok := h4.perm hp
 refine g7b ?_
 intros
 refine cD ?_ ?_ <;> intro b8
 refine g8a ?_
 intros
 refine sq rfl (fT hD [0] [] rfl call257 rfl (c257 (T := T1) oM hmc hok oM oM oM) ?_)
 rintro v1 O4 ⟨T6, rfl, h8⟩
 have hp := h8.trans hp
 have h5 := hp.length_eq
 have hok := hok.perm h8
 refine g11a ?_
 intros
 exact nK b6 ⟨b1, b1 + 20, T6, rfl, oM, hp, rfl, rfl, rfl⟩
 refine g7a ?_
 intros
 refine sq rfl (fT hD [0] [] rfl call257 rfl (c257 (T := T1) oM hmc hok oM oM oM) ?_)
 rintro v0 O3 ⟨T4, rfl, h9⟩
 have hp := h9.trans hp
 have h5 := hp.length_eq
 have hok := hok.perm h9
 refine g2 ?_
 refine lp0 (fun D E H' O m' => ∃ (bs : Int) (T2 : List TV), H = H' ∧ (20 ≤ bs ∧ bs ≤ 2 * (m : Int) + 20) ∧ (T2.Perm T) ∧ m' = ((m : Int) - bs).toNat ∧ O = [.row 37 3 (.slice B m c) m (tC (T2))] ∧ E = (6, .int .i64 bs) :: D) [0, 1, 2] [0] ⟨20, T4, rfl, oM, hp, rfl, rfl, rfl⟩ ?_
 rintro _ _ _ _ ⟨bs, T2, rfl, d4, c1, rfl, rfl, rfl⟩ _ b4
 have hp := c1
 have h5 := hp.length_eq
 have hok := h4.perm hp
 refine g7b ?_
 intros
 refine cD ?_ ?_ <;> intro d1
 refine g11b ?_
 intros
 refine lp0 (fun D E H' O m' => ∃ (a b : Int) (T3 : List TV), H = H' ∧ (0 ≤ a ∧ a ≤ (m : Int) ∧ b = a + 2 * bs) ∧ (T3.Perm T) ∧ m' = ((m : Int) - a).toNat ∧ O = [.row 37 3 (.slice B m c) m (tC (T3))] ∧ E = (7, .int .i64 a) :: (8, .int .i64 b) :: D) [0, 1, 2, 6] [0] ⟨0, 2 * bs, T2, rfl, oM, hp, rfl, rfl, rfl⟩ ?_
 rintro _ _ _ _ ⟨a, b, T3, rfl, d2, b9, rfl, rfl, rfl⟩ _ b5
 have hp := b9
 have h5 := hp.length_eq
 have hok := h4.perm hp
 refine g7b ?_
 intros
 refine cD ?_ ?_ <;> intro b7
 refine g11a ?_
 intros
 refine sq rfl (fT hD [0] [] rfl call258 rfl (c258 hmc _ T3 _ _ _ _ _ oM hok oM oM oM oM (Nat.lt_succ_self _)) ?_)
 rintro v2 O2 ⟨T5, rfl, h7⟩
 have hp := h7.trans hp
 have h5 := hp.length_eq
 have hok := hok.perm h7
 refine g12a ?_
 intros
 exact nK b5 ⟨b, b + ((2 : Int) * bs), T5, rfl, oM, hp, rfl, rfl, rfl⟩
 refine g15c ?_
 intros
 refine cD ?_ ?_ <;> intro c0
 refine g6 ?_
 refine sq rfl (fT hD [0] [] rfl call258 rfl (c258 hmc _ T3 _ _ _ _ _ oM hok oM oM oM oM (Nat.lt_succ_self _)) ?_)
 rintro v3 O1 ⟨T7, rfl, h6⟩
 have hp := h6.trans hp
 have h5 := hp.length_eq
 have hok := hok.perm h6
 refine g5 ?_
 exact nK b4 ⟨bs * 2, T7, rfl, oM, hp, rfl, rfl, rfl⟩
 refine g5 ?_
 exact nK b4 ⟨bs * 2, T3, rfl, oM, hp, rfl, rfl, rfl⟩
 refine TK.exit (TK.keep [0] dC rfl (TK.end0 results209 ?_))
 exact ⟨_, rfl, hp⟩
theorem c172 {B : OA} {m c : Nat} {T : List TV} (hm : T.length = m) (hmc : m ≤ 1000000) (hok : tvOk H T) : Ct PP 172 #[.slice B m c, .func (.func 173) #[] #[]] H [.row 37 3 (.slice B m c) m (tC T)] fun v H' O' => ∃ T', O' = [.row 37 3 (.slice B m c) m (tC T')] ∧ T'.Perm T := by
 have h5 := hok
 have hp : T.Perm T := .refl _
 have h6 := hm
 refine cB func172 ntmps172 fun I hD hI h7 => ?_
 refine g5 ?_
 refine sq rfl (fT hD [0] [] rfl call209 rfl (c209 (T := T) hm hmc hok) ?_)
 rintro v3 O4 ⟨T1, rfl, h4⟩
 have hp := h4.trans hp
 have h6 := hp.length_eq
 have hok := hok.perm h4
 refine TK.nil (TK.keep [0] dC rfl (TK.end0 results172 ?_))
 exact ⟨_, rfl, hp⟩
end
section
section
variable {α β : Type} {f : α → β} {Z : Prop} {T T' L : List α} {k q : Nat}
def Adj (f : α → β) (L : List α) (k : Nat) : Prop := ∀ (j : Nat) (x y : α), j + 1 < k → L[j]? = some x → L[j + 1]? = some y → f x ≠ f y
structure CpI (f : α → β) (Z : Prop) (T T' : List α) (k q : Nat) : Prop where
 len : T'.length = T.length
 k1 : 1 ≤ k
 kq : k < q
 qm : q ≤ T.length
 old : ∀ j, k ≤ j → T'[j]? = T[j]?
 sub : ((T'.take k).map f).Sublist ((T.take q).map f)
 mem : ∀ x ∈ (T.take q).map f, x ∈ (T'.take k).map f
 mm : ∀ x ∈ T', x ∈ T
 last : (T'[k - 1]?).map f = (T[q - 1]?).map f
 adj : Z → Adj f T' k
structure CpR (f : α → β) (Z : Prop) (T L : List α) : Prop where
 sub : (L.map f).Sublist (T.map f)
 mem : ∀ x ∈ T.map f, x ∈ L.map f
 mm : ∀ x ∈ L, x ∈ T
 adj : Z → Adj f L L.length
theorem CpR.all (h : Z → Adj f T T.length) : CpR f Z T T := ⟨.refl _, fun x h => h, fun x h => h, h⟩
theorem Adj.short (h : T.length < 2) : Adj f T T.length := fun j x y hj => by omega
theorem Adj.one : Adj f T 1 := fun j x y hj => by omega
theorem Adj.step (h : Adj f T k) (hk : 1 ≤ k) (hx : T[k - 1]? = some x) (hy : T[k]? = some y) (hne : f x ≠ f y) : Adj f T (k + 1) := fun j a b hj ha hb => by
 rcases Nat.lt_or_ge (j + 1) k with h1 | h1
 ·exact h j a b h1 ha hb
 ·obtain rfl : j = k - 1 := by omega
  rw [show k - 1 + 1 = k by omega] at hb
  rw [hx] at ha; rw [hy] at hb; cases ha; cases hb
  exact hne
theorem CpI.start (h : Z → Adj f T k) (hk : 1 ≤ k) (hx : T[k]? = some x) (hy : T[k - 1]? = some y) (he : f x = f y) : CpI f Z T T k (k + 1) where
 len := rfl
 k1 := hk
 kq := by omega
 qm := (gE hx).1
 old j hj := rfl
 sub := (List.take_sublist_take_left oM).map _
 mem z hz := by
  rw [List.take_add_one, hx] at hz
  simp only [Option.toList_some, List.map_append, List.map_cons, List.map_nil, List.mem_append, List.mem_singleton] at hz
  rcases hz with hz | rfl
  ·exact hz
  ·rw [he]
   refine List.mem_map.2 ⟨y, mG (i := k - 1) ?_, rfl⟩
   rw [List.getElem?_take, if_pos oM]; exact hy
 mm x h := h
 last := by rw [Nat.add_sub_cancel, hx, hy]; simp [he]
 adj := h
theorem CpI.same (h : CpI f Z T T' k q) (hx : T[q]? = some x) (hy : T[q - 1]? = some y) (he : f x = f y) : CpI f Z T T' k (q + 1) where
 len := h.len
 k1 := h.k1
 kq := by have := h.kq; omega
 qm := (gE hx).1
 old := h.old
 sub := h.sub.trans ((List.take_sublist_take_left oM).map _)
 mem z hz := by
  have := h.kq
  rw [List.take_add_one, hx] at hz
  simp only [Option.toList_some, List.map_append, List.map_cons, List.map_nil, List.mem_append, List.mem_singleton] at hz
  rcases hz with hz | rfl
  ·exact h.mem z hz
  ·rw [he]
   refine h.mem _ (List.mem_map.2 ⟨y, mG (i := q - 1) ?_, rfl⟩)
   rw [List.getElem?_take, if_pos oM]; exact hy
 mm := h.mm
 last := by rw [h.last, Nat.add_sub_cancel, hx, hy]; simp [he]
 adj := h.adj
theorem CpI.put (h : CpI f Z T T' k q) (hx : T[q]? = some x) (hy : T[q - 1]? = some y) (hne : Z → f x ≠ f y) : CpI f Z T (T'.set k x) (k + 1) (q + 1) where
 len := by rw [List.length_set]; exact h.len
 k1 := by omega
 kq := by have := h.kq; omega
 qm := (gE hx).1
 old j hj := by rw [List.getElem?_set, if_neg oM]; exact h.old j oM
 sub := by
  have hk := h.kq; have hq := h.qm; have hl := h.len
  have e : (T'.set k x).take (k + 1) = T'.take k ++ [x] := by
   rw [List.take_add_one, List.getElem?_set, if_pos rfl, if_pos oM, List.take_set, List.set_eq_of_length_le (by rw [List.length_take]; omega)]; rfl
  rw [e, List.take_add_one, hx, List.map_append, List.map_append]
  exact h.sub.append (.refl _)
 mem z hz := by
  have hk := h.kq; have hq := h.qm; have hl := h.len
  have e : (T'.set k x).take (k + 1) = T'.take k ++ [x] := by
   rw [List.take_add_one, List.getElem?_set, if_pos rfl, if_pos oM, List.take_set, List.set_eq_of_length_le (by rw [List.length_take]; omega)]; rfl
  rw [e, List.map_append]
  rw [List.take_add_one, hx, List.map_append] at hz
  rcases List.mem_append.1 hz with hz | hz
  ·exact List.mem_append_left _ (h.mem z hz)
  ·exact List.mem_append_right _ hz
 mm z hz := by
  rcases List.mem_or_eq_of_mem_set hz with hz | rfl
  ·exact h.mm z hz
  ·exact mG hx
 last := by
  have hk := h.kq; have hq := h.qm; have hl := h.len
  rw [Nat.add_sub_cancel, Nat.add_sub_cancel, List.getElem?_set, if_pos rfl, if_pos oM, hx]
 adj z j a b hj ha hb := by
  have hk := h.kq; have hq := h.qm; have hl := h.len; have h4 := h.k1
  rcases Nat.lt_or_ge (j + 1) k with h1 | h1
  ·rw [List.getElem?_set, if_neg oM] at ha hb
   exact h.adj z j a b h1 ha hb
  ·obtain rfl : j = k - 1 := by omega
   rw [List.getElem?_set, if_neg oM] at ha
   rw [show k - 1 + 1 = k by omega, List.getElem?_set, if_pos rfl, if_pos oM] at hb
   cases hb
   have h2 := h.last
   rw [ha, hy] at h2
   simp at h2
   rw [h2]
   exact fun e => hne z e.symm
theorem CpI.read {j : Nat} (h : CpI f Z T T' k q) (hj : q ≤ j + 1) : T'[j]? = T[j]? := h.old j (by have := h.kq; omega)
theorem CpI.done (h : CpI f Z T T' k q) (hq : T.length ≤ q) : CpR f Z T (T'.take k) where
 sub := by have := h.sub; rwa [List.take_of_length_le hq] at this
 mem := by have := h.mem; rwa [List.take_of_length_le hq] at this
 mm x hx := h.mm x (List.mem_of_mem_take hx)
 adj z j a b hj ha hb := by
  have h1 := List.length_take_le k T'
  rw [List.getElem?_take, if_pos oM] at ha hb
  exact h.adj z j a b oM ha hb
end
theorem tC_take : ∀ (T : List TV) (k : Nat), (tC T).take (k * 3) = tC (T.take k)
 | [], k => by simp [tC]
 | x :: T, 0 => by simp [tC]
 | x :: T, k + 1 => by rw [tC_cons, show (k + 1) * 3 = k * 3 + 1 + 1 + 1 by omega, List.take_succ_cons, List.take_succ_cons, List.take_succ_cons, tC_take T k, List.take_succ_cons, tC_cons]
theorem tC_at2 {T : List TV} {k j : Nat} (h : T[k + j]? = some x) : ((tC T).drop (0 + k * 3 + j * 3)).take 3 = [.int .i64 x.o, .string x.a, .slice x.A x.n x.c] := by
 rw [show 0 + k * 3 + j * 3 = 0 + (k + j) * 3 by omega]; exact tC_at h
theorem cutA_some {b c k : Nat} (h : k < c) : cutA (some ⟨b, 0, none⟩) c k w = some ⟨b, 0 + k * w, none⟩ := by unfold cutA; rw [if_neg oM]; simp [Addr.add]; intro h; omega
theorem strm_at {T : LB} {k : Nat} (h : T[k]? = some x) : (T.map Value.string)[0 + k * 1]? = some (.string x) := by rw [Nat.zero_add, Nat.mul_one, List.getElem?_map, h]; rfl
theorem strm_at2 {T : LB} {k j : Nat} (h : T[k + j]? = some x) : (T.map Value.string)[0 + k * 1 + j * 1]? = some (.string x) := by rw [show 0 + k * 1 + j * 1 = k + j by omega, List.getElem?_map, h]; rfl
theorem strm_set {T : LB} {k : Nat} {x : BA} : (T.map Value.string).set (0 + k * 1) (.string x) = (T.set k x).map Value.string := by rw [Nat.zero_add, Nat.mul_one, List.map_set]
end
section
open Go.Proofs.Tryz
attribute [local irreducible] TK Yl OpK AnyT wpList Code.wp
attribute [local semireducible] TK Yl OpK AnyT wpList Code.wp in
theorem row_cap {K : Act → World → Prop} {O : List HL} {i e k m c' : Nat} {B : OA} {cs : LV} (hO : O[i]? = some (.row e k (.slice B m c') m cs)) (h : m ≤ c' → TK n I K E H O) : TK n I K E H O := by
 intro a w ha hs
 have h5 : w.ownsRow 0 e k (.slice B m c') m cs := hs.st.own _ (mG hO)
 refine h ?_ a w ha hs
 rcases h5.2 with ⟨h1, h2⟩ | ⟨g, cap, cur, hv, hg, hh, hn, hc, _⟩
 ·injection h1 with h1 h3 h4; omega
 ·injection hv with h1 h3 h4; omega
theorem c174 {B : OA} {m c : Nat} {T : List TV} (hm : T.length = m) (hmc : m ≤ 1000000) (hok : tvOk H T) : Ct PP 174 #[.slice B m c, .func (.func 175) #[] #[]] H [.row 37 3 (.slice B m c) m (tC T)] fun v H' O' => ∃ L B' k c', v = .slice B' k c' ∧ O' = [.row 37 3 (.slice B' k c') k (tC L)] ∧ CpR TV.t False T L := by
 refine cB func174 ntmps174 fun I hD hI f9 => ?_
 refine g5b ?_
 intros
 refine g2a ?_
 intros
 refine row_cap (i := 0) rfl fun e5 => ?_
 refine g4 ?_
 refine cD ?_ ?_ <;> intro e9
 refine g5a ?_
 intros
 refine rT results174 ?_
 exact ⟨_, _, _, _, rfl, rfl, CpR.all (fun z => Adj.short oM)⟩
 refine g7b ?_
 intros
 refine lp1 (fun D f E H' O m' => ∃ (k : Nat), H = H' ∧ (1 ≤ k ∧ k ≤ m) ∧ (False → Adj TV.t T k) ∧ m' = m - k ∧ O = [f] ∧ E = (5, .int .i64 (k : Int)) :: D) [0, 1] [0] ⟨1, rfl, oM, (fun _ => Adj.one), rfl, rfl, rfl⟩ ?_
 rintro _ _ _ _ ⟨k, rfl, hk, hA, rfl, rfl, rfl⟩ _ d2
 refine g8b ?_
 intros
 refine cD ?_ ?_ <;> intro d7
 refine g4b ?_
 intros
 refine row_addr (i := 0) rfl oM fun e1 d4 => ?_
 subst d4
 refine ts 10 fun d6 => ?_
 refine tj 0 ?_
 refine g3 ?_
 obtain ⟨b6, h5⟩ := ex_i (l := T) (i := k) oM
 have d3 := hok _ (mG h5)
 refine tk 4 rfl kR aS nP kS (yLoadA (cs := [.int .i64 b6.o, .string b6.a, .slice b6.A b6.n b6.c]) aC sC rfl (Mem.row (i := 0) rfl (tC_at h5)) rfl) rfl rfl rfl ?_
 refine g4 ?_
 obtain ⟨b7, h6⟩ := ex_i (l := T) (i := ((k : Int) - 1 : Int).toNat) oM
 have d1 := hok _ (mG h6)
 refine tk 9 rfl kR aS nP kS (yLoadA (cs := [.int .i64 b7.o, .string b7.a, .slice b7.A b7.n b7.c]) aC sC rfl (Mem.row (i := 0) rfl (tC_at h6)) rfl) rfl rfl rfl ?_
 refine g1 ?_
 refine sq rfl (TK.callS hD rfl rfl (entV call175 rfl rfl) (c175 _ (b6.t) (b7.t) _ [_, _, _] [_, _, _] (Nat.lt_succ_self _) (rTree_mk (t := b6.t) d3) (rTree_mk (t := b7.t) d1)) ?_)
 rintro v1 ⟨r1, rfl, h8⟩
 refine g1 ?_
 refine cN ?_ ?_ <;> intro d9
 refine g5a ?_
 intros
 try simp only [Int.toNat_natCast]
 rw [cutA_some oM]
 refine g8b ?_
 intros
 have e4 : CpI TV.t (False) T T k (k + 1) := .start hA oM h5 (prev_at h6) (h8 (by assumption))
 refine lp0 (fun D E H' O m' => ∃ (k2 k' : Nat) (T' : List TV), H = H' ∧ (1 ≤ k2 ∧ k2 ≤ m - k) ∧ (CpI TV.t (False) T T' k' (k + k2)) ∧ m' = m - k - k2 ∧ O = [.row 37 3 (.slice (ad e1) m c) m (tC T')] ∧ E = (5, .int .i64 (k' : Int)) :: (7, .int .i64 (k2 : Int)) :: D) [0, 1, 6] [0] ⟨1, k, T, rfl, oM, e4, rfl, rfl, rfl⟩ ?_
 rintro _ _ _ _ ⟨k2, k', T', rfl, f8, hC, rfl, rfl, rfl⟩ _ b9
 have e3 := hC.kq
 refine g8b ?_
 intros
 refine cD ?_ ?_ <;> intro d8
 refine g4b ?_
 intros
 refine ts 10 fun _ => ?_
 refine tj 0 ?_
 refine g3 ?_
 obtain ⟨b4, h4⟩ := ex_i (l := T) (i := (k + k2)) oM
 have h9 : T'[k + k2]? = some b4 := by rw [hC.read oM]; exact h4
 have d5 := hok _ (mG h4)
 refine tk 4 rfl kR aS nP kS (yLoadA (cs := [.int .i64 b4.o, .string b4.a, .slice b4.A b4.n b4.c]) aC sC rfl (Mem.row (i := 0) rfl (tC_at2 h9)) rfl) rfl rfl rfl ?_
 refine g4 ?_
 obtain ⟨b5, h7⟩ := ex_i (l := T) (i := (k + ((k2 : Int) - 1 : Int).toNat)) oM
 have c1 : T'[k + ((k2 : Int) - 1 : Int).toNat]? = some b5 := by rw [hC.read oM]; exact h7
 have c0 := hok _ (mG h7)
 refine tk 9 rfl kR aS nP kS (yLoadA (cs := [.int .i64 b5.o, .string b5.a, .slice b5.A b5.n b5.c]) aC sC rfl (Mem.row (i := 0) rfl (tC_at2 c1)) rfl) rfl rfl rfl ?_
 refine g1 ?_
 refine sq rfl (TK.callS hD rfl rfl (entV call175 rfl rfl) (c175 _ (b4.t) (b5.t) _ [_, _, _] [_, _, _] (Nat.lt_succ_self _) (rTree_mk (t := b4.t) d5) (rTree_mk (t := b5.t) c0)) ?_)
 rintro v0 ⟨r0, rfl, b8⟩
 refine g2 ?_
 refine cN ?_ ?_ <;> intro d0
 refine g7a ?_
 intros
 have e0 := hok _ (mG h4)
 refine q (yLoadA (cs := [.int .i64 b4.o, .string b4.a, .slice b4.A b4.n b4.c]) aC sC rfl (Mem.row (i := 0) rfl (tC_at2 h9)) rfl) rfl rfl rfl ?_
 refine g1 ?_
 have e2 := hC.len
 have e6 := hC.kq
 refine sq rfl (tStoreRow (i := 0) (cs := [.int .i64 b4.o, .string b4.a, .slice b4.A b4.n b4.c]) rfl sC rfl rfl rfl rfl oC (by rw [tC_len]; omega) ?_)
 try simp only [Int.toNat_natCast]
 rw [tC_set (x := b4) oM]
 refine g10 ?_
 exact nK b9 ⟨k2 + 1, k' + 1, (T'.set (((k' : Int) : Int).toNat) b4), rfl, oM, (hC.put h4 (by have h := h7; rwa [show k + ((k2 : Int) - 1).toNat = k + k2 - 1 by omega] at h) (fun z => z.elim)), rfl, rfl, rfl⟩
 refine g5 ?_
 exact nK b9 ⟨k2 + 1, k', T', rfl, oM, (hC.same h4 (by have h := h7; rwa [show k + ((k2 : Int) - 1).toNat = k + k2 - 1 by omega] at h) (b8 (by simpa using d0))), rfl, rfl, rfl⟩
 refine g6a ?_
 intros
 try simp only [Int.toNat_natCast]
 rw [cutA_some oM]
 have e2 := hC.len
 have e6 := hC.kq
 have e8 := hC.qm
 refine sq rfl (tClear (i := 0) (l := ((k' : Int) : Int).toNat) (zs := [.int .i64 0, .string ⟨#[]⟩, .slice none 0 0]) rfl uC nC rfl rfl oC rfl (fun _ => by simp [Addr.add]) oM (.inl oM) dC fun ds i4 e7 => ?_)
 refine g6a ?_
 intros
 try simp only [Int.toNat_natCast]
 rw [cutA_zero]
 refine g2 ?_
 refine row_take (i := 0) (m' := ((k' : Int) : Int).toNat) rfl oM ?_
 rw [e7]
 rw [tC_take]
 refine rT results174 ?_
 exact ⟨_, _, _, _, rfl, rfl, hC.done oM⟩
 refine g5 ?_
 exact nK d2 ⟨k + 1, rfl, oM, (fun z => (hA z).step oM (prev_at h6) h5 (False.elim z)), rfl, rfl, rfl⟩
 refine g6a ?_
 intros
 refine rT results174 ?_
 exact ⟨_, _, _, _, rfl, rfl, CpR.all (fun z => ((show k = T.length by omega) ▸ hA z))⟩
theorem c32 {B : OA} {m c : Nat} {T : LB} (hm : T.length = m) (hmc : m ≤ 1000000) : Ct PP 32 #[.slice B m c] H [.row 9 1 (.slice B m c) m (T.map Value.string)] fun v H' O' => ∃ L B' k c', v = .slice B' k c' ∧ O' = [.row 9 1 (.slice B' k c') k (L.map Value.string)] ∧ CpR id True T L := by
 refine cB func32 ntmps32 fun I hD hI e4 => ?_
 refine g5b ?_
 intros
 refine g2a ?_
 intros
 refine row_cap (i := 0) rfl fun d6 => ?_
 refine g4 ?_
 refine cD ?_ ?_ <;> intro e2
 refine g5a ?_
 intros
 refine rT results32 ?_
 exact ⟨_, _, _, _, rfl, rfl, CpR.all (fun z => Adj.short oM)⟩
 refine g7b ?_
 intros
 refine lp1 (fun D f E H' O m' => ∃ (k : Nat), H = H' ∧ (1 ≤ k ∧ k ≤ m) ∧ (True → Adj id T k) ∧ m' = m - k ∧ O = [f] ∧ E = (3, .int .i64 (k : Int)) :: D) [0] [0] ⟨1, rfl, oM, (fun _ => Adj.one), rfl, rfl, rfl⟩ ?_
 rintro _ _ _ _ ⟨k, rfl, hk, hA, rfl, rfl, rfl⟩ _ b7
 refine g8b ?_
 intros
 refine cD ?_ ?_ <;> intro d1
 refine g4b ?_
 intros
 refine row_addr (i := 0) rfl oM fun d2 b8 => ?_
 subst b8
 refine ts 10 fun c1 => ?_
 refine tj 0 ?_
 refine g2 ?_
 obtain ⟨d0, h4⟩ := ex_i (l := T) (i := k) oM
 refine tk 3 rfl kR aS nP kS (yLoad1 aC rfl (Mem.row1 (i := 0) rfl (strm_at h4))) rfl rfl rfl ?_
 refine g4 ?_
 obtain ⟨d7, h8⟩ := ex_i (l := T) (i := ((k : Int) - 1 : Int).toNat) oM
 refine tk 8 rfl kR aS nP kS (yLoad1 aC rfl (Mem.row1 (i := 0) rfl (strm_at h8))) rfl rfl rfl ?_
 refine g3 ?_
 refine cD ?_ ?_ <;> intro b4
 refine g5a ?_
 intros
 try simp only [Int.toNat_natCast]
 rw [cutA_some oM]
 refine g8b ?_
 intros
 have d5 : CpI id (True) T T k (k + 1) := .start hA oM h4 (prev_at h8) (by assumption)
 refine lp0 (fun D E H' O m' => ∃ (k2 k' : Nat) (T' : LB), H = H' ∧ (1 ≤ k2 ∧ k2 ≤ m - k) ∧ (CpI id (True) T T' k' (k + k2)) ∧ m' = m - k - k2 ∧ O = [.row 9 1 (.slice (ad d2) m c) m ((T').map Value.string)] ∧ E = (3, .int .i64 (k' : Int)) :: (5, .int .i64 (k2 : Int)) :: D) [0, 4] [0] ⟨1, k, T, rfl, oM, d5, rfl, rfl, rfl⟩ ?_
 rintro _ _ _ _ ⟨k2, k', T', rfl, e3, hC, rfl, rfl, rfl⟩ _ b5
 have d4 := hC.kq
 refine g8b ?_
 intros
 refine cD ?_ ?_ <;> intro e0
 refine g4b ?_
 intros
 refine ts 10 fun _ => ?_
 refine tj 0 ?_
 refine g2 ?_
 obtain ⟨b6, h6⟩ := ex_i (l := T) (i := (k + k2)) oM
 have h9 : T'[k + k2]? = some b6 := by rw [hC.read oM]; exact h6
 refine tk 3 rfl kR aS nP kS (yLoad1 aC rfl (Mem.row1 (i := 0) rfl (strm_at2 h9))) rfl rfl rfl ?_
 refine g4 ?_
 obtain ⟨c0, h5⟩ := ex_i (l := T) (i := (k + ((k2 : Int) - 1 : Int).toNat)) oM
 have b9 : T'[k + ((k2 : Int) - 1 : Int).toNat]? = some c0 := by rw [hC.read oM]; exact h5
 refine tk 8 rfl kR aS nP kS (yLoad1 aC rfl (Mem.row1 (i := 0) rfl (strm_at2 b9))) rfl rfl rfl ?_
 refine g3 ?_
 refine cN ?_ ?_ <;> intro h7
 refine g7a ?_
 intros
 refine q (yLoad1 aC rfl (Mem.row1 (i := 0) rfl (strm_at2 h9))) rfl rfl rfl ?_
 refine g1 ?_
 have d3 := hC.len
 have d8 := hC.kq
 refine sq rfl (rS 0 ?_ (ho := by rw [List.length_map]; omega))
 try simp only [Int.toNat_natCast]
 rw [strm_set]
 refine g10 ?_
 exact nK b5 ⟨k2 + 1, k' + 1, (T'.set (((k' : Int) : Int).toNat) b6), rfl, oM, (hC.put h6 (by have h := h5; rwa [show k + ((k2 : Int) - 1).toNat = k + k2 - 1 by omega] at h) (fun z => (fun e : id b6 = id c0 => absurd e (by first | exact h7 | simpa using h7)))), rfl, rfl, rfl⟩
 refine g5 ?_
 exact nK b5 ⟨k2 + 1, k', T', rfl, oM, (hC.same h6 (by have h := h5; rwa [show k + ((k2 : Int) - 1).toNat = k + k2 - 1 by omega] at h) (by simpa using h7)), rfl, rfl, rfl⟩
 refine g6a ?_
 intros
 try simp only [Int.toNat_natCast]
 rw [cutA_some oM]
 have d3 := hC.len
 have d8 := hC.kq
 have e1 := hC.qm
 refine sq rfl (tClear (i := 0) (l := ((k' : Int) : Int).toNat) (zs := [.string ⟨#[]⟩]) rfl uC nC rfl rfl oC rfl (fun _ => by simp [Addr.add]) oM (.inl oM) dC fun ds e5 d9 => ?_)
 refine g6a ?_
 intros
 try simp only [Int.toNat_natCast]
 rw [cutA_zero]
 refine g2 ?_
 refine row_take (i := 0) (m' := ((k' : Int) : Int).toNat) rfl oM ?_
 rw [d9]
 rw [show ((k' : Int) : Int).toNat * 1 = ((k' : Int) : Int).toNat by omega, ← List.map_take]
 refine rT results32 ?_
 exact ⟨_, _, _, _, rfl, rfl, hC.done oM⟩
 refine g5 ?_
 exact nK b7 ⟨k + 1, rfl, oM, (fun z => (hA z).step oM (prev_at h8) h4 (fun e : id d7 = id d0 => absurd e (by first | exact (fun h => b4 h.symm) | simpa using b4))), rfl, rfl, rfl⟩
 refine g6a ?_
 intros
 refine rT results32 ?_
 exact ⟨_, _, _, _, rfl, rfl, CpR.all (fun z => ((show k = T.length by omega) ▸ hA z))⟩
theorem flatP_take {op : Int} {l : List Tree} {i : Nat} (h : l[i]? = some x) : flatP op (l.take (i + 1)) = flatP op (l.take i) ++ (if x.op = op then x.l else if ¬ x.op = 2 ∨ op = 4 then [x] else []) := by
 rw [List.take_add_one, h]; simp [flatP]
theorem len_sizeL : ∀ l : List Tree, l.length ≤ sizeL l
 | [] => Nat.zero_le _
 | x :: l => by have := len_sizeL l; have h := Tree.size_l x; rw [sizeL, List.length_cons]; omega
theorem flatP_len {op : Int} {l : List Tree} : (flatP op (l.take i)).length ≤ sizeL l := by
 have h1 := len_sizeL (flatP op (l.take i))
 have h2 := flatP_size op (l.take i)
 have h3 := sizeL_sub (List.take_sublist i l)
 omega
theorem partsT_many {op : Int} {l : List Tree} (h : 2 ≤ l.length) : .mk op noB l = partsT op l := by
 match l, h with
 | _ :: _ :: _, _ => rfl
 | [], h => simp at h
 | [_], h => simp at h
theorem partsT_one {op : Int} {l : List Tree} (h : l[0]? = some x) (h1 : l.length ≤ 1) : x = partsT op l := by
 match l, h, h1 with
 | [y], h, _ => simp at h; subst h; rfl
 | _ :: _ :: _, _, h1 => simp at h1
structure Kept (op : Int) (T0 L : List TV) : Prop where
 k3 : op = 3 → L = T0
 k5 : op = 5 → L.Perm T0
 mem : ∀ x, x ∈ L.map TV.t ↔ x ∈ T0.map TV.t
 size : sizeL (L.map TV.t) ≤ sizeL (T0.map TV.t)
 mm : ∀ x ∈ L, x ∈ T0
theorem Kept.perm {op : Int} {T0 L : List TV} (h : L.Perm T0) (h3 : op = 3 → L = T0) : Kept op T0 L :=
 ⟨h3, fun _ => h, fun x => (h.map _).mem_iff, Nat.le_of_eq (sizeL_perm (h.map _)), fun x hx => h.mem_iff.1 hx⟩
theorem Kept.cp {op : Int} {T0 : List TV} (h : Kept op T0 T) (hc : CpR TV.t False T L) (h4 : op = 4) : Kept op T0 L where
 k3 e := by omega
 k5 e := by omega
 mem x := ⟨fun hx => (h.mem x).1 (hc.sub.subset hx), fun hx => hc.mem x ((h.mem x).2 hx)⟩
 size := Nat.le_trans (sizeL_sub hc.sub) h.size
 mm x hx := h.mm x (hc.mm x hx)
theorem Kept.join {op : Int} {l : List Tree} {T0 : List TV} (h : Kept op T0 L) (h0 : T0.map TV.t = flatP op l) : JoinR op l (partsT op (L.map TV.t)) :=
 ⟨L.map TV.t, fun e => by rw [h.k3 e, h0], fun e => by rw [← h0]; exact (h.k5 e).map _, fun x => by rw [h.mem, h0], by rw [← h0]; exact h.size, rfl⟩
theorem c117 {op : Int} {l : List Tree} (hl : Sl rTree H l A n c) (hsz : sizeL l ≤ 1000000) : Ct PP 117 #[.int .i64 op, .slice A n c] H [] fun v H' O' => O' = [] ∧ ∃ o a A n c ll, v = .agg #[.int .i64 o, .string a, .slice A n c] ∧ Sl rTree H' ll A n c ∧ JoinR op l (.mk o a ll) := by
 have j6 := hl.len
 have k2 := len_sizeL l
 refine cB func117 ntmps117 fun I hD hI k7 => ?_
 refine g2a ?_
 intros
 refine aL fun b2 => ?_
 refine g13c ?_
 intros
 refine newRow 37 3 ?_
 have e7 : ([] : List Tree) = flatP op (l.take 0) := by simp [flatP]
 refine lp1 (fun D f E H' O m => ∃ (i np : Nat) (Ap : OA) (cp : Nat) (cs : LV), H = H' ∧ (i ≤ n) ∧ (Reps rTree H (flatP op (l.take i)) cs) ∧ m = n - i ∧ O = [.row 37 3 (.slice Ap np cp) np cs, f] ∧ E = (5, .slice Ap np cp) :: (10, .int .i64 (i : Int)) :: D) [0, 4, 8, 9] [0, 1] ⟨0, 0, none, 0, [], rfl, Nat.zero_le _, (e7 ▸ .nil), rfl, rfl, rfl⟩ ?_
 rintro _ _ _ _ ⟨i, np, Ap, cp, cs, rfl, hi, hr, rfl, rfl, rfl⟩ _ h7
 refine row_len (i := 0) rfl fun k8 _ => ?_
 have i6 : np = (flatP op (l.take i)).length := by have := hr.len; rw [show rTree.k = 3 from rfl] at this; omega
 have k4 := flatP_len (op := op) (l := l) (i := i)
 refine g5b ?_
 intros
 refine cD ?_ ?_ <;> intro f8
 refine g5b ?_
 intros
 obtain ⟨b4, h4⟩ := eX hl i
 obtain ⟨j5, o4, f9, e6, d7, i7⟩ := hl.at_ h4
 obtain ⟨A0, n1, c27, rfl, h6⟩ := rTree_dest d7
 refine g2 ?_
 refine aL fun j8 => ?_
 refine sG 0 ?_
 refine g10a ?_
 intros
 refine cD ?_ ?_ <;> intro h5
 have k5 := h6.len
 have j2 := len_sizeL b4.l
 have j9 := size_mem (mG h4)
 have k1 := Tree.size_l b4
 refine g4 ?_
 refine sL hD 1 h6 fun A2 c33 n0 d6 => ?_
 refine g5 ?_
 exact nK h7 ⟨i + 1, np + n1, A2, c33, cs ++ n0, rfl, oM, (by rw [flatP_take h4, if_pos h5]; exact hr.append d6), rfl, rfl, rfl⟩
 refine g6a ?_
 intros
 refine sB 27 ?_ ?_ <;> intro c0
 refine g6 ?_
 have d3 : ¬ b4.op = 2 ∨ op = 4 := .inl (by simpa using c0)
 refine g3 ?_
 refine sq rfl (bS [.int .i64 b4.op, .string b4.act, .slice A0 n1 c27] fun k6 => ?_)
 refine sq rfl (aR 2 fun A3 c40 => ?_)
 refine g5 ?_
 exact nK h7 ⟨i + 1, np + 1, A3, c40, cs ++ [.int .i64 b4.op, .string b4.act, .slice A0 n1 c27], rfl, oM, (by rw [flatP_take h4, if_neg h5, if_pos d3]; exact hr.snoc (rTree_mk (t := b4) h6)), rfl, rfl, rfl⟩
 refine g5 ?_
 refine cD ?_ ?_ <;> intro b7
 have d3 : ¬ b4.op = 2 ∨ op = 4 := .inr b7
 refine g3 ?_
 refine sq rfl (bS [.int .i64 b4.op, .string b4.act, .slice A0 n1 c27] fun j4 => ?_)
 refine sq rfl (aR 2 fun A1 c44 => ?_)
 refine g5 ?_
 exact nK h7 ⟨i + 1, np + 1, A1, c44, cs ++ [.int .i64 b4.op, .string b4.act, .slice A0 n1 c27], rfl, oM, (by rw [flatP_take h4, if_neg h5, if_pos d3]; exact hr.snoc (rTree_mk (t := b4) h6)), rfl, rfl, rfl⟩
 have i4 : ¬ (¬ b4.op = 2 ∨ op = 4) := by rintro (h | h) <;> first | exact h (by simpa using c0) | exact b7 h
 refine g4 ?_
 exact nK h7 ⟨i + 1, np, Ap, cp, cs, rfl, oM, (by rw [flatP_take h4, if_neg h5, if_neg i4, List.append_nil]; exact hr), rfl, rfl, rfl⟩
 refine g1 ?_
 refine TK.seq fun K0 e1 => ?_
 have j7 : i = n := by omega
 rw [List.take_of_length_le oM] at hr
 obtain ⟨T0, rfl, h9, d8⟩ := reps_tv hr
 have j0 : T0.length = np := by have := congrArg List.length d8; rw [List.length_map] at this; rw [this, i6, List.take_of_length_le oM]
 have e4 : np ≤ 1000000 := by omega
 have c1 : ∀ (T1 : List TV) (d1 : Kept op T0 T1), TK 57 I K0 [(0, .int .i64 op), (4, .pointer (ad b2)), (5, .slice Ap np cp)] H [.row 37 3 (.slice Ap np cp) np (tC T1), .blk b2 37 [.int .i64 0, .string ⟨#[]⟩, .slice none 0 0]] := by
  intro T1 d1
  refine e1 _ _ _ ?_
  refine TK.seq fun K1 d9 => ?_
  refine row_len (i := 0) rfl fun d4 _ => ?_
  have e9 : T1.length = np := by rw [tC_len] at d4; omega
  have b8 : ∀ (L : List TV) (Bq : OA) (kq cq : Nat) (hk : Kept op T0 L), TK 57 I K1 [(0, .int .i64 op), (4, .pointer (ad b2)), (5, .slice Bq kq cq)] H [.row 37 3 (.slice Bq kq cq) kq (tC L), .blk b2 37 [.int .i64 0, .string ⟨#[]⟩, .slice none 0 0]] := by
   intro L Bq kq cq hk
   refine d9 _ _ _ ?_
   refine row_len (i := 0) rfl fun e2 _ => ?_
   have j3 : L.length = kq := by rw [tC_len] at e2; omega
   have b9 : tvOk H L := fun x hx => h9 x (hk.mm x hx)
   have hj := hk.join d8
   have k0 : kq ≤ 1000000 := by have h1 := len_sizeL (L.map TV.t); have h2 := hk.size; rw [d8] at h2; have h3 := flatP_size op l; rw [List.length_map] at h1; omega
   refine g12c ?_
   intros
   refine cD ?_ ?_ <;> intro i9
   refine g3a ?_
   intros
   refine sG 1 ?_
   refine g1 ?_
   refine rC 1 [] results117 ?_
   exact ⟨rfl, _, _, _, _, _, [], rfl, (Sl.nil _ _), (by have e : L = [] := List.eq_nil_of_length_eq_zero oM; rw [e] at hj; exact hj)⟩
   refine g5a ?_
   intros
   refine cD ?_ ?_ <;> intro e8
   refine g3a ?_
   intros
   refine row_addr (i := 0) rfl oM fun j1 e0 => ?_
   subst e0
   refine g1 ?_
   obtain ⟨b5, h8⟩ := ex_i (l := L) (i := 0) oM
   have b6 := b9 _ (mG h8)
   refine q (yLoadA (cs := [.int .i64 b5.o, .string b5.a, .slice b5.A b5.n b5.c]) aC sC rfl (Mem.row (i := 0) rfl (tC_at h8)) rfl) rfl rfl rfl ?_
   refine sG 1 ?_
   refine g1 ?_
   refine rC 1 [] results117 ?_
   exact ⟨rfl, _, _, _, _, _, b5.l, rfl, b6, (by have e := partsT_one (op := op) (x := b5.t) (l := L.map TV.t) (by rw [List.getElem?_map, h8]; rfl) (by rw [List.length_map]; omega); rw [← e] at hj; exact hj)⟩
   refine g6a ?_
   intros
   refine sG 1 ?_
   refine g1 ?_
   refine tR 0 (r := rTree) (ys := (L.map TV.t)) (tv_reps b9) fun H0 e5 d2 => ?_
   refine rC 0 [] results117 ?_
   exact ⟨rfl, _, _, _, _, _, (L.map TV.t), rfl, d2, (by have e := partsT_many (op := op) (l := L.map TV.t) (by rw [List.length_map]; omega); rw [← e] at hj; exact hj)⟩
  refine g5a ?_
  intros
  refine cD ?_ ?_ <;> intro d5
  refine g2 ?_
  refine sq rfl (fT hD [0] [1] rfl call174 rfl (c174 (T := T1) e9 e4 (fun x hx => h9 x (d1.mm x hx))) ?_)
  rintro v0 O1 ⟨T3, B3, k3, c3, rfl, rfl, i5⟩
  refine g1 ?_
  exact jN (b8 T3 B3 k3 c3 (d1.cp i5 d5))
  exact jS (b8 T1 Ap np cp d1)
 refine g5a ?_
 intros
 refine cN ?_ ?_ <;> intro d0
 have e3 : ¬ op = 3 := by simpa using d0
 refine g2 ?_
 refine sq rfl (fT hD [0] [1] rfl call172 rfl (c172 (T := T0) j0 e4 h9) ?_)
 rintro v1 O2 ⟨T2, rfl, i8⟩
 exact jN (c1 T2 (Kept.perm i8 (fun h => absurd h e3)))
 have e3 : op = 3 := by simpa using d0
 exact jS (c1 T0 (Kept.perm (.refl _) (fun _ => rfl)))
end
end Go.Proofs.YtookcfeogbeooaaGreatDoor
