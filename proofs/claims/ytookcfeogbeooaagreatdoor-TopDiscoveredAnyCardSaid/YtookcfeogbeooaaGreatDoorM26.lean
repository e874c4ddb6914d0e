/-
The first net of the law: its space. The first net of the law: its walker. The first net of the law accepts its word. Replaying a word on a net.
Conditions: those that each theorem states.
-/
import Derived.Test.YtookcfeogbeooaaGreatDoorM25
set_option linter.all false
set_option maxRecDepth 100000
set_option maxHeartbeats 8000000
set_option autoImplicit true
set_option relaxedAutoImplicit true
namespace Go.Proofs.YtookcfeogbeooaaGreatDoor
open Go Go.Proofs
section
open Go.Proofs.Tryz Go.Lib
attribute [local irreducible] TK Yl OpK AnyT wpList Code.wp
def aB : BA := ⟨#[97]⟩
def bB : BA := ⟨#[98]⟩
def T0 : Tree := .mk 3 ⟨#[]⟩ [.mk 1 aB [], .mk 1 bB []]
def N0 : Net := ⟨3, [⟨aB, [0], [2]⟩, ⟨bB, [2], [1]⟩], 0, 1⟩
abbrev m0 : LI := [1, 0, 0]
abbrev m1 : LI := [0, 0, 1]
abbrev m2 : LI := [0, 1, 0]
theorem N0v : validN N0 = true := by decide
theorem m0_ok : okM N0 m0 := ⟨rfl, by decide⟩
theorem m1_ok : okM N0 m1 := ⟨rfl, by decide⟩
theorem m2_ok : okM N0 m2 := ⟨rfl, by decide⟩
theorem keyB_snoc {l : LI} {i : Nat} (h : l[i]? = some x) : byteCells (keyL (l.take i)) ++ [.int .u8 (IntKind.u8.wrap x), .int .u8 (IntKind.u8.wrap (x / 2 ^ 8))] = byteCells (keyL (l.take (i + 1))) := by
 rw [keyL_next h]
 simp only [byteCells, List.map_append, List.map_cons, List.map_nil, List.append_assoc, List.cons_append, List.nil_append, u8_of (wrap_b _).1 (wrap_b _).2]
theorem c146 {l : LI} (hl : Sl rInt H l A n c) (hn : n ≤ 100000) : Ct PP 146 #[.slice A n c] H [] fun v H' O' => O' = [] ∧ v = .string (keyB l) := by
 have h9 := hl.len
 refine cB func146 ntmps146 fun I hD hI b6 => ?_
 refine g9b ?_
 intros
 refine sq rfl (tMake0 uC iC rfl rfl rfl oM oM oM dC fun b3 => ?_)
 refine g10b ?_
 intros
 refine lp0 (fun D E H' O m => ∃ (i : Nat) (Ab : OA) (cb : Nat), H = H' ∧ (i ≤ n) ∧ m = n - i ∧ O = [.row 5 1 (.slice Ab (2 * i) cb) (2 * i) (byteCells (keyL (l.take i)))] ∧ E = (3, .slice Ab (2 * i) cb) :: (12, .int .i64 (i : Int)) :: D) [10, 11] [0] ⟨0, some ⟨b3, 0, none⟩, ((2 : Int) * (n : Int) : Int).toNat, rfl, Nat.zero_le _, rfl, rfl, rfl⟩ ?_
 rintro _ _ _ _ ⟨i, Ab, cb, rfl, hi, rfl, rfl, rfl⟩ _ h5
 refine g5b ?_
 intros
 refine cD ?_ ?_ <;> intro h6
 refine g5b ?_
 intros
 obtain ⟨b4, h4⟩ := eX hl i
 obtain ⟨b5, o4, h7, h8⟩ := hl.atI h4
 refine g9 ?_
 refine q (yShr (m := 8) rfl rfl dC) rfl rfl rfl ?_
 refine g1 ?_
 refine sq rfl (tBSlice (k := 1) (out := [.int .u8 (IntKind.u8.wrap b4), .int .u8 (IntKind.u8.wrap (b4 / 2 ^ 8))]) uC sC nC rfl (fun zs hz => fillAll [.int .u8 (IntKind.u8.wrap b4), .int .u8 (IntKind.u8.wrap (b4 / 2 ^ 8))] zs hz) rfl dC dC dC dC fun b7 => ?_)
 refine sq rfl (aR 1 fun A0 c0 => ?_)
 refine g5 ?_
 rw [keyB_snoc h4]
 exact nK h5 ⟨i + 1, A0, c0, rfl, oM, rfl, rfl, rfl⟩
 refine g3a ?_
 intros
 rw [List.take_of_length_le oM, byte_ns]
 refine g1 ?_
 refine q (yBytesStr (ns := ((keyL l).map fun b => (b.toNat : Int))) (i := 0) rfl uC uC uC rfl) rfl rfl rfl ?_
 refine g2 ?_
 refine kP [] ?_
 refine rT results146 ?_
 exact ⟨rfl, congrArg Value.string (key_str _)⟩
theorem c97 (hl : Sl rTrans H N0.trans A n c) (hm : Sl rInt H m0 Am 3 cm) : Ct PP 97 #[.agg #[.int .i64 N0.places, .slice A n c, .int .i64 N0.source, .int .i64 N0.sink], .slice Am 3 cm, .int .i64 300] H [] fun v H' O' => O' = [] ∧ ∃ B d C e, v = .tuple #[.agg #[.slice B 3 d, .slice C 2 e, .bool true], .int .i64 0] ∧ Sl (rSl rInt) H' [m0, m1, m2] B 3 d ∧ Sl rMv H' [⟨0, 1, 0⟩, ⟨1, 2, 1⟩] C 2 e := by
 refine cB func97 ntmps97 fun I hD hI r3 => ?_
 refine g2a ?_
 intros
 refine bG fun b2 => ?_
 refine aL fun b3 => ?_
 refine g4b ?_
 intros
 refine tSeal (i := 1) rfl fun H6 e2 c1 => ?_
 have ⟨hl, hm⟩ := mo2 e2 hl hm
 refine g3 ?_
 refine sq rfl (fP hD rfl call145 rfl (c145 hl N0v hm m0_ok) ?_)
 rintro v8 H9 ⟨A8, k7, o6, rfl, h6⟩ d5
 have ⟨hl, hm, c1⟩ := mo3 d5 hl hm c1
 rw [show enL N0 m0 = [0] by decide] at h6
 obtain rfl : 1 = k7 := h6.len
 refine g11a ?_
 intros
 refine cN ?_ ?_ <;> intro e3
 exfalso; simp at e3
 refine g7b ?_
 intros
 refine sD 32 ?_ ?_ <;> intro k8
 ·exfalso; first | omega | contradiction
 refine g4 ?_
 refine cD ?_ ?_ <;> intro n1
 ·exfalso; first | omega | contradiction
 refine g4a ?_
 intros
 refine sq rfl (TK.callSO hD (Oc := []) (.refl _) rfl rfl (ent call49 rfl) (c49 hm oM) ?_)
 rintro v7 O1 ⟨A5, e4, l1, rfl, e6, rfl⟩
 refine tR 0 e6 fun H5 e1 h7 => ?_
 have ⟨hl, hm, c1, h6⟩ := mo4 e1 hl hm c1 h6
 refine sq rfl (bS [.slice A5 3 e4] fun n6 => ?_)
 refine g1 ?_
 refine aL fun n9 => ?_
 refine sG 0 ?_
 refine g3a ?_
 intros
 refine sq rfl (tMakeMap dC fun n8 => ?_)
 refine g1 ?_
 refine sq rfl (fS hD rfl call146 rfl (c146 hm oM) ?_)
 rintro r1 rfl
 refine sq rfl (tInsert (m := ([] : List (BA × Int))) (k := (keyB m0)) (g := (Value.int .i64)) (v := 0) (i := 0) uC (keyStr uC) rfl rfl rfl rfl ?_)
 refine g9b ?_
 intros
 refine TK.rounds 4 (TK.roundS fun _ k5 => ?_)
 refine g9b ?_
 intros
 refine cD ?_ ?_ <;> intro n2
 refine g4b ?_
 intros
 refine ts 12 fun _ => ?_
 refine tj 0 ?_
 refine g5 ?_
 refine oI 6 rfl kR (fP hD rfl call145 rfl (c145 hl N0v h7 m0_ok) ?_)
 rintro r0 H8 ⟨A6, k3, k9, rfl, h8⟩ c0
 have ⟨hl, hm, c1, h6, h7⟩ := mo5 c0 hl hm c1 h6 h7
 rw [show enL N0 m0 = [0] by decide] at h8
 obtain rfl : 1 = k3 := h8.len
 refine ta_next (kG c0) ?_
 refine tk 7 rfl kR aS nP (kG c0) (yMove rfl) rfl rfl rfl ?_
 refine tk 8 rfl kR aS nP (kG c0) (yExtract rfl rfl) rfl rfl rfl ?_
 refine tk 9 rfl kR aS nP (kG c0) (yExtract rfl rfl) rfl rfl rfl ?_
 refine tk 10 rfl kR aS nP (kG c0) (yAssign rfl) rfl rfl rfl ?_
 refine tk 11 rfl kR aS nP (kG c0) (yAssign rfl) rfl rfl rfl ?_
 refine g9a ?_
 intros
 refine TK.rounds 2 (TK.roundS fun _ l9 => ?_)
 refine g5b ?_
 intros
 refine cD ?_ ?_ <;> intro n5
 refine g5b ?_
 intros
 have e8 := (show ([0] : LI)[0]? = some 0 from rfl)
 obtain ⟨o8, o7, n3, d1⟩ := h8.atI e8
 refine g5a ?_
 intros
 refine ts 13 fun _ => ?_
 refine tj 0 ?_
 refine g6 ?_
 refine oI 7 rfl kR (fP hD rfl call48 rfl (c48 (t := 0) hl N0v h7 m0_ok) ?_)
 rintro v9 H7 ⟨A1, k4, e5, rfl, h4⟩ b9
 have ⟨hl, hm, c1, h6, h7, h8, d1⟩ := mo7 b9 hl hm c1 h6 h7 h8 d1
 rw [show fireM N0 m0 0 = (m1, 0) by decide] at h4 ⊢
 obtain rfl : 3 = k4 := h4.len
 refine ta_next (kG b9) ?_
 refine tk 8 rfl kR aS nP (kG b9) (yMove rfl) rfl rfl rfl ?_
 refine tk 9 rfl kR aS nP (kG b9) (yExtract rfl rfl) rfl rfl rfl ?_
 refine tk 10 rfl kR aS nP (kG b9) (yExtract rfl rfl) rfl rfl rfl ?_
 refine tk 11 rfl kR aS nP (kG b9) (yAssign rfl) rfl rfl rfl ?_
 refine tk 12 rfl kR aS nP (kG b9) (yAssign rfl) rfl rfl rfl ?_
 refine g8b ?_
 intros
 refine cN ?_ ?_ <;> intro e7
 exfalso; simp at e7
 refine g5a ?_
 intros
 refine sq rfl (fS hD rfl call146 rfl (c146 h4 oM) ?_)
 rintro v5 rfl
 refine q (yLookupOk (k := (keyB m1)) (g := (Value.int .i64)) (z := 0) (i := 0) uC (keyStr uC) nC rfl rfl rfl) rfl rfl rfl ?_
 rw [show mget (mput ([] : List (BA × Int)) (keyB m0) 0) (keyB m1) = none by decide]
 refine g16d ?_
 intros
 refine g6 ?_
 refine cD ?_ ?_ <;> intro l5
 ·exfalso; first | omega | contradiction
 refine g12b ?_
 intros
 refine sq rfl (fS hD rfl call146 rfl (c146 h4 oM) ?_)
 rintro v6 rfl
 refine g1 ?_
 refine sq rfl (tMapUpd (m := mput ([] : List (BA × Int)) (keyB m0) 0) (k := (keyB m1)) (g := (Value.int .i64)) (v := 1) (i := 0) uC (keyStr uC) rfl rfl rfl rfl ?_)
 refine g5 ?_
 refine sq rfl (bS [.slice A1 3 e5] fun n7 => ?_)
 refine sq rfl (aR 3 fun o9 l3 => ?_)
 refine g1 ?_
 refine sU 2 ?_
 refine g9a ?_
 intros
 refine sq rfl (bS [.int .i64 0, .int .i64 1, .int .i64 0] fun o5 => ?_)
 refine newRow 166 3 ?_
 refine sq rfl (tAppend hD (i := 0) (news := [.int .i64 0, .int .i64 1, .int .i64 0]) rfl uC iC rfl dC rfl rfl (Mem.row (i := 1) rfl rfl) rfl oC oM oM dC fun A9 l8 => ?_)
 refine g1 ?_
 refine sU 4 ?_
 refine g8a ?_
 intros
 refine cD ?_ ?_ <;> intro j9
 ·exfalso; first | omega | contradiction
 refine g5 ?_
 refine TK.roundS fun _ k6 => ?_
 refine g5b ?_
 intros
 refine cD ?_ ?_ <;> intro n4
 ·exfalso; first | omega | contradiction
 refine g6 ?_
 refine TK.roundS fun _ l6 => ?_
 refine g9b ?_
 intros
 refine cD ?_ ?_ <;> intro l0
 refine g4b ?_
 intros
 refine ts 12 fun _ => ?_
 refine tj 0 ?_
 refine g3 ?_
 refine row_addr (i := 5) rfl oM fun l2 d6 => ?_
 subst d6
 refine tj 4 ?_
 refine g1 ?_
 refine oI 6 rfl kR (fP hD rfl call145 rfl (c145 hl N0v h4 m1_ok) ?_)
 rintro v4 H2 ⟨A2, k2, i4, rfl, b4⟩ b6
 have ⟨hl, hm, c1, h6, h7, h4, h8, d1⟩ := mo8 b6 hl hm c1 h6 h7 h4 h8 d1
 rw [show enL N0 m1 = [1] by decide] at b4
 obtain rfl : 1 = k2 := b4.len
 refine ta_next (kG b6) ?_
 refine tk 7 rfl kR aS nP (kG b6) (yMove rfl) rfl rfl rfl ?_
 refine tk 8 rfl kR aS nP (kG b6) (yExtract rfl rfl) rfl rfl rfl ?_
 refine tk 9 rfl kR aS nP (kG b6) (yExtract rfl rfl) rfl rfl rfl ?_
 refine tk 10 rfl kR aS nP (kG b6) (yAssign rfl) rfl rfl rfl ?_
 refine tk 11 rfl kR aS nP (kG b6) (yAssign rfl) rfl rfl rfl ?_
 refine g9a ?_
 intros
 refine TK.rounds 2 (TK.roundS fun _ j6 => ?_)
 refine g5b ?_
 intros
 refine cD ?_ ?_ <;> intro j4
 refine g5b ?_
 intros
 have d8 := (show ([1] : LI)[0]? = some 1 from rfl)
 obtain ⟨j8, o4, i9, b8⟩ := b4.atI d8
 refine g5a ?_
 intros
 refine ts 13 fun _ => ?_
 refine tj 0 ?_
 refine g6 ?_
 refine oI 7 rfl kR (fP hD rfl call48 rfl (c48 (t := 1) hl N0v h4 m1_ok) ?_)
 rintro v3 H3 ⟨A0, k0, e0, rfl, h5⟩ h9
 have ⟨hl, hm, c1, h6, h7, h4, b4, b8, h8⟩ := mo9 h9 hl hm c1 h6 h7 h4 b4 b8 h8
 rw [show fireM N0 m1 1 = (m2, 0) by decide] at h5 ⊢
 obtain rfl : 3 = k0 := h5.len
 refine ta_next (kG h9) ?_
 refine tk 8 rfl kR aS nP (kG h9) (yMove rfl) rfl rfl rfl ?_
 refine tk 9 rfl kR aS nP (kG h9) (yExtract rfl rfl) rfl rfl rfl ?_
 refine tk 10 rfl kR aS nP (kG h9) (yExtract rfl rfl) rfl rfl rfl ?_
 refine tk 11 rfl kR aS nP (kG h9) (yAssign rfl) rfl rfl rfl ?_
 refine tk 12 rfl kR aS nP (kG h9) (yAssign rfl) rfl rfl rfl ?_
 refine g8b ?_
 intros
 refine cN ?_ ?_ <;> intro d7
 exfalso; simp at d7
 refine g5a ?_
 intros
 refine sq rfl (fS hD rfl call146 rfl (c146 h5 oM) ?_)
 rintro v1 rfl
 refine q (yLookupOk (k := (keyB m2)) (g := (Value.int .i64)) (z := 0) (i := 3) uC (keyStr uC) nC rfl rfl rfl) rfl rfl rfl ?_
 rw [show mget (mput (mput ([] : List (BA × Int)) (keyB m0) 0) (keyB m1) 1) (keyB m2) = none by decide]
 refine g16d ?_
 intros
 refine g6 ?_
 refine cD ?_ ?_ <;> intro f8
 ·exfalso; first | omega | contradiction
 refine g12b ?_
 intros
 refine sq rfl (fS hD rfl call146 rfl (c146 h5 oM) ?_)
 rintro v2 rfl
 refine g1 ?_
 refine sq rfl (tMapUpd (m := mput (mput ([] : List (BA × Int)) (keyB m0) 0) (keyB m1) 1) (k := (keyB m2)) (g := (Value.int .i64)) (v := 2) (i := 3) uC (keyStr uC) rfl rfl rfl rfl ?_)
 refine g5 ?_
 refine sq rfl (bS [.slice A0 3 e0] fun l4 => ?_)
 refine sq rfl (aR 6 fun A4 f9 => ?_)
 refine g1 ?_
 refine sU 5 ?_
 refine g9a ?_
 intros
 refine sq rfl (bS [.int .i64 1, .int .i64 2, .int .i64 1] fun l7 => ?_)
 refine sq rfl (aR 2 fun A7 j0 => ?_)
 refine g1 ?_
 refine sU 6 ?_
 refine g8a ?_
 intros
 refine cD ?_ ?_ <;> intro j2
 ·exfalso; first | omega | contradiction
 refine g5 ?_
 refine TK.roundS fun _ i7 => ?_
 refine g5b ?_
 intros
 refine cD ?_ ?_ <;> intro j5
 ·exfalso; first | omega | contradiction
 refine g6 ?_
 refine TK.roundS fun _ j1 => ?_
 refine g9b ?_
 intros
 refine cD ?_ ?_ <;> intro i6
 refine g4b ?_
 intros
 refine ts 12 fun _ => ?_
 refine tj 0 ?_
 refine g3 ?_
 refine row_addr (i := 7) rfl oM fun n0 d4 => ?_
 subst d4
 refine tj 4 ?_
 refine g1 ?_
 refine oI 6 rfl kR (fP hD rfl call145 rfl (c145 hl N0v h5 m2_ok) ?_)
 rintro v0 H0 ⟨A3, k1, i5, rfl, b7⟩ b5
 have ⟨hl, hm, c1, h6, h7, h5, b4, b8, h4, h8⟩ := mo10 b5 hl hm c1 h6 h7 h5 b4 b8 h4 h8
 rw [show enL N0 m2 = [] by decide] at b7
 obtain rfl : 0 = k1 := b7.len
 refine ta_next (kG b5) ?_
 refine tk 7 rfl kR aS nP (kG b5) (yMove rfl) rfl rfl rfl ?_
 refine tk 8 rfl kR aS nP (kG b5) (yExtract rfl rfl) rfl rfl rfl ?_
 refine tk 9 rfl kR aS nP (kG b5) (yExtract rfl rfl) rfl rfl rfl ?_
 refine tk 10 rfl kR aS nP (kG b5) (yAssign rfl) rfl rfl rfl ?_
 refine tk 11 rfl kR aS nP (kG b5) (yAssign rfl) rfl rfl rfl ?_
 refine g9a ?_
 intros
 refine TK.rounds 2 (TK.roundS fun _ e9 => ?_)
 refine g5b ?_
 intros
 refine cD ?_ ?_ <;> intro i8
 ·exfalso; first | omega | contradiction
 refine g6 ?_
 refine TK.roundS fun _ j3 => ?_
 refine g9b ?_
 intros
 refine cD ?_ ?_ <;> intro j7
 ·exfalso; first | omega | contradiction
 refine g4a ?_
 intros
 refine sG 8 ?_
 refine g2 ?_
 refine tR 7 (r := (rSl rInt)) (ys := [m0, m1, m2]) (Reps.cons (r := rSl rInt) (c := [_]) ⟨_, _, _, rfl, h7⟩ (Reps.cons (r := rSl rInt) (c := [_]) ⟨_, _, _, rfl, h4⟩ (.single ⟨_, _, _, rfl, h5⟩))) fun H4 d2 d0 => ?_
 have ⟨hl, hm, c1, h6, h7, h5, b7, b8, h4⟩ := mo9 d2 hl hm c1 h6 h7 h5 b7 b8 h4
 refine tR 2 (mv_reps [⟨0, 1, 0⟩, ⟨1, 2, 1⟩]) fun H1 d3 d9 => ?_
 have ⟨hl, hm, c1, h6, h7, d0, h5, b7, b8, h4⟩ := mo10 d3 hl hm c1 h6 h7 d0 h5 b7 b8 h4
 refine rD 6 [] results97 ?_
 exact ⟨rfl, _, _, _, _, rfl, d0, d9⟩
 ·exfalso; first | omega | contradiction
 ·exfalso; first | omega | contradiction
 ·exfalso; first | omega | contradiction
 ·exfalso; first | omega | contradiction
 ·exfalso; first | omega | contradiction
theorem c53 (hl : Sl rTrans H N0.trans A n c) : Ct PP 53 #[.agg #[.int .i64 N0.places, .slice A n c, .int .i64 N0.source, .int .i64 N0.sink], .int .i64 300] H [] fun v H' O' => O' = [] ∧ ∃ B d C e, v = .tuple #[.agg #[.slice B 3 d, .slice C 2 e, .bool true], .int .i64 0] ∧ Sl (rSl rInt) H' [m0, m1, m2] B 3 d ∧ Sl rMv H' [⟨0, 1, 0⟩, ⟨1, 2, 1⟩] C 2 e := by
 refine cB func53 ntmps53 fun I hD hI b5 => ?_
 refine g2a ?_
 intros
 refine bG fun b2 => ?_
 refine aL fun b3 => ?_
 refine g3a ?_
 intros
 refine tSeal (i := 1) rfl fun H5 h7 h5 => ?_
 have hl := hl.mono h7
 refine g2 ?_
 refine sq rfl (fP hD rfl call43 rfl (c43 hl N0v) ?_)
 rintro v0 H8 ⟨Am, km, cm, rfl, hm⟩ h6
 have ⟨hl, h5⟩ := mo2 h6 hl h5
 obtain rfl : 3 = km := hm.len
 refine g12b ?_
 intros
 refine cN ?_ ?_ <;> intro h8
 exfalso; simp at h8
 refine g6a ?_
 intros
 refine sq rfl (fP hD rfl call97 rfl (c97 hl hm) ?_)
 rintro v1 H0 ⟨B, d, C, e, rfl, hS, hM⟩ h4
 have ⟨hl, h5, hm⟩ := mo3 h4 hl h5 hm
 refine g3 ?_
 refine aL fun b4 => ?_
 refine sG 0 ?_
 refine g8b ?_
 intros
 refine sD 27 ?_ ?_ <;> intro h9
 refine g11a ?_
 intros
 refine sG 1 ?_
 refine g2 ?_
 refine rD 1 [] results53 ?_
 exact ⟨rfl, _, _, _, _, rfl, hS, hM⟩
 ·exfalso; first | omega | contradiction
theorem c52 (hl : Sl rTrans H N0.trans A n c) : Ct PP 52 #[.agg #[.int .i64 N0.places, .slice A n c, .int .i64 N0.source, .int .i64 N0.sink], .int .i64 300] H [] fun v H' O' => O' = [] ∧ v = .int .i64 0 := by
 refine cB func52 ntmps52 fun I hD hI h7 => ?_
 refine g2a ?_
 intros
 refine bG fun b2 => ?_
 refine g4b ?_
 intros
 refine tSeal (i := 0) rfl fun H5 h4 h8 => ?_
 have hl := hl.mono h4
 refine g2 ?_
 refine sq rfl (fS hD rfl call35 rfl (c35 hl) ?_)
 rintro v8 rfl
 rw [N0v]
 refine g10b ?_
 intros
 refine sD 10 ?_ ?_ <;> intro h6
 ·exfalso; first | omega | contradiction
 refine g4 ?_
 refine cD ?_ ?_ <;> intro h5
 ·exfalso; first | omega | contradiction
 refine g5a ?_
 intros
 refine rT results52 ?_
 exact ⟨rfl, rfl⟩
theorem c50 {s : BA} : Ct PP 50 #[.string s] H [] fun v H' O' => O' = [] ∧ v = .bool (!isName s) := by
 refine cB func50 ntmps50 fun I hD hI h4 => ?_
 refine g7b ?_
 intros
 refine sq rfl (fS hD rfl call51 rfl c51 ?_)
 rintro v3 rfl
 refine g3 ?_
 refine rT results50 ?_
 exact ⟨rfl, rfl⟩
end
section
open Go.Proofs.Tryz
attribute [local irreducible] TK Yl OpK AnyT wpList Code.wp
abbrev out0 : List (List Mv) := [[⟨0, 1, 0⟩], [⟨1, 2, 1⟩], []]
structure WkAt (H : Ghost) (b : Nat) (A : OA) (n c : Nat) (B : OA) (d : Nat) (C : OA) (e : Nat) (D : OA) (f : Nat) : Prop where
 cells : HC H b 0 [.int .i64 N0.places, .slice A n c, .int .i64 N0.source, .int .i64 N0.sink, .slice B 3 d, .slice C 2 e, .bool true, .slice D 3 f, .int .i64 2]
 tr : Sl rTrans H N0.trans A n c
 out : Sl (rSl rMv) H out0 D 3 f
theorem WkAt.mono {H : Ghost} {n c : Nat} {A D : OA} (h : WkAt H b A n c B d C e D f) (hle : Ghost.le H H') : WkAt H' b A n c B d C e D f := ⟨h.cells.mono hle, h.tr.mono hle, h.out.mono hle⟩
theorem c148 {F : OA} {nf cf : Nat} (hx : Sl rInt H xs X n1 c1) (hz : HC H z 0 [.slice F nf cf]) (hf : Sl rInt H fin F nf cf) : Ct PP 148 #[.slice X n1 c1, .pointer (ad z)] H [] fun v H' O' => O' = [] ∧ v = .bool (decide (xs = fin)) := by
 have h4 := hx.2.2.1
 refine cB func148 ntmps148 fun I hD hI h5 => ?_
 refine g8b ?_
 intros
 refine sq rfl (fS hD rfl call46 rfl (c46 hx hf h4) ?_)
 rintro v3 rfl
 refine g2 ?_
 refine rT results148 ?_
 exact ⟨rfl, rfl⟩
theorem c98 {C : OA} {m e : Nat} {full : Bool} (hS : Sl (rSl rInt) H xs B n d) (hf : Sl rInt H fin F nf cf) : Ct PP 98 #[.agg #[.slice B n d, .slice C m e, .bool full], .slice F nf cf] H [] fun v H' O' => O' = [] ∧ v = .int .i64 (idxOf (fun x => decide (x = fin)) xs) := by
 have hn := hS.2.2.1
 refine cB func98 ntmps98 fun I hD hI h8 => ?_
 refine g2a ?_
 intros
 refine bG fun b2 => ?_
 refine bX [.slice F nf cf] fun b3 => ?_
 refine g3a ?_
 intros
 refine tSeal (i := 1) rfl fun H5 h6 h7 => ?_
 have ⟨hS, hf⟩ := mo2 h6 hS hf
 refine tSeal (i := 0) rfl fun H8 h4 h5 => ?_
 have ⟨hS, hf, h7⟩ := mo3 h4 hS hf h7
 refine g4 ?_
 refine sq rfl (fS hD rfl call147 rfl (c147 (p := fun x => decide (x = fin)) (caps := [.pointer (ad b3)]) hS oM call148 (fun x hx v hv => by obtain ⟨X, n1, c1, h1, h2⟩ := hv; cases h1; exact c148 h2 h5 hf)) ?_)
 rintro v0 rfl
 refine g2 ?_
 refine rT results98 ?_
 exact ⟨rfl, rfl⟩
theorem c54 (hl : Sl rTrans H N0.trans A n c) (hS : Sl (rSl rInt) H [m0, m1, m2] B 3 d) (hM : Sl rMv H [⟨0, 1, 0⟩, ⟨1, 2, 1⟩] C 2 e) : Ct PP 54 #[.agg #[.int .i64 N0.places, .slice A n c, .int .i64 N0.source, .int .i64 N0.sink], .agg #[.slice B 3 d, .slice C 2 e, .bool true]] H [] fun v H' O' => O' = [] ∧ ∃ b D f, v = .pointer (ad b) ∧ WkAt H' b A n c B d C e D f := by
 refine cB func54 ntmps54 fun I hD hI i4 => ?_
 refine g2a ?_
 intros
 refine bG fun b2 => ?_
 refine bG fun b3 => ?_
 refine g3a ?_
 intros
 refine tSeal (i := 1) rfl fun H5 c0 h7 => ?_
 have ⟨hl, hS, hM⟩ := mo3 c0 hl hS hM
 refine tSeal (i := 0) rfl fun H8 b9 h5 => ?_
 have ⟨hl, hS, hM, h7⟩ := mo4 b9 hl hS hM h7
 refine tss (List.nil_sublist _) 6 fun _ => ?_
 refine tj 0 ?_
 refine g4 ?_
 refine oI 5 rfl kR (tMake uC iC rfl rfl rfl oM oM oM dC fun e3 => ?_)
 refine g3 ?_
 refine bG fun e8 => ?_
 refine g4b ?_
 intros
 refine eO2 (fun e0 _ => [e0, .row 82 1 (.slice (ad e3) 3 3) 3 [.slice none 0 0, .slice none 0 0, .slice none 0 0]]) ?_ (he := by simp [List.replicate])
 refine g7 ?_
 refine TK.rounds 3 (TK.roundS fun _ d5 => ?_)
 refine g5b ?_
 intros
 refine cD ?_ ?_ <;> intro e5
 refine g5b ?_
 intros
 have c1 := (show ([⟨0, 1, 0⟩, ⟨1, 2, 1⟩] : List Mv)[0]? = some (⟨0, 1, 0⟩ : Mv) from rfl)
 obtain ⟨i5, o5, _, d6, rfl, e1⟩ := hM.at_ c1
 refine g2 ?_
 refine aL fun e9 => ?_
 refine sA 0 [.int .i64 0, .int .i64 1, .int .i64 0] ?_
 refine g1 ?_
 refine ts 17 fun _ => ?_
 refine tj 0 ?_
 refine g12 ?_
 refine g2 ?_
 refine oI 15 rfl kR (bS [.int .i64 0, .int .i64 1, .int .i64 0] fun e7 => ?_)
 refine g1 ?_
 refine newRow 166 3 ?_
 refine oI 16 rfl kR (tAppend hD (i := 0) (news := [.int .i64 0, .int .i64 1, .int .i64 0]) rfl uC In166 rfl dC rfl rfl (Mem.row (i := 1) rfl rfl) rfl oC oM oM dC fun A1 e4 => ?_)
 refine g3 ?_
 refine sq rfl (rS 4 ?_ (ho := by simp))
 refine g5 ?_
 refine TK.roundS fun _ e2 => ?_
 refine g5b ?_
 intros
 refine cD ?_ ?_ <;> intro d4
 refine g5b ?_
 intros
 have d0 := (show ([⟨0, 1, 0⟩, ⟨1, 2, 1⟩] : List Mv)[1]? = some (⟨1, 2, 1⟩ : Mv) from rfl)
 obtain ⟨f9, o4, _, d7, rfl, h4⟩ := hM.at_ d0
 refine g2 ?_
 refine aL fun e6 => ?_
 refine sA 0 [.int .i64 1, .int .i64 2, .int .i64 1] ?_
 refine g1 ?_
 refine ts 17 fun _ => ?_
 refine tj 0 ?_
 refine g12 ?_
 refine g2 ?_
 refine oI 15 rfl kR (bS [.int .i64 1, .int .i64 2, .int .i64 1] fun f8 => ?_)
 refine g1 ?_
 refine newRow 166 3 ?_
 refine oI 16 rfl kR (tAppend hD (i := 0) (news := [.int .i64 1, .int .i64 2, .int .i64 1]) rfl uC In166 rfl dC rfl rfl (Mem.row (i := 1) rfl rfl) rfl oC oM oM dC fun A0 d2 => ?_)
 refine g3 ?_
 refine sq rfl (rS 7 ?_ (ho := by simp))
 refine g5 ?_
 refine TK.roundS fun _ d3 => ?_
 refine g5b ?_
 intros
 refine cD ?_ ?_ <;> intro d8
 ·exfalso; first | omega | contradiction
 refine g5b ?_
 intros
 refine sq rfl (fP hD rfl call44 rfl (c44 hl N0v) ?_)
 rintro v0 H1 ⟨Af, kf, cf, rfl, hf⟩ b8
 have ⟨hl, hS, hM, h7, h5, h4⟩ := mo6 b8 hl hS hM h7 h5 h4
 refine g11a ?_
 intros
 refine cD ?_ ?_ <;> intro d9
 refine g4 ?_
 refine sq rfl (fS hD rfl call98 rfl (c98 (fin := m2) hS hf) ?_)
 rintro v1 rfl
 rw [show idxOf (fun x => decide (x = m2)) [m0, m1, m2] = 2 by decide]
 refine g2 ?_
 refine sU 6 ?_
 refine g6a ?_
 intros
 refine tR 3 (mv_reps [⟨0, 1, 0⟩]) fun H3 b5 h6 => ?_
 have ⟨hl, hS, hM, h7, h5, h4, hf⟩ := mo7 b5 hl hS hM h7 h5 h4 hf
 refine tR 0 (mv_reps [⟨1, 2, 1⟩]) fun H0 b7 h8 => ?_
 have ⟨hl, hS, hM, h7, h5, h4, hf, h6⟩ := mo8 b7 hl hS hM h7 h5 h4 hf h6
 refine tR 5 (r := (rSl rMv)) (ys := out0) (Reps.cons (r := rSl rMv) (c := [_]) ⟨_, _, _, rfl, h6⟩ (Reps.cons (r := rSl rMv) (c := [_]) ⟨_, _, _, rfl, h8⟩ (.single ⟨_, _, _, rfl, Sl.nil _ _⟩))) fun H2 b4 h9 => ?_
 have ⟨hl, hS, hM, h7, h5, h4, h8, hf, h6⟩ := mo9 b4 hl hS hM h7 h5 h4 h8 hf h6
 refine tSeal (i := 4) rfl fun H4 b6 d1 => ?_
 have ⟨hl, hS, hM, h7, h5, h9, h4, h8, hf, h6⟩ := mo10 b6 hl hS hM h7 h5 h9 h4 h8 hf h6
 refine kP [] ?_
 refine rT results54 ?_
 exact ⟨rfl, _, _, _, rfl, ⟨d1, hl, h9⟩⟩
 ·exfalso; first | omega | contradiction
 ·exfalso; first | omega | contradiction
 ·exfalso; first | omega | contradiction
theorem out0_sym : ∀ ms ∈ out0, ∀ m ∈ ms, 0 ≤ m.sym ∧ m.sym < 2 := by decide
theorem N0_lab : ∀ tr ∈ N0.trans, tr.label ≠ ⟨#[]⟩ := by decide
theorem c99 (hW : WkAt H b A n c B d C e D f) {F : List Bool} {S : OA} {sc : Nat} (hF : F.length = 3) : Ct PP 99 #[.pointer (ad b), .slice S 3 sc] H [.row 4 1 (.slice S 3 sc) 3 ((F).map Value.bool)] fun v H' O' => v = .slice S 3 sc ∧ O' = [.row 4 1 (.slice S 3 sc) 3 ((F).map Value.bool)] := by
 have d7 := hW.cells
 have h5 := hW.tr
 have b5 := hW.out
 refine cB func99 ntmps99 fun I hD hI k2 => ?_
 refine g16d ?_
 intros
 refine newRow 3 1 ?_
 refine eO2 (fun _ _ => [.row 3 1 (.slice none 0 0) 0 ((([] : LI)).map fun x => Value.int .i64 x), .row 4 1 (.slice S 3 sc) 3 ((F).map Value.bool)]) ?_ (he := by simp)
 refine lp1 (fun D f E H' O m => ∃ (i : Nat) (q0 : LI) (Aq : OA) (nq cq : Nat), H = H' ∧ (i ≤ 3) ∧ (∀ u ∈ q0, 0 ≤ u ∧ u < 3) ∧ (nq ≤ i) ∧ m = 3 - i ∧ O = [.row 3 1 (.slice Aq nq cq) nq ((q0).map fun x => Value.int .i64 x), f] ∧ E = (5, .slice Aq nq cq) :: (12, .int .i64 (i : Int)) :: D) [0, 1, 10, 11] [0, 1] ⟨0, [], none, 0, 0, rfl, oM, (by simp), oM, rfl, rfl, rfl⟩ ?_
 rintro _ _ _ _ ⟨i, q0, Aq, nq, cq, rfl, hi, b9, j6, rfl, rfl, rfl⟩ _ d5
 refine g5b ?_
 intros
 refine cD ?_ ?_ <;> intro e1
 refine g4b ?_
 intros
 obtain ⟨bx, f9⟩ := ex_i (l := F) (i := i) oM
 refine g2 ?_
 refine row_addr (i := 1) rfl oM fun j8 d0 => ?_
 subst d0
 refine g1 ?_
 refine q (yLoad1 aC rfl (Mem.row1 (i := 1) rfl (by rw [Nat.zero_add, Nat.mul_one, List.getElem?_map, Int.toNat_natCast, f9]; rfl))) rfl rfl rfl ?_
 refine g7a ?_
 intros
 refine cN ?_ ?_ <;> intro i5
 refine g3 ?_
 refine sq rfl (bS [.int .i64 (i : Int)] fun j5 => ?_)
 refine sq rfl (aR 1 fun A0 c1 => ?_)
 refine g5 ?_
 rw [ints_snoc]
 exact nK d5 ⟨i + 1, q0 ++ [(i : Int)], A0, nq + 1, c1, rfl, oM, (fun u hu => (List.mem_append.1 hu).elim (b9 u) fun h => by simp at h; omega), oM, rfl, rfl, rfl⟩
 refine g4 ?_
 exact nK d5 ⟨i + 1, q0, Aq, nq, cq, rfl, oM, b9, oM, rfl, rfl, rfl⟩
 refine g3a ?_
 intros
 refine tR 0 (r := rInt) (ys := q0) (repsI q0) fun H0 h7 b7 => ?_
 have ⟨d7, h5, b5⟩ := mo3 h7 d7 h5 b5
 have j3 : 2 = n := h5.len
 refine lp1 (fun D f E H O m => ∃ (ql : LI) (Ac : OA) (nc cc : Nat), H0 = H ∧ (Sl rInt H ql Ac nc cc) ∧ (∀ u ∈ ql, 0 ≤ u ∧ u < 3) ∧ m = nc + 1 ∧ O = [f] ∧ E = (5, .slice Ac nc cc) :: D) [0, 1] [0] ⟨q0, Aq, nq, cq, rfl, b7, b9, rfl, rfl, rfl⟩ ?_
 rintro _ _ _ _ ⟨ql, Ac, nc, cc, rfl, hq, d6, rfl, rfl, rfl⟩ _ d4
 have k1 := hq.len
 refine g7b ?_
 intros
 refine cD ?_ ?_ <;> intro e7
 refine g4b ?_
 intros
 obtain ⟨y, hy⟩ := ex_i (l := ql) (i := 0) oM
 have k3 := d6 y (mG hy)
 refine ts 11 fun _ => ?_
 refine tj 0 ?_
 refine g4 ?_
 have b8 := hy
 obtain ⟨j9, o6, f8, e8⟩ := hq.atI b8
 refine g2 ?_
 obtain ⟨j4, h8⟩ := Sl.ex b5 (i := (y : Int).toNat) oM
 obtain ⟨j0, o4, d9, e0, d2, e3⟩ := b5.at_ h8
 obtain ⟨A1, n0, c55, rfl, h4⟩ := d2
 refine g7 ?_
 have e4 := mG h8
 have i9 := h4.len
 have hmn := h4.2.2.1
 refine lp1 (fun D f E H O m => ∃ (j : Nat), H0 = H ∧ (j ≤ n0) ∧ m = n0 - j ∧ O = [f] ∧ E = (38, .int .i64 (j : Int)) :: D) [0, 1, 5, 36, 37] [0] ⟨0, rfl, Nat.zero_le _, rfl, rfl, rfl⟩ ?_
 rintro _ _ _ _ ⟨j, rfl, hj, rfl, rfl, rfl⟩ _ c0
 refine g5b ?_
 intros
 refine cD ?_ ?_ <;> intro i6
 refine g5b ?_
 intros
 obtain ⟨b4, h6⟩ := eX h4 j
 obtain ⟨k0, o7, _, i7, rfl, e9⟩ := h4.at_ h6
 refine g2 ?_
 refine aL fun j7 => ?_
 refine sA 0 [.int .i64 b4.src, .int .i64 b4.dst, .int .i64 b4.sym] ?_
 refine g2a ?_
 intros
 have j1 := out0_sym _ e4 _ (mG h6)
 refine ts 19 fun _ => ?_
 refine tj 0 ?_
 refine g6 ?_
 obtain ⟨j2, h9⟩ := Sl.ex h5 (i := (b4.sym : Int).toNat) oM
 obtain ⟨i8, o5, e5, e2, b6, d8⟩ := h5.at_ h9
 obtain ⟨A2, n1, c89, A3, n2, c93, rfl, e6, i4⟩ := b6
 refine g5 ?_
 refine sD 53 ?_ ?_ <;> intro d1
 exact absurd d1 (N0_lab _ (mG h9))
 refine tjN 12 ?_
 refine g12 ?_
 refine g1 ?_
 exact nK c0 ⟨j + 1, rfl, oM, rfl, rfl, rfl⟩
 refine g3 ?_
 have d3 := hq.cut (l := 1) oM
 refine g2 ?_
 exact nK d4 ⟨(ql.drop 1), (cutA Ac cc 1 1), (nc - 1), (cc - 1), rfl, d3, (fun u hu => d6 u (List.mem_of_mem_drop hu)), rfl, rfl, rfl⟩
 refine g6a ?_
 intros
 refine rT results99 ?_
 exact ⟨rfl, rfl⟩
theorem c55 (hW : WkAt H b A n c B d C e D f) : Ct PP 55 #[.pointer (ad b)] H [] fun v H' O' => ∃ S sc, v = .slice S 3 sc ∧ O' = [.row 4 1 (.slice S 3 sc) 3 (([true, false, false]).map Value.bool)] := by
 have h7 := hW.cells
 have h4 := hW.tr
 have h5 := hW.out
 refine cB func55 ntmps55 fun I hD hI h6 => ?_
 refine g12b ?_
 intros
 refine sq rfl (tMake uC iC rfl rfl rfl oM oM oM dC fun b3 => ?_)
 refine g3a ?_
 intros
 refine TK.eqO (O' := [.row 4 1 (.slice (ad b3) 3 3) 3 [.bool false, .bool false, .bool false]]) (by simp [List.replicate]) ?_
 refine g3 ?_
 refine sq rfl (rS 0 ?_ (ho := by simp))
 refine g5a ?_
 intros
 refine sq rfl (fT hD [0] [] rfl call99 rfl (c99 (F := [true, false, false]) hW rfl) ?_)
 rintro v6 O7 ⟨rfl, rfl⟩
 refine g2 ?_
 refine rT results55 ?_
 exact ⟨_, _, rfl, rfl⟩
theorem c56a (hW : WkAt H b A n c B d C e D f) {S : OA} {sc : Nat} : Ct PP 56 #[.pointer (ad b), .slice S 3 sc, .string aB] H [.row 4 1 (.slice S 3 sc) 3 (([true, false, false]).map Value.bool)] fun v H' O' => ∃ S sc, v = .slice S 3 sc ∧ O' = [.row 4 1 (.slice S 3 sc) 3 (([false, true, false]).map Value.bool)] := by
 have i8 := hW.cells
 have b6 := hW.tr
 have b9 := hW.out
 have e7 : 2 = n := b6.len
 refine cB func56 ntmps56 fun I hD hI j0 => ?_
 refine g8b ?_
 intros
 refine sq rfl (tMake uC iC rfl rfl rfl oM oM oM dC fun b3 => ?_)
 refine g4b ?_
 intros
 refine eO2 (fun _ _ => [.row 4 1 (.slice (ad b3) 3 3) 3 [.bool false, .bool false, .bool false], .row 4 1 (.slice S 3 sc) 3 (([true, false, false]).map Value.bool)]) ?_ (he := by simp [List.replicate])
 refine g6 ?_
 refine TK.rounds 4 (TK.roundS fun _ f8 => ?_)
 refine g5b ?_
 intros
 refine cD ?_ ?_ <;> intro i7
 refine g6b ?_
 intros
 refine row_addr (i := 1) rfl oM fun i9 b4 => ?_
 subst b4
 refine g15c ?_
 intros
 refine g5 ?_
 have h6 := (show out0[0]? = some ([⟨0, 1, 0⟩] : List Mv) from rfl)
 obtain ⟨i4, o5, d9, d1, h9, e5⟩ := b9.at_ h6
 obtain ⟨A0, n0, e0, rfl, h4⟩ := h9
 obtain rfl : 1 = n0 := h4.len
 refine g6 ?_
 refine TK.rounds 2 (TK.roundS fun _ d3 => ?_)
 refine g5b ?_
 intros
 refine cD ?_ ?_ <;> intro e1
 refine g5b ?_
 intros
 have h5 := (show ([⟨0, 1, 0⟩] : List Mv)[0]? = some (⟨0, 1, 0⟩ : Mv) from rfl)
 obtain ⟨f9, o6, _, b8, rfl, d5⟩ := h4.at_ h5
 refine g2 ?_
 refine aL fun e8 => ?_
 refine sA 0 [.int .i64 0, .int .i64 1, .int .i64 0] ?_
 refine g2a ?_
 intros
 refine ts 12 fun _ => ?_
 refine tj 0 ?_
 refine g6 ?_
 have h7 := (show N0.trans[0]? = some (⟨aB, [0], [2]⟩ : Trans) from rfl)
 obtain ⟨e9, o4, e2, c1, b5, e4⟩ := b6.at_ h7
 obtain ⟨A1, n2, i6, A2, n1, i5, rfl, d0, d6⟩ := b5
 refine g7 ?_
 refine cD ?_ ?_ <;> intro h8
 refine g5 ?_
 refine sq rfl (rS 1 ?_ (ho := by simp))
 refine g5 ?_
 refine TK.roundS fun _ c0 => ?_
 refine g5b ?_
 intros
 refine cD ?_ ?_ <;> intro d7
 ·exfalso; first | omega | contradiction
 refine g5 ?_
 refine TK.roundS fun _ d2 => ?_
 refine g5b ?_
 intros
 refine cD ?_ ?_ <;> intro b7
 refine g16d ?_
 intros
 refine g7 ?_
 refine TK.roundS fun _ e3 => ?_
 refine g5b ?_
 intros
 refine cD ?_ ?_ <;> intro d8
 refine g16d ?_
 intros
 refine g7 ?_
 refine TK.roundS fun _ e6 => ?_
 refine g5b ?_
 intros
 refine cD ?_ ?_ <;> intro d4
 ·exfalso; first | omega | contradiction
 refine g5a ?_
 intros
 refine sq rfl (fT hD [1] [0, 2] rfl call99 rfl (c99 (F := [false, true, false]) hW rfl) ?_)
 rintro v0 O1 ⟨rfl, rfl⟩
 refine g2 ?_
 refine kP [0] ?_
 refine rT results56 ?_
 exact ⟨_, _, rfl, rfl⟩
 ·exfalso; first | omega | contradiction
 ·exfalso; first | omega | contradiction
 exact absurd rfl h8
 ·exfalso; first | omega | contradiction
 ·exfalso; first | omega | contradiction
theorem c56b (hW : WkAt H b A n c B d C e D f) {S : OA} {sc : Nat} : Ct PP 56 #[.pointer (ad b), .slice S 3 sc, .string bB] H [.row 4 1 (.slice S 3 sc) 3 (([false, true, false]).map Value.bool)] fun v H' O' => ∃ S sc, v = .slice S 3 sc ∧ O' = [.row 4 1 (.slice S 3 sc) 3 (([false, false, true]).map Value.bool)] := by
 have i5 := hW.cells
 have b6 := hW.tr
 have b8 := hW.out
 have e8 : 2 = n := b6.len
 refine cB func56 ntmps56 fun I hD hI i8 => ?_
 refine g8b ?_
 intros
 refine sq rfl (tMake uC iC rfl rfl rfl oM oM oM dC fun b3 => ?_)
 refine g4b ?_
 intros
 refine eO2 (fun _ _ => [.row 4 1 (.slice (ad b3) 3 3) 3 [.bool false, .bool false, .bool false], .row 4 1 (.slice S 3 sc) 3 (([false, true, false]).map Value.bool)]) ?_ (he := by simp [List.replicate])
 refine g6 ?_
 refine TK.rounds 4 (TK.roundS fun _ e9 => ?_)
 refine g5b ?_
 intros
 refine cD ?_ ?_ <;> intro f9
 refine g6b ?_
 intros
 refine row_addr (i := 1) rfl oM fun i7 b5 => ?_
 subst b5
 refine g12b ?_
 intros
 refine g5 ?_
 refine TK.roundS fun _ d1 => ?_
 refine g5b ?_
 intros
 refine cD ?_ ?_ <;> intro e5
 refine g16d ?_
 intros
 refine g10a ?_
 intros
 have b4 := (show out0[1]? = some ([⟨1, 2, 1⟩] : List Mv) from rfl)
 obtain ⟨e7, o4, d6, d0, h8, e6⟩ := b8.at_ b4
 obtain ⟨A1, n0, e3, rfl, h4⟩ := h8
 obtain rfl : 1 = n0 := h4.len
 refine g6 ?_
 refine TK.rounds 2 (TK.roundS fun _ d4 => ?_)
 refine g5b ?_
 intros
 refine cD ?_ ?_ <;> intro d2
 refine g5b ?_
 intros
 have h7 := (show ([⟨1, 2, 1⟩] : List Mv)[0]? = some (⟨1, 2, 1⟩ : Mv) from rfl)
 obtain ⟨i6, o6, _, d9, rfl, e2⟩ := h4.at_ h7
 refine g2 ?_
 refine aL fun f8 => ?_
 refine sA 0 [.int .i64 1, .int .i64 2, .int .i64 1] ?_
 refine g2a ?_
 intros
 refine ts 12 fun _ => ?_
 refine tj 0 ?_
 refine g6 ?_
 have h9 := (show N0.trans[1]? = some (⟨bB, [2], [1]⟩ : Trans) from rfl)
 obtain ⟨i4, o5, d5, c1, h6, d8⟩ := b6.at_ h9
 obtain ⟨A0, n1, c64, A2, n2, c68, rfl, c0, b7⟩ := h6
 refine g7 ?_
 refine cD ?_ ?_ <;> intro h5
 refine g5 ?_
 refine sq rfl (rS 1 ?_ (ho := by simp))
 refine g5 ?_
 refine TK.roundS fun _ d7 => ?_
 refine g5b ?_
 intros
 refine cD ?_ ?_ <;> intro b9
 ·exfalso; first | omega | contradiction
 refine g5 ?_
 refine TK.roundS fun _ e4 => ?_
 refine g5b ?_
 intros
 refine cD ?_ ?_ <;> intro e0
 refine g16d ?_
 intros
 refine g7 ?_
 refine TK.roundS fun _ e1 => ?_
 refine g5b ?_
 intros
 refine cD ?_ ?_ <;> intro d3
 ·exfalso; first | omega | contradiction
 refine g5a ?_
 intros
 refine sq rfl (fT hD [1] [0, 2] rfl call99 rfl (c99 (F := [false, false, true]) hW rfl) ?_)
 rintro v0 O1 ⟨rfl, rfl⟩
 refine g2 ?_
 refine kP [0] ?_
 refine rT results56 ?_
 exact ⟨_, _, rfl, rfl⟩
 ·exfalso; first | omega | contradiction
 exact absurd rfl h5
 ·exfalso; first | omega | contradiction
 ·exfalso; first | omega | contradiction
 ·exfalso; first | omega | contradiction
theorem c20 (hl : Sl rTrans H N0.trans A n c) (hw : Sl rStr H [aB, bB] W 2 cw) : Ct PP 20 #[.agg #[.int .i64 N0.places, .slice A n c, .int .i64 N0.source, .int .i64 N0.sink], .slice W 2 cw, .int .i64 300] H [] fun v H' O' => O' = [] ∧ v = .tuple #[.bool true, .int .i64 0] := by
 refine cB func20 ntmps20 fun I hD hI e1 => ?_
 refine g2a ?_
 intros
 refine bG fun b2 => ?_
 refine g5b ?_
 intros
 refine tSeal (i := 0) rfl fun H5 b4 h6 => ?_
 have ⟨hl, hw⟩ := mo2 b4 hl hw
 refine g2 ?_
 refine sq rfl (fS hD rfl call35 rfl (c35 hl) ?_)
 rintro v8 rfl
 rw [N0v]
 refine g3 ?_
 refine sqY rfl rfl rfl rfl (fS hD rfl call7 rfl (c7 (p := fun s => !isName s) (caps := []) hw oM call50 (fun x hx => c50)) ?_)
 rintro v9 rfl
 rw [show ([aB, bB].any fun s => !isName s) = false by decide]
 refine g9b ?_
 intros
 refine sq rfl (fS hD rfl call52 rfl (c52 hl) ?_)
 rintro v2 rfl
 refine g7a ?_
 intros
 refine cN ?_ ?_ <;> intro h7
 exfalso; simp at h7
 refine g8b ?_
 intros
 refine cD ?_ ?_ <;> intro b8
 ·exfalso; first | omega | contradiction
 refine g5a ?_
 intros
 refine sq rfl (fP hD rfl call53 rfl (c53 hl) ?_)
 rintro v3 H0 ⟨B, d, C, e, rfl, hS, hM⟩ h4
 have ⟨hl, hw, h6⟩ := mo3 h4 hl hw h6
 refine g3 ?_
 refine aL fun d7 => ?_
 refine sA 0 [.slice B 3 d, .slice C 2 e, .bool true] ?_
 refine g8b ?_
 intros
 refine cN ?_ ?_ <;> intro h9
 exfalso; simp at h9
 refine g5a ?_
 intros
 refine sq rfl (fP hD rfl call54 rfl (c54 hl hS hM) ?_)
 rintro v4 H1 ⟨b, D, f, rfl, hW⟩ h5
 have ⟨hl, hw, h6, hS, hM⟩ := mo5 h5 hl hw h6 hS hM
 have e0 := hW.cells
 refine g5a ?_
 intros
 refine sq rfl (fT hD [] [0] rfl call55 rfl (c55 hW) ?_)
 rintro v1 O2 ⟨S0, k0, rfl, rfl⟩
 refine g10b ?_
 intros
 refine TK.rounds 3 (TK.roundS fun _ d2 => ?_)
 refine g5b ?_
 intros
 refine cD ?_ ?_ <;> intro d6
 refine g5b ?_
 intros
 have b6 := (show [aB, bB][0]? = some aB from rfl)
 obtain ⟨d8, o4, d0, c1⟩ := hw.atS b6
 refine g8 ?_
 refine sq rfl (fT hD [0] [1] rfl call56 rfl (c56a hW) ?_)
 rintro v5 O3 ⟨S1, k1, rfl, rfl⟩
 refine g6 ?_
 refine TK.roundS fun _ d1 => ?_
 refine g5b ?_
 intros
 refine cD ?_ ?_ <;> intro d5
 refine g5b ?_
 intros
 have b5 := (show [aB, bB][1]? = some bB from rfl)
 obtain ⟨d9, o5, d4, c0⟩ := hw.atS b5
 refine g8 ?_
 refine sq rfl (fT hD [0] [1] rfl call56 rfl (c56b hW) ?_)
 rintro v0 O1 ⟨S2, k2, rfl, rfl⟩
 refine g6 ?_
 refine TK.roundS fun _ b7 => ?_
 refine g5b ?_
 intros
 refine cD ?_ ?_ <;> intro d3
 ·exfalso; first | omega | contradiction
 refine g9a ?_
 intros
 refine sD 61 ?_ ?_ <;> intro b9
 refine g5 ?_
 refine row_addr (i := 0) rfl oM fun e2 h8 => ?_
 subst h8
 refine g6 ?_
 refine kP [] ?_
 refine r2 results20 ?_
 exact ⟨rfl, rfl⟩
 ·exfalso; first | omega | contradiction
 ·exfalso; first | omega | contradiction
 ·exfalso; first | omega | contradiction
theorem c4 : Ct PP 4 #[] H [] fun v H' O' => O' = [] ∧ v = .bool true := by
 refine cB func4 ntmps4 fun I hD hI b9 => ?_
 refine g6b ?_
 intros
 refine sq rfl (fS hD rfl call19 rfl c19 ?_)
 rintro v3 rfl
 refine sq rfl (fS hD rfl call19 rfl c19 ?_)
 rintro v4 rfl
 refine sq rfl (tBSlice (k := 3) (out := [.int .i64 1, .string ⟨#[97]⟩, .slice none 0 0, .int .i64 1, .string ⟨#[98]⟩, .slice none 0 0]) uC sC nC rfl (fun zs hz => fill23 hz) rfl dC dC dC dC fun b5 => ?_)
 refine g1 ?_
 refine tR 0 (r := rTree) (ys := [(.mk 1 aB [] : Tree), .mk 1 bB []]) (Reps.cons (r := rTree) (c := [_, _, _]) (rTree_mk (t := .mk 1 aB []) (Sl.nil _ _)) (.single (rTree_mk (t := .mk 1 bB []) (Sl.nil _ _)))) fun H6 b6 h4 => ?_
 refine sq rfl (fP hD rfl call14 rfl (c14 (t := T0) h4) ?_)
 rintro v1 H9 ⟨cs, rfl, hN⟩ h8
 have h4 := h4.mono h8
 rw [show fromT T0 = (N0, 0) by kernel_rfl] at hN ⊢
 obtain ⟨A, n, c, rfl, hl⟩ := hN
 refine g3 ?_
 refine aL fun b8 => ?_
 refine sA 0 [.int .i64 N0.places, .slice A n c, .int .i64 N0.source, .int .i64 N0.sink] ?_
 refine g5a ?_
 intros
 refine sq rfl (tBSlice (k := 1) (out := [.string ⟨#[97]⟩, .string ⟨#[98]⟩]) uC sC nC rfl (fun zs hz => fillAll [.string ⟨#[97]⟩, .string ⟨#[98]⟩] zs hz) rfl dC dC dC dC fun b7 => ?_)
 refine tR 0 (r := rStr) (ys := [aB, bB]) (repsS [aB, bB]) fun H0 h6 h5 => ?_
 have ⟨h4, hl⟩ := mo2 h6 h4 hl
 refine sq rfl (fP hD rfl call20 rfl (c20 hl h5) ?_)
 rintro v0 H1 rfl h7
 have ⟨h4, hl, h5⟩ := mo3 h7 h4 hl h5
 refine g11a ?_
 intros
 refine sD 21 ?_ ?_ <;> intro b4
 refine g4 ?_
 refine sD 25 ?_ ?_ <;> intro h9
 refine g4 ?_
 refine kP [] ?_
 refine rT results4 ?_
 exact ⟨rfl, rfl⟩
 ·exfalso; first | omega | contradiction
 ·exfalso; first | omega | contradiction
theorem c89 {s : BA} : Ct PP 89 #[.string s] H [] fun v H' O' => O' = [] ∧ v = .bool (!isName s) := by
 refine cB func89 ntmps89 fun I hD hI h4 => ?_
 refine g7b ?_
 intros
 refine sq rfl (fS hD rfl call51 rfl c51 ?_)
 rintro v3 rfl
 refine g3 ?_
 refine rT results89 ?_
 exact ⟨rfl, rfl⟩
theorem c42 (hl : Sl rStr H xs A n c) : Ct PP 42 #[.slice A n c] H [] fun v H' O' => O' = [] ∧ v = .bool (xs.all isName) := by
 refine cB func42 ntmps42 fun I hD hI h4 => ?_
 refine g7b ?_
 intros
 refine sq rfl (fS hD rfl call7 rfl (c7 (p := fun s => !isName s) (caps := []) hl (by have := hl.2.2.1; omega) call89 (fun x _ => c89)) ?_)
 rintro v3 rfl
 refine g3 ?_
 refine rT results42 ?_
 exact ⟨rfl, by rw [all_any]⟩
theorem c45 {nd : Node} {B : OA} {n2 c2 : Nat} (hw : Sl rStr H w Aw nw cw) (hf : Sl rInt H fin Af nf cf) (hm : Sl rInt H nd.m A n c) : Ct PP 45 #[.agg #[.int .i64 nd.k, .slice A n c, .slice B n2 c2], .pointer (ad z), .pointer (ad y)] H [.blk z 24 [.slice Aw nw cw], .blk y 50 [.slice Af nf cf]] fun v H' O' => O' = [.blk z 24 [.slice Aw nw cw], .blk y 50 [.slice Af nf cf]] ∧ v = .bool (decide (nd.k = (w.length : Int)) && decide (nd.m = fin)) := by
 have h5 := hw.len
 refine cB func45 ntmps45 fun I hD hI h4 => ?_
 refine g2a ?_
 intros
 refine bG fun b2 => ?_
 refine g10a ?_
 intros
 refine sD 10 ?_ ?_ <;> intro h6
 refine g3 ?_
 refine sqY rfl rfl rfl rfl (fS hD rfl call46 rfl (c46 hm hf (by have := hm.2.2.1; omega)) ?_)
 rintro v5 rfl
 refine g3 ?_
 refine kP [1, 2] ?_
 refine rT results45 ?_
 exact ⟨rfl, congrArg Value.bool (by simp_all)⟩
 refine g7 ?_
 refine kP [1, 2] ?_
 refine rT results45 ?_
 exact ⟨rfl, congrArg Value.bool (by simp_all)⟩
theorem run_snoc {nodes : List Node} {nd : Node} (h : ∀ (j : Nat) (nd : Node), nodes[j]? = some nd → nd.run.length ≤ j) (hn : nd.run.length ≤ nodes.length) : ∀ (j : Nat) (nd' : Node), (nodes ++ [nd])[j]? = some nd' → nd'.run.length ≤ j := by
 intro j nd' hj
 rcases Nat.lt_or_ge j nodes.length with h1 | h1
 ·rw [List.getElem?_append_left h1] at hj; exact h j nd' hj
 ·rw [List.getElem?_append_right h1] at hj
  have : j - nodes.length = 0 := by
   rcases Nat.eq_zero_or_pos (j - nodes.length) with h2 | h2
   ·exact h2
   ·rw [List.getElem?_eq_none (by simp; omega)] at hj; cases hj
  rw [this] at hj
  simp at hj
  subst hj
  omega
theorem c17 {t : Tree} {x : Net} (hx : x = netOf t) (hok : okT t = true) (hl : Sl rTrans H x.trans A n c) (hv : validN x = true) (hwl : Sl rStr H w B nw cw) (hnm : w.all isName = true) (hw200 : w.length ≤ 200) (hrn : ∃ s, RunL x (oneM x x.source) s w (oneM x x.sink)) : Ct PP 17 #[.agg #[.int .i64 x.places, .slice A n c, .int .i64 x.source, .int .i64 x.sink], .slice B nw cw, .int .i64 1000] H [] fun v H' O' => O' = [] ∧ ∃ b R rn rc e, v = .tuple #[.bool b, .slice R rn rc, .int .i64 e] ∧ (e = 13 ∨ e = 0 ∧ b = true ∧ ∃ run, Sl rInt H' run R rn rc ∧ run.length ≤ 1000 ∧ (∀ t ∈ run, 0 ≤ t ∧ t < (x.trans.length : Int)) ∧ wordN x run = w) := by
 have G3 := hl.len
 have I4 := hwl.len
 have w5 := validN_iff.1 hv
 have I6 := w5.1
 have G1 := w5.2.1
 have G4 := w5.2.2.1
 refine cB func17 ntmps17 fun I hD hI I5 => ?_
 refine g2a ?_
 intros
 refine bG fun b2 => ?_
 refine bX [.slice B nw cw] fun b3 => ?_
 refine g9b ?_
 intros
 refine sq rfl (fS hD rfl call15 rfl (c15 hx hok hl hv) ?_)
 rintro v6 rfl
 refine g3 ?_
 refine sqY rfl rfl rfl rfl (fS hD rfl call42 rfl ((by have h := c42 hwl; rw [hnm] at h; exact h)) ?_)
 rintro v7 rfl
 refine g12a ?_
 intros
 refine cD ?_ ?_ <;> intro I2
 refine g6a ?_
 intros
 refine kP [] ?_
 refine TK.ret (TK.ret3 results17 rfl rfl rfl ?_)
 exfalso; omega
 refine g5a ?_
 intros
 refine sD 41 ?_ ?_ <;> intro F3
 refine g12a ?_
 intros
 refine kP [] ?_
 refine TK.ret (TK.ret3 results17 rfl rfl rfl ?_)
 exfalso; omega
 refine g5 ?_
 refine cD ?_ ?_ <;> intro D5
 ·exfalso; first | omega | contradiction
 refine g4a ?_
 intros
 refine sq rfl (fP hD rfl call43 rfl (c43 hl hv) ?_)
 rintro G6 G9 ⟨z8, z9, c18, rfl, d4⟩ n7
 have ⟨hl, hwl⟩ := mo2 n7 hl hwl
 refine g9a ?_
 intros
 refine sq rfl (fP hD rfl call44 rfl (c44 hl hv) ?_)
 rintro G5 G8 ⟨w3, y1, c26, rfl, h5⟩ s3
 have ⟨hl, hwl, d4⟩ := mo3 s3 hl hwl d4
 refine g3 ?_
 refine aL fun u5 => ?_
 refine sU 0 ?_
 refine g11b ?_
 intros
 refine sq rfl (bS [.int .i64 0, .slice z8 z9 c18, .slice none 0 0] fun D8 => ?_)
 refine g4a ?_
 intros
 refine sq rfl (tMakeMap dC fun r6 => ?_)
 refine sq rfl (bS [.int .i64 0] fun I0 => ?_)
 refine g1 ?_
 have C7 : (oneM x x.source).length ≤ 40 := by simp [oneM]; omega
 have E1 := d4.len
 refine sL hD 0 d4 fun G0 c39 v5 w9 => ?_
 have i4 := d4.len
 refine tR 0 (r := rInt) (ys := (0 :: oneM x x.source)) (Reps.append (.single rfl) w9) fun H3 r7 k5 => ?_
 have ⟨hl, hwl, d4, h5⟩ := mo4 r7 hl hwl d4 h5
 refine sq rfl (fS hD rfl call47 rfl (c47 k5 (by have := C7; omega)) ?_)
 rintro F9 rfl
 refine sq rfl (tInsert (m := ([] : List (BA × Bool))) (k := keyB (0 :: oneM x x.source)) (g := Value.bool) (v := true) (i := 0) uC (keyStr uC) rfl rfl rfl rfl ?_)
 refine g9b ?_
 intros
 refine lp3 (fun D f f1 f2 E H O m => ∃ (i : Nat) (n2 : List Node) (mp : List (BA × Bool)) (K : Nat) (Aq : OA) (cq : Nat) (cs : LV), Ghost.le H3 H ∧ (i ≤ K) ∧ (n2.length = K) ∧ (∀ nd ∈ n2, NodeOk x w nd) ∧ (∀ (j : Nat) (nd : Node), n2[j]? = some nd → nd.run.length ≤ j) ∧ (SeenOk n2 mp) ∧ (Looked x w n2 i) ∧ (Met n2 0 (oneM x x.source)) ∧ (K ≤ 1000) ∧ (Reps rNode H n2 cs) ∧ m = 1000 - i ∧ O = [.map r6 (mapL Value.string Value.bool mp), .row 92 3 (.slice Aq K cq) K cs, f, f1, f2] ∧ E = (14, .slice Aq K cq) :: (16, .int .i64 (i : Int)) :: D) [2, 3, 4, 13, 15] [0, 1, 2, 3, 4] ⟨0, [⟨0, oneM x x.source, []⟩], mput ([] : List (BA × Bool)) (keyB (0 :: oneM x x.source)) true, 1, some ⟨D8, 0, none⟩, 1, [.int .i64 0, .slice z8 z9 c18, .slice none 0 0], Ghost.le.refl _, Nat.zero_le _, rfl, (fun nd z7 => by simp at z7; subst z7; exact NodeOk.start hv), (fun j nd hj => by cases j with | zero => (simp at hj; subst hj; simp) | succ j => simp at hj), (SeenOk.start _), Looked.zero, ⟨_, List.mem_singleton.2 rfl, rfl, rfl⟩, dC, (.single ⟨_, _, _, _, _, _, rfl, d4, Sl.nil _ _⟩), rfl, rfl, rfl⟩ ?_
 rintro _ H2 _ _ ⟨i, n2, mp, K, Aq, cq, cs, k4, hi, hK, k6, s5, o7, k1, h0, F6, u2, rfl, rfl, rfl⟩ _ w1
 have ⟨hl, hwl, d4, h5, k5⟩ := mo5 k4 hl hwl d4 h5 k5
 refine g8b ?_
 intros
 refine cD ?_ ?_ <;> intro E4
 refine g7b ?_
 intros
 refine row_addr (i := 1) rfl oM fun u9 w0 => ?_
 subst w0
 refine g1 ?_
 obtain ⟨n0, d5⟩ := ex_i (l := n2) (i := i) oM
 obtain ⟨I1, w7, k8⟩ : ∃ d, rNode.rel H2 n0 d ∧ Mem H2 [.map r6 (mapL Value.string Value.bool mp), .row 92 3 (.slice (ad u9) K cq) K cs, .blk u5 50 [.slice w3 y1 c26], .blk b3 24 [.slice B nw cw], .blk b2 44 [.int .i64 x.places, .slice A n c, .int .i64 x.source, .int .i64 x.sink]] u9 (0 + i * 3) d := Mem.reps (r := rNode) (i := 1) u2 rfl d5
 obtain ⟨w4, v3, c68, A7, n5, c72, rfl, b5, h8⟩ := w7
 refine q (yLoadA (cs := [.int .i64 n0.k, .slice w4 v3 c68, .slice A7 n5 c72]) aC sC rfl (k8) rfl) rfl rfl rfl ?_
 refine aL fun z6 => ?_
 refine sG 0 ?_
 refine g6b ?_
 intros
 refine sq rfl (TK.callRO hD (perm_of_pick [4, 3] [0, 1, 2, 5] 6 rfl rfl rfl rfl) rfl rfl (entV call45 rfl rfl) (c45 (nd := n0) hwl h5 b5) ?_)
 rintro G2 rfl
 refine g1 ?_
 refine cN ?_ ?_ <;> intro r0
 have d9 := k6 _ (mG d5)
 have w8 := d9.k
 have o4 : doneB x w n0 = true := r0
 have y9 := s5 _ _ d5
 refine g1a ?_
 intros
 refine ts 5 fun _ => ?_
 refine tj 0 ?_
 refine g6 ?_
 refine kP [] ?_
 refine TK.ret (TK.ret3 results17 rfl rfl rfl ?_)
 exact ⟨rfl, _, _, _, _, _, rfl, .inr ⟨rfl, rfl, _, h8, by have := (gE d5).1; omega, d9.run, d9.done o4⟩⟩
 have d9 := k6 _ (mG d5)
 have w8 := d9.k
 have C1 : doneB x w n0 = false := r0
 refine g9a ?_
 intros
 refine lp4 (fun D f f1 f2 f3 E H O m => ∃ (u : Nat) (n1 : List Node) (e6 : List (BA × Bool)) (K' : Nat) (A0 : OA) (f9 : Nat) (f8 : LV), Ghost.le H2 H ∧ (u ≤ n) ∧ (n1.length = K') ∧ (∀ nd ∈ n1, NodeOk x w nd) ∧ (∀ (j : Nat) (nd : Node), n1[j]? = some nd → nd.run.length ≤ j) ∧ (SeenOk n1 e6) ∧ (Looked x w n1 i) ∧ (Met n1 0 (oneM x x.source)) ∧ (K' ≤ 1000) ∧ (n1[i]? = some n0) ∧ (i < K') ∧ (Look x w n1 n0 u) ∧ (Reps rNode H n1 f8) ∧ m = n - u ∧ O = [f, .map r6 (mapL Value.string Value.bool e6), .row 92 3 (.slice A0 K' f9) K' f8, f1, f2, f3] ∧ E = (14, .slice A0 K' f9) :: (83, .int .i64 (u : Int)) :: D) [2, 3, 4, 13, 15, 16, 17, 81, 82] [0, 1, 2, 3, 4, 5] ⟨0, n2, mp, K, some ⟨u9, 0, none⟩, cq, cs, Ghost.le.refl _, Nat.zero_le _, hK, k6, s5, o7, k1, h0, F6, d5, oM, Look.zero, u2, rfl, rfl, rfl⟩ ?_
 rintro _ _ _ _ ⟨u, n1, e6, K', A0, f9, f8, c0, hu, j3, d0, h9, b4, b6, j7, e7, d1, l1, j5, h4, rfl, rfl, rfl⟩ _ e4
 have ⟨b5, h8, hl, u2, h5, hwl⟩ := mo6 c0 b5 h8 hl u2 h5 hwl
 refine g5b ?_
 intros
 refine cD ?_ ?_ <;> intro B2
 refine g6b ?_
 intros
 obtain ⟨j9, d3⟩ := eX hl u
 obtain ⟨G7, I3, B1, D1, o8, b9⟩ := hl.at_ d3
 obtain ⟨A4, o5, c103, A3, r3, c107, rfl, h7, h6⟩ := o8
 refine g2 ?_
 refine aL fun s4 => ?_
 refine g1 ?_
 refine sG 0 ?_
 refine g14c ?_
 intros
 refine cN ?_ ?_ <;> intro k3
 have e3 : ¬ j9.label = ⟨#[]⟩ := by simpa using k3
 refine g2b ?_
 intros
 refine ts 13 fun _ => ?_
 refine tj 0 ?_
 refine g4 ?_
 refine sD 97 ?_ ?_ <;> intro z4
 refine tjN 5 ?_
 refine g12 ?_
 refine g2 ?_
 exact nK e4 ⟨u + 1, n1, e6, K', A0, f9, f8, c0, oM, j3, d0, h9, b4, b6, j7, e7, d1, l1, (j5.skip d3 (fun i9 _ => absurd i9 (by rintro (h | h); exact e3 h; have h2 := (gE h).1; omega))), h4, rfl, rfl, rfl⟩
 refine tjY 5 ?_
 refine g1 ?_
 obtain ⟨B0, i5⟩ := Sl.ex hwl (i := (n0.k : Int).toNat) oM
 obtain ⟨B4, B6, z1, d2⟩ := hwl.atS i5
 refine g8 ?_
 refine cN ?_ ?_ <;> intro n6
 refine g4 ?_
 exact nK e4 ⟨u + 1, n1, e6, K', A0, f9, f8, c0, oM, j3, d0, h9, b4, b6, j7, e7, d1, l1, (j5.skip d3 (fun i9 _ => absurd i9 (by rintro (h | h); exact e3 h; rw [i5] at h; simp at h; simp_all))), h4, rfl, rfl, rfl⟩
 have i9 : fitsL w j9 n0.k := .inr (by have h := n6; rw [i5]; congr 1; simpa using h)
 refine g12a ?_
 intros
 refine sq rfl (fP hD rfl call48 rfl (c48 (t := (u : Int)) hl hv b5 (d9.m)) ?_)
 rintro F0 H6 ⟨A1, t2, l4, rfl, b7⟩ e0
 have ⟨hl, b9, h7, h6, hwl, d2, b5, h8, h4, h5⟩ := mo10 e0 hl b9 h7 h6 hwl d2 b5 h8 h4 h5
 refine g12b ?_
 intros
 refine sB 118 ?_ ?_ <;> intro k2
 refine g12 ?_
 refine g2 ?_
 exact nK e4 ⟨u + 1, n1, e6, K', A0, f9, f8, (c0.trans e0), oM, j3, d0, h9, b4, b6, j7, e7, d1, l1, (j5.skip d3 (fun _ h0 => absurd h0 (by simpa using k2))), h4, rfl, rfl, rfl⟩
 refine g2 ?_
 refine sqY rfl rfl rfl rfl (bS [.int .i64 (n0.k + 1)] fun F1 => ?_)
 refine g1 ?_
 have v2 : (fireM x n0.m (u : Int)).2 = 0 := by simpa using k2
 have y2 : fireM x n0.m (u : Int) = ((fireM x n0.m (u : Int)).1, 0) := by rw [← v2]
 have c1 := d9.next hv d3 i9 y2
 have y4 := c1.m.1
 simp only at y4
 have v4 := b7.len
 refine sqY rfl rfl rfl rfl (tAppendSl hD (i := 0) rfl uC In3 rfl dC rfl rfl b7 oM oM dC fun C0 c138 t8 l6 => ?_)
 have i4 := b7.len
 refine tR 0 (r := rInt) (ys := ((n0.k + 1) :: (fireM x n0.m (u : Int)).1)) (Reps.append (.single rfl) l6) fun H0 e9 e5 => ?_
 have ⟨hl, b9, h7, h6, hwl, d2, b5, b7, h8, h4, h5⟩ := mo11 e9 hl b9 h7 h6 hwl d2 b5 b7 h8 h4 h5
 refine sqY rfl rfl rfl rfl (fS hD rfl call47 rfl (c47 e5 oM) ?_)
 rintro E5 rfl
 refine qY (yLookup (k := keyB ((n0.k + 1) :: (fireM x n0.m (u : Int)).1)) (g := Value.bool) (z := false) (i := 2) uC (keyStr uC) nC rfl rfl rfl) rfl rfl rfl rfl rfl rfl ?_
 refine g2 ?_
 refine cN ?_ ?_ <;> intro l3
 refine g4 ?_
 have j8 : kNext j9 n0.k = n0.k + 1 := by rw [kNext, if_neg e3]
 have k9 := b4.met hw200 d0 c1 (by rw [j8]; simpa using l3)
 exact nK e4 ⟨u + 1, n1, e6, K', A0, f9, f8, ((c0.trans e0).trans e9), oM, j3, d0, h9, b4, b6, j7, e7, d1, l1, (j5.skip d3 (fun _ _ => k9)), h4, rfl, rfl, rfl⟩
 refine g9b ?_
 intros
 refine cD ?_ ?_ <;> intro z0
 refine g5b ?_
 intros
 refine row_addr (i := 3) rfl oM fun l0 l2 => ?_
 subst l2
 refine row_capD (i := 3) rfl fun t6 => ?_
 refine g5 ?_
 refine lp7 (fun D f f1 f2 f3 f4 f5 f6 E H O m => ∃ (z : Nat), H0 = H ∧ (z ≤ K' - i) ∧ m = K' - i - z ∧ O = [f, f1, f2, f3, f4, f5, f6] ∧ E = (135, .int .i64 (z : Int)) :: D) [13, 133, 134] [0, 1, 2, 3, 4, 5, 6] ⟨0, rfl, Nat.zero_le _, rfl, rfl, rfl⟩ ?_
 rintro _ _ _ _ ⟨z, rfl, hz, rfl, rfl, rfl⟩ _ s7
 refine g5b ?_
 intros
 refine cD ?_ ?_ <;> intro z3
 refine g5b ?_
 intros
 have u3 := cutA_someD (b := l0) (k := 3) (show i < f9 by omega)
 refine g1 ?_
 obtain ⟨n4, d7⟩ := ex_i (l := n1) (i := i + z) oM
 obtain ⟨E7, o6, j6⟩ : ∃ d, rNode.rel H0 n4 d ∧ Mem H0 [.blk s4 76 [.string j9.label, .slice A4 o5 c103, .slice A3 r3 c107], .blk z6 92 [.int .i64 n0.k, .slice w4 v3 c68, .slice A7 n5 c72], .map r6 (mapL Value.string Value.bool e6), .row 92 3 (.slice (ad l0) K' f9) K' f8, .blk u5 50 [.slice w3 y1 c26], .blk b3 24 [.slice B nw cw], .blk b2 44 [.int .i64 x.places, .slice A n c, .int .i64 x.source, .int .i64 x.sink]] l0 (0 + i * 3 + z * 3) d := by rw [show 0 + i * 3 + z * 3 = 0 + (i + z) * 3 by omega]; exact Mem.reps (r := rNode) (i := 3) h4 rfl d7
 obtain ⟨A8, u7, c173, y6, y0, v8, rfl, l5, n9⟩ := o6
 refine q (yLoadA (cs := [.int .i64 n4.k, .slice A8 u7 c173, .slice y6 y0 v8]) aC sC rfl (j6) rfl) rfl rfl rfl ?_
 refine aL fun E9 => ?_
 refine sG 0 ?_
 refine g5a ?_
 intros
 refine sq rfl (TK.callRO hD (perm_of_pick [6, 5] [0, 1, 2, 3, 4, 7] 8 rfl rfl rfl rfl) rfl rfl (entV call45 rfl rfl) (c45 (nd := n4) hwl h5 l5) ?_)
 rintro B5 rfl
 refine g1 ?_
 refine cN ?_ ?_ <;> intro t4
 have o4 : doneB x w n4 = true := t4
 have e2 := d0 _ (mG d7)
 have y9 := h9 _ _ d7
 refine g1a ?_
 intros
 refine ts 5 fun _ => ?_
 refine tj 0 ?_
 refine g6 ?_
 refine kP [] ?_
 refine TK.ret (TK.ret3 results17 rfl rfl rfl ?_)
 exact ⟨rfl, _, _, _, _, _, rfl, .inr ⟨rfl, rfl, _, n9, by have := (gE d7).1; omega, e2.run, e2.done o4⟩⟩
 refine g4 ?_
 exact nK s7 ⟨z + 1, rfl, oM, rfl, rfl, rfl⟩
 refine g7a ?_
 intros
 refine kP [] ?_
 refine TK.ret (TK.ret3 results17 rfl rfl rfl ?_)
 exact ⟨rfl, _, _, _, _, _, rfl, .inl rfl⟩
 refine g5a ?_
 intros
 refine sq rfl (bS [.int .i64 (n0.k + 1)] fun D9 => ?_)
 refine g1 ?_
 refine sL hD 0 b7 fun C2 D4 t9 r1 => ?_
 have i4 := b7.len
 refine tR 0 (r := rInt) (ys := ((n0.k + 1) :: (fireM x n0.m (u : Int)).1)) (Reps.append (.single rfl) r1) fun H8 i8 j1 => ?_
 have ⟨hl, b9, h7, h6, hwl, d2, b5, b7, e5, h8, h4, h5⟩ := mo12 i8 hl b9 h7 h6 hwl d2 b5 b7 e5 h8 h4 h5
 refine sq rfl (fS hD rfl call47 rfl (c47 j1 oM) ?_)
 rintro D2 rfl
 refine sq rfl (tMapUpd (m := e6) (k := keyB ((n0.k + 1) :: (fireM x n0.m (u : Int)).1)) (g := Value.bool) (v := true) (i := 2) uC (keyStr uC) rfl rfl rfl rfl ?_)
 refine g7 ?_
 have u6 := h9 _ _ d1
 have v1 := h8.len
 refine sq rfl (TK.callSO hD (Oc := []) (.refl _) rfl rfl (ent call49 rfl) (c49 h8 oM) ?_)
 rintro F2 O2 ⟨F4, c197, y7, rfl, r5, rfl⟩
 refine g1 ?_
 refine sq rfl (bS [.int .i64 (u : Int)] fun D3 => ?_)
 refine sq rfl (aR 1 fun A5 l7 => ?_)
 refine tR 1 (r := rInt) (ys := (n0.run ++ [(u : Int)])) (r5.append (.single rfl)) fun H9 i6 r9 => ?_
 have ⟨hl, b9, h7, h6, hwl, d2, b5, b7, e5, j1, h8, h4, h5⟩ := mo13 i6 hl b9 h7 h6 hwl d2 b5 b7 e5 j1 h8 h4 h5
 refine g1 ?_
 refine sq rfl (bS [.int .i64 (n0.k + 1), .slice A1 t2 l4, .slice A5 (n5 + 1) l7] fun B9 => ?_)
 refine sq rfl (aR 5 fun w6 c211 => ?_)
 refine g5 ?_
 have j8 : kNext j9 n0.k = n0.k + 1 := by rw [kNext, if_neg e3]
 rw [j8] at c1
 have C9 := h9 _ _ d1
 exact nK e4 ⟨u + 1, n1 ++ [⟨n0.k + 1, (fireM x n0.m (u : Int)).1, n0.run ++ [(u : Int)]⟩], mput e6 (keyB ((n0.k + 1) :: (fireM x n0.m (u : Int)).1)) true, K' + 1, w6, c211, f8 ++ [.int .i64 (n0.k + 1), .slice A1 t2 l4, .slice A5 (n5 + 1) l7], ((((c0.trans e0).trans e9).trans i8).trans i6), oM, (by simp [j3]), (fun y hy => by rcases List.mem_append.1 hy with hy | hy; exact d0 y hy; simp at hy; subst hy; exact c1), (run_snoc h9 (by simp; omega)), (b4.add ⟨n0.k + 1, (fireM x n0.m (u : Int)).1, n0.run ++ [(u : Int)]⟩), (b6.mono oM), (j7.mono _), oM, (by rw [List.getElem?_append_left oM]; exact d1), oM, (j5.mono.skip d3 (fun _ _ => by rw [j8]; exact ⟨⟨n0.k + 1, (fireM x n0.m (u : Int)).1, n0.run ++ [(u : Int)]⟩, by simp, rfl, rfl⟩)), (h4.append (.single ⟨_, _, _, _, _, _, rfl, b7, r9⟩)), rfl, rfl, rfl⟩
 have e3 : j9.label = ⟨#[]⟩ := by simpa using k3
 refine g7a ?_
 intros
 refine sq rfl (fP hD rfl call48 rfl (c48 (t := (u : Int)) hl hv b5 (d9.m)) ?_)
 rintro D7 H7 ⟨A2, s6, c215, rfl, b8⟩ d6
 have ⟨hl, b9, h7, h6, b5, h8, h4, h5, hwl⟩ := mo9 d6 hl b9 h7 h6 b5 h8 h4 h5 hwl
 refine g12b ?_
 intros
 refine sB 118 ?_ ?_ <;> intro k0
 refine g12 ?_
 refine g2 ?_
 exact nK e4 ⟨u + 1, n1, e6, K', A0, f9, f8, (c0.trans d6), oM, j3, d0, h9, b4, b6, j7, e7, d1, l1, (j5.skip d3 (fun _ h0 => absurd h0 (by simpa using k0))), h4, rfl, rfl, rfl⟩
 refine g2 ?_
 refine sqY rfl rfl rfl rfl (bS [.int .i64 n0.k] fun E8 => ?_)
 refine g1 ?_
 have v2 : (fireM x n0.m (u : Int)).2 = 0 := by simpa using k0
 have y2 : fireM x n0.m (u : Int) = ((fireM x n0.m (u : Int)).1, 0) := by rw [← v2]
 have c1 := d9.next hv d3 (.inl e3) y2
 have y4 := c1.m.1
 simp only at y4
 have v4 := b8.len
 refine sqY rfl rfl rfl rfl (tAppendSl hD (i := 0) rfl uC In3 rfl dC rfl rfl b8 oM oM dC fun D0 B3 t5 s9 => ?_)
 have i4 := b8.len
 refine tR 0 (r := rInt) (ys := (n0.k :: (fireM x n0.m (u : Int)).1)) (Reps.append (.single rfl) s9) fun H1 e8 e1 => ?_
 have ⟨hl, b9, h7, h6, b5, b8, h8, h4, h5, hwl⟩ := mo10 e8 hl b9 h7 h6 b5 b8 h8 h4 h5 hwl
 refine sqY rfl rfl rfl rfl (fS hD rfl call47 rfl (c47 e1 oM) ?_)
 rintro B7 rfl
 refine qY (yLookup (k := keyB (n0.k :: (fireM x n0.m (u : Int)).1)) (g := Value.bool) (z := false) (i := 2) uC (keyStr uC) nC rfl rfl rfl) rfl rfl rfl rfl rfl rfl ?_
 refine g2 ?_
 refine cN ?_ ?_ <;> intro o9
 refine g4 ?_
 have j8 : kNext j9 n0.k = n0.k := by rw [kNext, if_pos e3]
 have k9 := b4.met hw200 d0 c1 (by rw [j8]; simpa using o9)
 exact nK e4 ⟨u + 1, n1, e6, K', A0, f9, f8, ((c0.trans d6).trans e8), oM, j3, d0, h9, b4, b6, j7, e7, d1, l1, (j5.skip d3 (fun _ _ => k9)), h4, rfl, rfl, rfl⟩
 refine g9b ?_
 intros
 refine cD ?_ ?_ <;> intro z2
 refine g5b ?_
 intros
 refine row_addr (i := 3) rfl oM fun k7 t1 => ?_
 subst t1
 refine row_capD (i := 3) rfl fun t7 => ?_
 refine g5 ?_
 refine lp7 (fun D f f1 f2 f3 f4 f5 f6 E H O m => ∃ (z : Nat), H1 = H ∧ (z ≤ K' - i) ∧ m = K' - i - z ∧ O = [f, f1, f2, f3, f4, f5, f6] ∧ E = (135, .int .i64 (z : Int)) :: D) [13, 133, 134] [0, 1, 2, 3, 4, 5, 6] ⟨0, rfl, Nat.zero_le _, rfl, rfl, rfl⟩ ?_
 rintro _ _ _ _ ⟨z, rfl, hz, rfl, rfl, rfl⟩ _ l9
 refine g5b ?_
 intros
 refine cD ?_ ?_ <;> intro z5
 refine g5b ?_
 intros
 have u1 := cutA_someD (b := k7) (k := 3) (show i < f9 by omega)
 refine g1 ?_
 obtain ⟨n3, d8⟩ := ex_i (l := n1) (i := i + z) oM
 obtain ⟨B8, l8, j4⟩ : ∃ d, rNode.rel H1 n3 d ∧ Mem H1 [.blk s4 76 [.string j9.label, .slice A4 o5 c103, .slice A3 r3 c107], .blk z6 92 [.int .i64 n0.k, .slice w4 v3 c68, .slice A7 n5 c72], .map r6 (mapL Value.string Value.bool e6), .row 92 3 (.slice (ad k7) K' f9) K' f8, .blk u5 50 [.slice w3 y1 c26], .blk b3 24 [.slice B nw cw], .blk b2 44 [.int .i64 x.places, .slice A n c, .int .i64 x.source, .int .i64 x.sink]] k7 (0 + i * 3 + z * 3) d := by rw [show 0 + i * 3 + z * 3 = 0 + (i + z) * 3 by omega]; exact Mem.reps (r := rNode) (i := 3) h4 rfl d8
 obtain ⟨w2, u4, c260, A9, v0, y3, rfl, t3, s2⟩ := l8
 refine q (yLoadA (cs := [.int .i64 n3.k, .slice w2 u4 c260, .slice A9 v0 y3]) aC sC rfl (j4) rfl) rfl rfl rfl ?_
 refine aL fun C8 => ?_
 refine sG 0 ?_
 refine g5a ?_
 intros
 refine sq rfl (TK.callRO hD (perm_of_pick [6, 5] [0, 1, 2, 3, 4, 7] 8 rfl rfl rfl rfl) rfl rfl (entV call45 rfl rfl) (c45 (nd := n3) hwl h5 t3) ?_)
 rintro C5 rfl
 refine g1 ?_
 refine cN ?_ ?_ <;> intro n8
 have o4 : doneB x w n3 = true := n8
 have e2 := d0 _ (mG d8)
 have y9 := h9 _ _ d8
 refine g1a ?_
 intros
 refine ts 5 fun _ => ?_
 refine tj 0 ?_
 refine g6 ?_
 refine kP [] ?_
 refine TK.ret (TK.ret3 results17 rfl rfl rfl ?_)
 exact ⟨rfl, _, _, _, _, _, rfl, .inr ⟨rfl, rfl, _, s2, by have := (gE d8).1; omega, e2.run, e2.done o4⟩⟩
 refine g4 ?_
 exact nK l9 ⟨z + 1, rfl, oM, rfl, rfl, rfl⟩
 refine g7a ?_
 intros
 refine kP [] ?_
 refine TK.ret (TK.ret3 results17 rfl rfl rfl ?_)
 exact ⟨rfl, _, _, _, _, _, rfl, .inl rfl⟩
 refine g5a ?_
 intros
 refine sq rfl (bS [.int .i64 n0.k] fun C4 => ?_)
 refine g1 ?_
 refine sL hD 0 b8 fun C3 E2 u0 r8 => ?_
 have i4 := b8.len
 refine tR 0 (r := rInt) (ys := (n0.k :: (fireM x n0.m (u : Int)).1)) (Reps.append (.single rfl) r8) fun H5 j0 j2 => ?_
 have ⟨hl, b9, h7, h6, b5, b8, e1, h8, h4, h5, hwl⟩ := mo11 j0 hl b9 h7 h6 b5 b8 e1 h8 h4 h5 hwl
 refine sq rfl (fS hD rfl call47 rfl (c47 j2 oM) ?_)
 rintro F8 rfl
 refine sq rfl (tMapUpd (m := e6) (k := keyB (n0.k :: (fireM x n0.m (u : Int)).1)) (g := Value.bool) (v := true) (i := 2) uC (keyStr uC) rfl rfl rfl rfl ?_)
 refine g7 ?_
 have u6 := h9 _ _ d1
 have v1 := h8.len
 refine sq rfl (TK.callSO hD (Oc := []) (.refl _) rfl rfl (ent call49 rfl) (c49 h8 oM) ?_)
 rintro E3 O1 ⟨F7, E6, y8, rfl, r4, rfl⟩
 refine g1 ?_
 refine sq rfl (bS [.int .i64 (u : Int)] fun D6 => ?_)
 refine sq rfl (aR 1 fun A6 s0 => ?_)
 refine tR 1 (r := rInt) (ys := (n0.run ++ [(u : Int)])) (r4.append (.single rfl)) fun H4 i7 s8 => ?_
 have ⟨hl, b9, h7, h6, b5, b8, e1, j2, h8, h4, h5, hwl⟩ := mo12 i7 hl b9 h7 h6 b5 b8 e1 j2 h8 h4 h5 hwl
 refine g1 ?_
 refine sq rfl (bS [.int .i64 n0.k, .slice A2 s6 c215, .slice A6 (n5 + 1) s0] fun F5 => ?_)
 refine sq rfl (aR 5 fun y5 v9 => ?_)
 refine g5 ?_
 have j8 : kNext j9 n0.k = n0.k := by rw [kNext, if_pos e3]
 rw [j8] at c1
 have C9 := h9 _ _ d1
 exact nK e4 ⟨u + 1, n1 ++ [⟨n0.k, (fireM x n0.m (u : Int)).1, n0.run ++ [(u : Int)]⟩], mput e6 (keyB (n0.k :: (fireM x n0.m (u : Int)).1)) true, K' + 1, y5, v9, f8 ++ [.int .i64 n0.k, .slice A2 s6 c215, .slice A6 (n5 + 1) s0], ((((c0.trans d6).trans e8).trans j0).trans i7), oM, (by simp [j3]), (fun y hy => by rcases List.mem_append.1 hy with hy | hy; exact d0 y hy; simp at hy; subst hy; exact c1), (run_snoc h9 (by simp; omega)), (b4.add ⟨n0.k, (fireM x n0.m (u : Int)).1, n0.run ++ [(u : Int)]⟩), (b6.mono oM), (j7.mono _), oM, (by rw [List.getElem?_append_left oM]; exact d1), oM, (j5.mono.skip d3 (fun _ _ => by rw [j8]; exact ⟨⟨n0.k, (fireM x n0.m (u : Int)).1, n0.run ++ [(u : Int)]⟩, by simp, rfl, rfl⟩)), (h4.append (.single ⟨_, _, _, _, _, _, rfl, b8, s8⟩)), rfl, rfl, rfl⟩
 refine g5 ?_
 exact nK w1 ⟨i + 1, n1, e6, K', A0, f9, f8, (k4.trans c0), oM, j3, d0, h9, b4, (b6.step d1 C1 j5 oM), j7, e7, h4, rfl, rfl, rfl⟩
 refine g7a ?_
 intros
 refine kP [] ?_
 refine TK.ret (TK.ret3 results17 rfl rfl rfl ?_)
 exfalso; obtain ⟨_, C6⟩ := hrn; exact Looked.none (by rw [hK]; exact (show i = K by omega) ▸ k1) h0 C6
end
end Go.Proofs.YtookcfeogbeooaaGreatDoor
