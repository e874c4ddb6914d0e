/-
Automata that are put together: their moves and their states. Operations on automata, as the program makes them. Operations on automata. Automata one after the other, again and again, and the one or the other.
Conditions: those that each theorem states.
-/
import Derived.Test.YtookcfeogbeooaaGreatDoorM23
set_option linter.all false
set_option maxRecDepth 100000
set_option maxHeartbeats 8000000
set_option autoImplicit true
set_option relaxedAutoImplicit true
namespace Go.Proofs.YtookcfeogbeooaaGreatDoor
open Go Go.Proofs
section
open Go.Proofs.Tryz
attribute [local irreducible] TK Yl OpK AnyT wpList Code.wp
theorem mvC_cons (x : Mv) (l : List Mv) : mvC (x :: l) = .int .i64 x.src :: .int .i64 x.dst :: .int .i64 x.sym :: mvC l := rfl
theorem mvC_at {k : Nat} : ∀ {l : List Mv}, l[k]? = some x → ((mvC l).drop (0 + k * 3)).take 3 = [.int .i64 x.src, .int .i64 x.dst, .int .i64 x.sym] := by
 induction k with
 | zero =>
  intro l h
  match l, h with
  | y :: l, h => simp at h; subst h; simp [mvC_cons]
 | succ k ih =>
  intro l h
  match l, h with
  | y :: l, h =>
   have := ih (l := l) (by simpa using h)
   rw [mvC_cons, show 0 + (k + 1) * 3 = (0 + k * 3) + 1 + 1 + 1 by omega]
   simpa only [List.drop_succ_cons] using this
theorem mvC_at2 {l : List Mv} {k j : Nat} (h : l[k + j]? = some x) : ((mvC l).drop (0 + k * 3 + j * 3)).take 3 = [.int .i64 x.src, .int .i64 x.dst, .int .i64 x.sym] := by
 rw [show 0 + k * 3 + j * 3 = 0 + (k + j) * 3 by omega]; exact mvC_at h
theorem mvC_take : ∀ (l : List Mv) (k : Nat), (mvC l).take (k * 3) = mvC (l.take k)
 | [], k => by simp [mvC]
 | x :: l, 0 => by simp [mvC]
 | x :: l, k + 1 => by rw [mvC_cons, show (k + 1) * 3 = k * 3 + 1 + 1 + 1 by omega, List.take_succ_cons, List.take_succ_cons, List.take_succ_cons, mvC_take l k, List.take_succ_cons, mvC_cons]
theorem mvC_set {x : Mv} {k : Nat} : ∀ {l : List Mv}, k < l.length → (mvC l).take (0 + k * 3) ++ [.int .i64 x.src, .int .i64 x.dst, .int .i64 x.sym] ++ (mvC l).drop (0 + k * 3 + 3) = mvC (l.set k x) := by
 induction k with
 | zero =>
  intro l h
  match l, h with
  | y :: l, h => simp [mvC_cons]
 | succ k ih =>
  intro l h
  match l, h with
  | y :: l, h =>
   have := ih (l := l) (by simpa using h)
   rw [mvC_cons, List.set_cons_succ, mvC_cons, ← this, show 0 + (k + 1) * 3 = (0 + k * 3) + 1 + 1 + 1 by omega, show (0 + k * 3) + 1 + 1 + 1 + 3 = (0 + k * 3 + 3) + 1 + 1 + 1 by omega]
   simp only [List.drop_succ_cons, List.take_succ_cons, List.cons_append]
theorem c217 {B : OA} {m c : Nat} {T : List Mv} (hm : T.length = m) (hmc : m ≤ 1000000) : Ct PP 217 #[.slice B m c] H [.row 166 3 (.slice B m c) m (mvC T)] fun v H' O' => ∃ L B' k c', v = .slice B' k c' ∧ O' = [.row 166 3 (.slice B' k c') k (mvC L)] ∧ CpR id False T L := by
 refine cB func217 ntmps217 fun I hD hI e4 => ?_
 refine g5b ?_
 intros
 refine g2a ?_
 intros
 refine row_cap (i := 0) rfl fun d6 => ?_
 refine g4 ?_
 refine cD ?_ ?_ <;> intro e2
 refine g5a ?_
 intros
 refine rT results217 ?_
 exact ⟨_, _, _, _, rfl, rfl, CpR.all (fun z => Adj.short oM)⟩
 refine g7b ?_
 intros
 refine lp1 (fun D f E H' O m' => ∃ (k : Nat), H = H' ∧ (1 ≤ k ∧ k ≤ m) ∧ (False → Adj id T k) ∧ m' = m - k ∧ O = [f] ∧ E = (3, .int .i64 (k : Int)) :: D) [0] [0] ⟨1, rfl, oM, (fun _ => Adj.one), rfl, rfl, rfl⟩ ?_
 rintro _ _ _ _ ⟨k, rfl, hk, hA, rfl, rfl, rfl⟩ _ b8
 refine g8b ?_
 intros
 refine cD ?_ ?_ <;> intro d0
 refine g4b ?_
 intros
 refine row_addr (i := 0) rfl oM fun d2 b9 => ?_
 subst b9
 refine ts 10 fun _ => ?_
 refine tj 0 ?_
 refine g2 ?_
 obtain ⟨b6, h4⟩ := ex_i (l := T) (i := k) oM
 refine tk 3 rfl kR aS nP kS (yLoadA (cs := [.int .i64 b6.src, .int .i64 b6.dst, .int .i64 b6.sym]) aC sC rfl (Mem.row (i := 0) rfl (mvC_at h4)) rfl) rfl rfl rfl ?_
 refine g4 ?_
 obtain ⟨b7, h7⟩ := ex_i (l := T) (i := ((k : Int) - 1 : Int).toNat) oM
 refine tk 8 rfl kR aS nP kS (yLoadA (cs := [.int .i64 b7.src, .int .i64 b7.dst, .int .i64 b7.sym]) aC sC rfl (Mem.row (i := 0) rfl (mvC_at h7)) rfl) rfl rfl rfl ?_
 refine tk 9 rfl kR aS nP kS (yEqlM (x := b6) (y := b7) rfl rfl) rfl rfl rfl ?_
 refine g2 ?_
 refine cD ?_ ?_ <;> intro d9
 refine g5a ?_
 intros
 try simp only [Int.toNat_natCast]
 rw [cutA_some oM]
 refine g8b ?_
 intros
 have d5 : CpI id (False) T T k (k + 1) := .start hA oM h4 (prev_at h7) (by assumption)
 refine lp0 (fun D E H' O m' => ∃ (k2 k' : Nat) (T' : List Mv), H = H' ∧ (1 ≤ k2 ∧ k2 ≤ m - k) ∧ (CpI id (False) T T' k' (k + k2)) ∧ m' = m - k - k2 ∧ O = [.row 166 3 (.slice (ad d2) m c) m (mvC T')] ∧ E = (3, .int .i64 (k' : Int)) :: (5, .int .i64 (k2 : Int)) :: D) [0, 4] [0] ⟨1, k, T, rfl, oM, d5, rfl, rfl, rfl⟩ ?_
 rintro _ _ _ _ ⟨k2, k', T', rfl, e3, hC, rfl, rfl, rfl⟩ _ h9
 have d4 := hC.kq
 refine g8b ?_
 intros
 refine cD ?_ ?_ <;> intro e0
 refine g4b ?_
 intros
 refine ts 10 fun d1 => ?_
 refine tj 0 ?_
 refine g2 ?_
 obtain ⟨b4, h6⟩ := ex_i (l := T) (i := (k + k2)) oM
 have h8 : T'[k + k2]? = some b4 := by rw [hC.read oM]; exact h6
 refine tk 3 rfl kR aS nP kS (yLoadA (cs := [.int .i64 b4.src, .int .i64 b4.dst, .int .i64 b4.sym]) aC sC rfl (Mem.row (i := 0) rfl (mvC_at2 h8)) rfl) rfl rfl rfl ?_
 refine g4 ?_
 obtain ⟨b5, h5⟩ := ex_i (l := T) (i := (k + ((k2 : Int) - 1 : Int).toNat)) oM
 have c1 : T'[k + ((k2 : Int) - 1 : Int).toNat]? = some b5 := by rw [hC.read oM]; exact h5
 refine tk 8 rfl kR aS nP kS (yLoadA (cs := [.int .i64 b5.src, .int .i64 b5.dst, .int .i64 b5.sym]) aC sC rfl (Mem.row (i := 0) rfl (mvC_at2 c1)) rfl) rfl rfl rfl ?_
 refine tk 9 rfl kR aS nP kS (yNeqM (x := b4) (y := b5) rfl rfl) rfl rfl rfl ?_
 refine g2 ?_
 refine cN ?_ ?_ <;> intro c0
 refine g7a ?_
 intros
 refine q (yLoadA (cs := [.int .i64 b4.src, .int .i64 b4.dst, .int .i64 b4.sym]) aC sC rfl (Mem.row (i := 0) rfl (mvC_at2 h8)) rfl) rfl rfl rfl ?_
 refine g1 ?_
 have d3 := hC.len
 have d7 := hC.kq
 refine sq rfl (tStoreRow (i := 0) (cs := [.int .i64 b4.src, .int .i64 b4.dst, .int .i64 b4.sym]) rfl sC rfl rfl rfl rfl oC (by rw [mvC_len]; omega) ?_)
 try simp only [Int.toNat_natCast]
 rw [mvC_set (x := b4) oM]
 refine g10 ?_
 exact nK h9 ⟨k2 + 1, k' + 1, (T'.set (((k' : Int) : Int).toNat) b4), rfl, oM, (hC.put h6 (by have h := h5; rwa [show k + ((k2 : Int) - 1).toNat = k + k2 - 1 by omega] at h) (fun z => z.elim)), rfl, rfl, rfl⟩
 refine g5 ?_
 exact nK h9 ⟨k2 + 1, k', T', rfl, oM, (hC.same h6 (by have h := h5; rwa [show k + ((k2 : Int) - 1).toNat = k + k2 - 1 by omega] at h) (by simpa using c0)), rfl, rfl, rfl⟩
 refine g6a ?_
 intros
 try simp only [Int.toNat_natCast]
 rw [cutA_some oM]
 have d3 := hC.len
 have d7 := hC.kq
 have e1 := hC.qm
 refine sq rfl (tClear (i := 0) (l := ((k' : Int) : Int).toNat) (zs := [.int .i64 0, .int .i64 0, .int .i64 0]) rfl uC nC rfl rfl oC rfl (fun _ => by simp [Addr.add]) oM (.inl oM) dC fun ds e5 d8 => ?_)
 refine g6a ?_
 intros
 try simp only [Int.toNat_natCast]
 rw [cutA_zero]
 refine g2 ?_
 refine row_take (i := 0) (m' := ((k' : Int) : Int).toNat) rfl oM ?_
 rw [d8]
 rw [mvC_take]
 refine rT results217 ?_
 exact ⟨_, _, _, _, rfl, rfl, hC.done oM⟩
 refine g5 ?_
 exact nK b8 ⟨k + 1, rfl, oM, (fun z => (hA z).step oM (prev_at h7) h4 (False.elim z)), rfl, rfl, rfl⟩
 refine g6a ?_
 intros
 refine rT results217 ?_
 exact ⟨_, _, _, _, rfl, rfl, CpR.all (fun z => ((show k = T.length by omega) ▸ hA z))⟩
theorem shiftI_snoc {l : LI} {i : Nat} (h : l[i]? = some x) : ((shiftI (l.take i) d).map fun x => Value.int .i64 x) ++ [.int .i64 (x + d)] = (shiftI (l.take (i + 1)) d).map fun x => Value.int .i64 x := by simp [shiftI, List.take_add_one, h]
theorem shiftM_snoc {k l : List Mv} {i : Nat} (h : l[i]? = some x) : mvC (k ++ shiftM (l.take i) d) ++ [.int .i64 (x.src + d), .int .i64 (x.dst + d), .int .i64 x.sym] = mvC (k ++ shiftM (l.take (i + 1)) d) := by simp [shiftM, mvC, List.take_add_one, h]
theorem shiftM_len {l : List Mv} : (shiftM l d).length = l.length := by simp [shiftM]
theorem c184 {l : LI} {d : Int} (hl : Sl rInt H l A n c) (hn : n ≤ 1000000) (hr : ∀ x ∈ l, 0 ≤ x ∧ x ≤ 1000000000) (hd : 0 ≤ d ∧ d ≤ 1000000000) : Ct PP 184 #[.slice A n c, .int .i64 d] H [] fun v H' O' => O' = [] ∧ ∃ B m k, v = .slice B m k ∧ m = n ∧ Sl rInt H' (shiftI l d) B m k := by
 have b6 := hl.len
 refine cB func184 ntmps184 fun I hD hI d0 => ?_
 refine g16d ?_
 intros
 refine newRow 3 1 ?_
 refine TK.eqO (O' := [.row 3 1 (.slice none 0 0) 0 ((shiftI (l.take 0) d).map fun x => Value.int .i64 x)]) (by simp [shiftI]) ?_
 refine lp0 (fun D E H' O m => ∃ (i : Nat) (As : OA) (cS : Nat), H = H' ∧ (i ≤ n) ∧ m = n - i ∧ O = [.row 3 1 (.slice As i cS) i ((shiftI (l.take i) d).map fun x => Value.int .i64 x)] ∧ E = (5, .slice As i cS) :: (10, .int .i64 (i : Int)) :: D) [1, 8, 9] [0] ⟨0, none, 0, rfl, Nat.zero_le _, rfl, rfl, rfl⟩ ?_
 rintro _ _ _ _ ⟨i, As, cS, rfl, hi, rfl, rfl, rfl⟩ _ h7
 refine g5b ?_
 intros
 refine cD ?_ ?_ <;> intro b8
 refine g5b ?_
 intros
 obtain ⟨b4, h4⟩ := eX hl i
 obtain ⟨c1, o4, b7, h8⟩ := hl.atI h4
 refine g4 ?_
 have c0 := hr _ (mG h4)
 refine g5 ?_
 refine sq rfl (bS [.int .i64 (b4 + d)] fun b9 => ?_)
 refine sq rfl (aR 1 fun A0 c24 => ?_)
 refine g5 ?_
 rw [shiftI_snoc h4]
 exact nK h7 ⟨i + 1, A0, c24, rfl, oM, rfl, rfl, rfl⟩
 refine g6a ?_
 intros
 have b5 : i = n := by omega
 have h9 : l.take i = l := List.take_of_length_le oM
 refine tR 0 (r := rInt) (ys := (shiftI (l.take i) d)) (repsI _) fun H0 h5 h6 => ?_
 have hl := hl.mono h5
 refine rT results184 ?_
 exact ⟨rfl, _, _, _, rfl, b5, h9 ▸ h6⟩
theorem c183 (hwa : WfA a) (hwb : WfA b) (h1 : Sl rInt H a.start A1 n1 k1) (h2 : Sl rInt H a.final A2 n2 k2) (h3 : Sl rMv H a.moves A3 n3 k3) (h1b : Sl rInt H b.start A1b n1b k1b) (h2b : Sl rInt H b.final A2b n2b k2b) (h3b : Sl rMv H b.moves A3b n3b k3b) : Ct PP 183 #[.agg #[.int .i64 a.states, .int .i64 a.syms, .slice A1 n1 k1, .slice A2 n2 k2, .slice A3 n3 k3], .agg #[.int .i64 b.states, .int .i64 b.syms, .slice A1b n1b k1b, .slice A2b n2b k2b, .slice A3b n3b k3b]] H [] fun v H' O' => ∃ A m c, v = .agg #[.int .i64 (a.states + b.states), .int .i64 a.syms, .slice none 0 0, .slice none 0 0, .slice A m c] ∧ O' = [.row 166 3 (.slice A m c) m (mvC (a.moves ++ shiftM b.moves a.states))] ∧ m = n3 + n3b := by
 have e4 := h3.len
 have c1 := h3b.len
 have e5 := hwa.st
 have d8 := hwb.st
 have e1 := hwa.len
 have e9 := hwb.len
 refine cB func183 ntmps183 fun I hD hI e8 => ?_
 refine g2a ?_
 intros
 refine bG fun b2 => ?_
 refine bG fun b3 => ?_
 refine aL fun b4 => ?_
 refine g1 ?_
 refine TK.seq fun K6 d9 => ?_
 refine tSeal (i := 2) rfl fun H7 h8 b7 => ?_
 have ⟨h1, h2, h3, h1b, h2b, h3b⟩ := mo6 h8 h1 h2 h3 h1b h2b h3b
 refine tSeal (i := 1) rfl fun H0 h5 d7 => ?_
 have ⟨h1, h2, h3, h1b, h2b, h3b, b7⟩ := mo7 h5 h1 h2 h3 h1b h2b h3b b7
 have h6 : ∀ (bg : Nat) (A0 : OA) (c0 : Nat), TK 46 I K6 [(2, .pointer (ad b2)), (3, .pointer (ad b3)), (4, .pointer (ad b4)), (5, .pointer (ad bg))] H0 [.blk bg 84 [.int .i64 (a.states + b.states), .int .i64 a.syms, .slice none 0 0, .slice none 0 0, .slice A0 n3 c0], .row 166 3 (.slice A0 n3 c0) n3 (mvC a.moves), .blk b4 84 [.int .i64 0, .int .i64 0, .slice none 0 0, .slice none 0 0, .slice none 0 0]] := by
  intro bg A0 c0
  refine d9 _ _ _ ?_
  refine g9b ?_
  intros
  refine eO3 (fun e0 _ e2 => [e0, .row 166 3 (.slice A0 n3 c0) n3 (mvC (a.moves ++ shiftM (b.moves.take 0) a.states)), e2]) ?_ (he := by simp [shiftM])
  refine lp1 (fun D f E H O m => ∃ (i : Nat) (Am : OA) (cm : Nat), H0 = H ∧ (i ≤ n3b) ∧ m = n3b - i ∧ O = [.blk bg 84 [.int .i64 (a.states + b.states), .int .i64 a.syms, .slice none 0 0, .slice none 0 0, .slice Am (n3 + i) cm], .row 166 3 (.slice Am (n3 + i) cm) (n3 + i) (mvC (a.moves ++ shiftM (b.moves.take i) a.states)), f] ∧ E = (22, .int .i64 (i : Int)) :: D) [2, 4, 5, 20, 21] [0, 1, 2] ⟨0, A0, c0, rfl, Nat.zero_le _, rfl, rfl, rfl⟩ ?_
  rintro _ _ _ _ ⟨i, Am, cm, rfl, hi, rfl, rfl, rfl⟩ _ b6
  refine g5b ?_
  intros
  refine cD ?_ ?_ <;> intro d2
  refine g5b ?_
  intros
  obtain ⟨b5, h4⟩ := eX h3b i
  obtain ⟨e6, o4, _, d5, rfl, d3⟩ := h3b.at_ h4
  refine g2 ?_
  refine aL fun f8 => ?_
  refine sG 0 ?_
  refine g1 ?_
  have e3 := okMv_iff.1 (hwb.mv _ (mG h4))
  refine g15 ?_
  refine g1 ?_
  refine sq rfl (bS [.int .i64 (b5.src + a.states), .int .i64 (b5.dst + a.states), .int .i64 b5.sym] fun e7 => ?_)
  refine sq rfl (aR 3 fun A4 c39 => ?_)
  refine g1 ?_
  refine sU 2 ?_
  refine g4 ?_
  rw [shiftM_snoc h4]
  exact nK b6 ⟨i + 1, A4, c39, rfl, oM, rfl, rfl, rfl⟩
  refine g4a ?_
  intros
  refine sG 2 ?_
  refine g1 ?_
  refine rC 2 [1] results183 ?_
  have d1 : b.moves.take i = b.moves := List.take_of_length_le oM
  obtain rfl : i = n3b := by omega
  rw [d1]
  exact ⟨_, _, _, rfl, rfl, rfl⟩
 refine ts 12 fun b9 => ?_
 refine tj 0 ?_
 refine g8 ?_
 refine tm2 9 11 ?_ ?_
 refine TK.callSO hD (Oc := []) (.refl _) rfl rfl (ent call186 rfl) (c186 h3 oM) ?_
 rintro v1 O2 ⟨A6, c43, d4, rfl, h9, rfl⟩
 obtain rfl := mv_eq h9
 refine g1 ?_
 refine tj 10 ?_
 refine oI 11 rfl kR (tAlloc zC dC fun d6 => ?_)
 refine g2 ?_
 refine sG 0 ?_
 exact jN (h6 d6 A6 c43)
 refine tAlloc zC dC fun b8 => ?_
 refine g1 ?_
 refine oI 9 rfl kR (TK.callSO hD (Oc := []) (.refl _) rfl rfl (ent call186 rfl) (c186 h3 oM) ?_)
 rintro v0 O1 ⟨A5, c52, d0, rfl, h7, rfl⟩
 obtain rfl := mv_eq h7
 refine g3 ?_
 refine sG 1 ?_
 exact TK.nil (wP [1, 0, 2] [] 3 (h6 b8 A5 c52))
end
section
structure OpR (syms : Int) (P : LI → Prop) (b : Auto) : Prop where
 valid : validA b = true
 syms : b.syms = syms
 acc : ∀ w, P w → AccA b w
theorem RedR.op {a : Auto} {P : LI → Prop} (hw : WfA a) (h : RedR a b) (hp : ∀ w, P w → AccA a w) : OpR a.syms P b := ⟨h.valid, h.syms, fun w hx => h.acc w ((hp w hx).word hw) (hp w hx)⟩
theorem AccA.moves {a : Auto} {L : List Mv} (h : ∀ m ∈ a.moves, m ∈ L) {w : LI} (ha : AccA a w) : AccA ⟨a.states, a.syms, a.start, a.final, L⟩ w := by
 obtain ⟨s, hs, f, hf, hr⟩ := ha
 exact ⟨s, hs, f, hf, hr.mono h⟩
theorem RedR.moves {a : Auto} {L : List Mv} (h : ∀ m ∈ a.moves, m ∈ L) (k : RedR ⟨a.states, a.syms, a.start, a.final, L⟩ b) : RedR a b := ⟨k.valid, k.syms, fun w hw ha => k.acc w hw (ha.moves h)⟩
theorem WfA.moves {a : Auto} {L : List Mv} (h : WfA a) (hL : ∀ m ∈ L, m ∈ a.moves) (hn : L.length ≤ 100000) : WfA ⟨a.states, a.syms, a.start, a.final, L⟩ := ⟨h.st, h.sy, hn, h.start, h.final, fun m hm => h.mv m (hL m hm)⟩
theorem validA_all (h : validA a = true) : (0 ≤ a.states ∧ a.states ≤ 2000) ∧ (0 ≤ a.syms ∧ a.syms ≤ 40) ∧ a.moves.length ≤ 20000 ∧ a.start.length ≤ 2000 ∧ a.final.length ≤ 2000 := by
 have h0 := h
 unfold validA statesB at h
 simp only [Bool.and_eq_true, decide_eq_true_eq, List.all_eq_true] at h
 obtain ⟨⟨⟨⟨⟨h1, h2⟩, h3⟩, h4⟩, h5⟩, h6⟩ := h
 have few : ∀ l : LI, (∀ x ∈ l, 0 ≤ x ∧ x < a.states) → ascI l = true → l.length ≤ 2000 := fun l hl ha => by
  have := few_of (N := a.states.toNat) (ascI_nodup ha) fun s hs => by have := hl s hs; omega
  omega
 exact ⟨⟨h1.1, h1.2.1⟩, h1.2.2, h2, few _ h3.1 h3.2, few _ h4.1 h4.2⟩
theorem cmpM_swo (x y z : Mv) : ¬ cmpM x x < 0 ∧ (cmpM x y < 0 → cmpM y z < 0 → cmpM x z < 0) ∧ (¬ cmpM x y < 0 → ¬ cmpM y z < 0 → ¬ cmpM x z < 0) := by
 have lt : ∀ x y : Mv, cmpM x y < 0 ↔ x.src < y.src ∨ x.src = y.src ∧ (x.sym < y.sym ∨ x.sym = y.sym ∧ x.dst < y.dst) := fun x y => by
  simp only [cmpM, cmpInt, orI]
  (repeat' split) <;> omega
 rw [lt, lt, lt, lt]
 omega
structure CatI (a b : Auto) (i j : Nat) (mv : List Mv) : Prop where
 sub : ∀ m ∈ a.moves ++ shiftM b.moves a.states, m ∈ mv
 eps : ∀ (p q : Nat) (x y : Int), (p < i ∨ p = i ∧ q < j) → a.final[p]? = some x → b.start[q]? = some y → (⟨x, y + a.states, -1⟩ : Mv) ∈ mv
 ok : ∀ m ∈ mv, okMv ⟨a.states + b.states, a.syms, [], [], []⟩ m = true
section
variable {a b : Auto} {i j : Nat} {mv : List Mv}
theorem shiftM_ok (ha : WfA a) (hb : WfA b) (hs : a.syms = b.syms) : ∀ m ∈ a.moves ++ shiftM b.moves a.states, okMv ⟨a.states + b.states, a.syms, [], [], []⟩ m = true := fun m hm => by
 have h1 := ha.st; have h2 := hb.st
 rcases List.mem_append.1 hm with hm | hm
 ·have := okMv_iff.1 (ha.mv m hm); rw [okMv_iff]; simp only; omega
 ·obtain ⟨x, hx, rfl⟩ := List.mem_map.1 hm
  have := okMv_iff.1 (hb.mv x hx); rw [okMv_iff]; simp only; omega
theorem CatI.start (ha : WfA a) (hb : WfA b) (hs : a.syms = b.syms) : CatI a b 0 0 (a.moves ++ shiftM b.moves a.states) := ⟨fun m hm => hm, fun p q x y h => by omega, shiftM_ok ha hb hs⟩
theorem CatI.step (h : CatI a b i j mv) (ha : WfA a) (hb : WfA b) (hx : a.final[i]? = some x) (hy : b.start[j]? = some y) : CatI a b i (j + 1) (mv ++ [⟨x, y + a.states, -1⟩]) where
 sub m hm := List.mem_append_left _ (h.sub m hm)
 eps p q u v hp hu hv := by
  by_cases e : p = i ∧ q = j
  ·obtain ⟨rfl, rfl⟩ := e
   rw [hx] at hu; rw [hy] at hv; cases hu; cases hv; simp
  ·exact List.mem_append_left _ (h.eps p q u v oM hu hv)
 ok m hm := by
  rcases List.mem_append.1 hm with hm | hm
  ·exact h.ok m hm
  ·simp at hm; subst hm
   have h1 := ha.final x (mG hx); have h2 := hb.start y (mG hy); have h3 := ha.sy; have h4 := ha.st
   rw [okMv_iff]; simp only; omega
theorem CatI.next (h : CatI a b i j mv) (hj : b.start.length ≤ j) : CatI a b (i + 1) 0 mv := ⟨h.sub, fun p q x y hp hx hy => h.eps p q x y (by have := (gE hy).1; omega) hx hy, h.ok⟩
theorem CatI.wf (h : CatI a b i j mv) (hva : validA a = true) (hvb : validA b = true) (hs : a.syms = b.syms) (hm : mv.length ≤ 100000) : WfA ⟨a.states + b.states, a.syms, a.start, shiftI b.final a.states, mv⟩ := by
 have h1 := validA_all hva; have h2 := validA_all hvb; have wa := validA_wf hva; have wb := validA_wf hvb
 refine ⟨by simp only; omega, h1.2.1, hm, fun s hs => ?_, fun s hs => ?_, h.ok⟩
 ·have := wa.start s hs; simp only; omega
 ·obtain ⟨x, hx, rfl⟩ := List.mem_map.1 hs
  have := wb.final x hx; simp only; omega
theorem CatI.acc (h : CatI a b i j mv) (hi : a.final.length ≤ i) : ∀ w, (∃ u v, w = u ++ v ∧ AccA a u ∧ AccA b v) → AccA ⟨a.states + b.states, a.syms, a.start, shiftI b.final a.states, mv⟩ w := by
 rintro w ⟨u, v, rfl, hu, hv⟩
 refine acc_concat (a := a) (b := b) (out := ⟨a.states + b.states, a.syms, a.start, shiftI b.final a.states, mv⟩) (fun m hm => h.sub m (List.mem_append_left _ hm)) (fun m hm => h.sub m (List.mem_append_right _ hm)) rfl rfl (fun x hx y hy => ?_) hu hv
 obtain ⟨p, hp⟩ := List.getElem?_of_mem hx
 obtain ⟨q, hq⟩ := List.getElem?_of_mem hy
 exact h.eps p q x y (by have := (gE hp).1; omega) hp hq
def starM (a : Auto) (i j : Nat) : List Mv := a.moves ++ ((a.start.take i).map fun y => ⟨a.states, y, -1⟩) ++ (a.final.take j).map fun y => ⟨y, a.states, -1⟩
theorem starM_1 (h : a.start[i]? = some y) : starM a i 0 ++ [⟨a.states, y, -1⟩] = starM a (i + 1) 0 := by simp [starM, List.take_add_one, h]
theorem starM_2 (h : a.final[j]? = some y) : starM a i j ++ [⟨y, a.states, -1⟩] = starM a i (j + 1) := by simp [starM, List.take_add_one, h]
theorem starM_len (hi : i ≤ a.start.length) (hj : j ≤ a.final.length) : (starM a i j).length = a.moves.length + i + j := by simp [starM]; omega
theorem star_wf (hva : validA a = true) : WfA ⟨a.states + 1, a.syms, [a.states], [a.states], starM a i j⟩ := by
 have h1 := validA_all hva; have wa := validA_wf hva
 refine ⟨by simp only; omega, h1.2.1, ?_, fun s hs => ?_, fun s hs => ?_, fun m hm => ?_⟩
 ·simp only [starM, List.length_append, List.length_map, List.length_take]; omega
 ·simp at hs; simp only; omega
 ·simp at hs; simp only; omega
 ·simp only [starM, List.mem_append, List.mem_map] at hm
  rw [okMv_iff]
  rcases hm with (hm | ⟨y, hy, rfl⟩) | ⟨y, hy, rfl⟩
  ·have := okMv_iff.1 (wa.mv m hm); simp only; omega
  ·have := wa.start y (List.mem_of_mem_take hy); simp only; omega
  ·have := wa.final y (List.mem_of_mem_take hy); simp only; omega
theorem star_acc (hi : a.start.length ≤ i) (hj : a.final.length ≤ j) : ∀ w, StarW (AccA a) w → AccA ⟨a.states + 1, a.syms, [a.states], [a.states], starM a i j⟩ w := fun w hw => by
 refine acc_star (a := a) (out := ⟨a.states + 1, a.syms, [a.states], [a.states], starM a i j⟩) (fun m hm => by simp [starM, hm]) rfl rfl (fun y hy => ?_) (fun y hy => ?_) hw
 ·simp only [starM, List.take_of_length_le hi, List.mem_append, List.mem_map]; exact .inl (.inr ⟨y, hy, rfl⟩)
 ·simp only [starM, List.take_of_length_le hj, List.mem_append, List.mem_map]; exact .inr ⟨y, hy, rfl⟩
theorem union_wf (hva : validA a = true) (hvb : validA b = true) (hs : a.syms = b.syms) : WfA ⟨a.states + b.states, a.syms, a.start ++ shiftI b.start a.states, a.final ++ shiftI b.final a.states, a.moves ++ shiftM b.moves a.states⟩ := by
 have h1 := validA_all hva; have h2 := validA_all hvb; have wa := validA_wf hva; have wb := validA_wf hvb
 have mem : ∀ {l k : LI}, (∀ s ∈ l, 0 ≤ s ∧ s < a.states) → (∀ s ∈ k, 0 ≤ s ∧ s < b.states) → ∀ s ∈ l ++ shiftI k a.states, 0 ≤ s ∧ s < a.states + b.states := fun hl hk s hs => by
  rcases List.mem_append.1 hs with hs | hs
  ·have := hl s hs; omega
  ·obtain ⟨x, hx, rfl⟩ := List.mem_map.1 hs
   have := hk x hx; omega
 refine ⟨by simp only; omega, h1.2.1, by simp only [List.length_append, shiftM_len]; omega, mem wa.start wb.start, mem wa.final wb.final, shiftM_ok wa wb hs⟩
theorem union_acc : ∀ w, AccA a w ∨ AccA b w → AccA ⟨a.states + b.states, a.syms, a.start ++ shiftI b.start a.states, a.final ++ shiftI b.final a.states, a.moves ++ shiftM b.moves a.states⟩ w := fun w h => acc_union (a := a) (b := b) (out := ⟨a.states + b.states, a.syms, a.start ++ shiftI b.start a.states, a.final ++ shiftI b.final a.states, a.moves ++ shiftM b.moves a.states⟩) (fun m hm => List.mem_append_left _ hm) (fun m hm => List.mem_append_right _ hm) rfl rfl h
def shufL (l : List Mv) (m : Int) (k : Nat) : List Mv := l.flatMap fun x => (List.range k).map fun j : Nat => ⟨x.src * m + j, x.dst * m + j, x.sym⟩
def shufR (l : List Mv) (m : Int) (k : Nat) : List Mv := l.flatMap fun x => (List.range k).map fun i : Nat => ⟨(i : Int) * m + x.src, (i : Int) * m + x.dst, x.sym⟩
def rowL (x : Mv) (m : Int) (k : Nat) : List Mv := (List.range k).map fun j : Nat => ⟨x.src * m + j, x.dst * m + j, x.sym⟩
def rowR (x : Mv) (m : Int) (k : Nat) : List Mv := (List.range k).map fun i : Nat => ⟨(i : Int) * m + x.src, (i : Int) * m + x.dst, x.sym⟩
theorem rowL_succ : rowL x m k ++ [⟨x.src * m + k, x.dst * m + k, x.sym⟩] = rowL x m (k + 1) := by simp [rowL, List.range_succ]
theorem rowR_succ : rowR x m k ++ [⟨(k : Int) * m + x.src, (k : Int) * m + x.dst, x.sym⟩] = rowR x m (k + 1) := by simp [rowR, List.range_succ]
theorem shufL_succ {l : List Mv} {i : Nat} (h : l[i]? = some x) : shufL (l.take i) m k ++ rowL x m k = shufL (l.take (i + 1)) m k := by simp [shufL, rowL, List.take_add_one, h]
theorem shufR_succ {l : List Mv} {i : Nat} (h : l[i]? = some x) : shufR (l.take i) m k ++ rowR x m k = shufR (l.take (i + 1)) m k := by simp [shufR, rowR, List.take_add_one, h]
theorem shufL_len : ∀ {l : List Mv}, (shufL l m k).length = l.length * k
 | [] => by simp [shufL]
 | x :: l => by
  have := shufL_len (m := m) (k := k) (l := l)
  simp only [shufL, List.flatMap_cons, List.length_append, List.length_map, List.length_range, List.length_cons] at this ⊢
  rw [this, Nat.add_mul]; omega
theorem shufR_len : ∀ {l : List Mv}, (shufR l m k).length = l.length * k
 | [] => by simp [shufR]
 | x :: l => by
  have := shufR_len (m := m) (k := k) (l := l)
  simp only [shufR, List.flatMap_cons, List.length_append, List.length_map, List.length_range, List.length_cons] at this ⊢
  rw [this, Nat.add_mul]; omega
def shufS (l k : LI) (m : Int) : LI := l.flatMap fun i => shiftI k (i * m)
theorem shufS_succ {l : LI} {i : Nat} (h : l[i]? = some x) : shufS (l.take i) k m ++ shiftI k (x * m) = shufS (l.take (i + 1)) k m := by simp [shufS, List.take_add_one, h]
theorem shufS_mem {l : LI} {x : Int} : x ∈ shufS l k m ↔ ∃ i ∈ l, ∃ j ∈ k, j + i * m = x := by simp [shufS, shiftI]
theorem mul_rg {x y n m : Int} (hx : 0 ≤ x ∧ x ≤ n) (hy : 0 ≤ y ∧ y ≤ m) : 0 ≤ x * y ∧ x * y ≤ n * m := ⟨Int.mul_nonneg hx.1 hy.1, Int.mul_le_mul hx.2 hy.2 hy.1 oM⟩
theorem pair_rg {x y n m : Int} (hx : 0 ≤ x ∧ x < n) (hy : 0 ≤ y ∧ y < m) : 0 ≤ x * m + y ∧ x * m + y < n * m := by
 have h1 := Int.mul_nonneg hx.1 (show 0 ≤ m by omega)
 have h2 : (x + 1) * m ≤ n * m := Int.mul_le_mul_of_nonneg_right oM oM
 rw [Int.add_mul, Int.one_mul] at h2
 omega
def shufA (a b : Auto) (n m : Nat) : Auto := ⟨a.states * b.states, a.syms, shufS a.start b.start b.states, shufS a.final b.final b.states, shufL a.moves b.states m ++ shufR b.moves b.states n⟩
theorem shuf_wf {n m : Nat} (hva : validA a = true) (hvb : validA b = true) (hs : a.syms = b.syms) (hn : a.states = (n : Int)) (hm : b.states = (m : Int)) (h2 : a.states * b.states ≤ 2000) (hlen : a.moves.length * m + b.moves.length * n ≤ 40000) : WfA (shufA a b n m) := by
 have h1 := validA_all hva; have h3 := validA_all hvb; have wa := validA_wf hva; have wb := validA_wf hvb
 have mem : ∀ {l k : LI}, (∀ s ∈ l, 0 ≤ s ∧ s < a.states) → (∀ s ∈ k, 0 ≤ s ∧ s < b.states) → ∀ s ∈ shufS l k b.states, 0 ≤ s ∧ s < a.states * b.states := fun hl hk s hs => by
  obtain ⟨x, hx, y, hy, rfl⟩ := shufS_mem.1 hs
  have := pair_rg (hl x hx) (hk y hy); omega
 refine ⟨⟨Int.mul_nonneg oM oM, by simp only [shufA]; omega⟩, h1.2.1, ?_, mem wa.start wb.start, mem wa.final wb.final, fun q hq => ?_⟩
 ·simp only [shufA, List.length_append, shufL_len, shufR_len]; omega
 ·rw [okMv_iff]
  rcases List.mem_append.1 hq with hq | hq
  ·obtain ⟨x, hx, hq⟩ := List.mem_flatMap.1 hq
   obtain ⟨j, hj, rfl⟩ := List.mem_map.1 hq
   have hj := List.mem_range.1 hj
   have := okMv_iff.1 (wa.mv x hx)
   have p1 := pair_rg (n := a.states) (m := b.states) (x := x.src) (y := (j : Int)) oM oM
   have p2 := pair_rg (n := a.states) (m := b.states) (x := x.dst) (y := (j : Int)) oM oM
   simp only [shufA]; omega
  ·obtain ⟨x, hx, hq⟩ := List.mem_flatMap.1 hq
   obtain ⟨i, hi, rfl⟩ := List.mem_map.1 hq
   have hi := List.mem_range.1 hi
   have := okMv_iff.1 (wb.mv x hx)
   have p1 := pair_rg (n := a.states) (m := b.states) (x := (i : Int)) (y := x.src) oM oM
   have p2 := pair_rg (n := a.states) (m := b.states) (x := (i : Int)) (y := x.dst) oM oM
   simp only [shufA]; omega
theorem shuf_acc {n m : Nat} (hva : validA a = true) (hvb : validA b = true) (hn : a.states = (n : Int)) (hm : b.states = (m : Int)) : ∀ w, (∃ u v, Shuf u v w ∧ AccA a u ∧ AccA b v) → AccA (shufA a b n m) w := by
 rintro w ⟨u, v, hs, hu, hv⟩
 refine acc_shuffle (out := shufA a b n m) (validA_wf hva) (validA_wf hvb) (fun x hx j h0 h1 => ?_) (fun x hx i h0 h1 => ?_) (fun i hi j hj => .inr (shufS_mem.2 ⟨i, hi, j, hj, rfl⟩)) (fun i hi j hj => .inr (shufS_mem.2 ⟨i, hi, j, hj, rfl⟩)) hu hv hs
 ·exact List.mem_append_left _ (List.mem_flatMap.2 ⟨x, hx, List.mem_map.2 ⟨j.toNat, List.mem_range.2 oM, by rw [show ((j.toNat : Nat) : Int) = j by omega]⟩⟩)
 ·exact List.mem_append_right _ (List.mem_flatMap.2 ⟨x, hx, List.mem_map.2 ⟨i.toNat, List.mem_range.2 oM, by rw [show ((i.toNat : Nat) : Int) = i by omega]⟩⟩)
end
end
section
open Go.Proofs.Tryz
attribute [local irreducible] TK Yl OpK AnyT wpList Code.wp
theorem c83t (hv : validA a = true) (h1 : Sl rInt H a.start A1 n1 k1) (h2 : Sl rInt H a.final A2 n2 k2) (h3 : Sl rMv H a.moves A3 n3 k3) : Ct PP 83 #[.agg #[.int .i64 a.states, .int .i64 a.syms, .slice A1 n1 k1, .slice A2 n2 k2, .slice A3 n3 k3]] H [] fun v H' O' => O' = [] ∧ v = .bool true := hv ▸ c83 h1 h2 h3
theorem c182 (hva : validA a = true) (hvb : validA b = true) (hs : a.syms = b.syms) (h1 : Sl rInt H a.start A1 n1 k1) (h2 : Sl rInt H a.final A2 n2 k2) (h3 : Sl rMv H a.moves A3 n3 k3) (h1b : Sl rInt H b.start A1b n1b k1b) (h2b : Sl rInt H b.final A2b n2b k2b) (h3b : Sl rMv H b.moves A3b n3b k3b) : Ct PP 182 #[.agg #[.int .i64 a.states, .int .i64 a.syms, .slice A1 n1 k1, .slice A2 n2 k2, .slice A3 n3 k3], .agg #[.int .i64 b.states, .int .i64 b.syms, .slice A1b n1b k1b, .slice A2b n2b k2b, .slice A3b n3b k3b]] H [] fun v H' O' => O' = [] ∧ v = .int .i64 0 := by
 refine cB func182 ntmps182 fun I hD hI h5 => ?_
 refine g2a ?_
 intros
 refine bG fun b2 => ?_
 refine bG fun b3 => ?_
 refine g7b ?_
 intros
 refine sq rfl (fS hD rfl call83 rfl (c83t (hv := hva) h1 h2 h3) ?_)
 rintro v6 rfl
 refine g3 ?_
 refine sqY rfl rfl rfl rfl (fS hD rfl call83 rfl (c83t (hv := hvb) h1b h2b h3b) ?_)
 rintro v7 rfl
 refine g12a ?_
 intros
 refine g2 ?_
 refine cN ?_ ?_ <;> intro h4
 exfalso; simp [hs] at h4
 refine g5a ?_
 intros
 refine kP [] ?_
 refine rT results182 ?_
 exact ⟨rfl, rfl⟩
theorem c181 (hT : TabH H) (hw : WfA a) (h1 : Sl rInt H a.start A1 n1 k1) (h2 : Sl rInt H a.final A2 n2 k2) (h3 : Sl rMv H a.moves A3 n3 k3) : Ct PP 181 #[.agg #[.int .i64 a.states, .int .i64 a.syms, .slice A1 n1 k1, .slice A2 n2 k2, .slice A3 n3 k3]] H [] (AutO (RedR a)) := by
 have c1 := h3.len
 refine cB func181 ntmps181 fun I hD hI d1 => ?_
 refine g2a ?_
 intros
 refine bG fun b2 => ?_
 refine aL fun b3 => ?_
 refine g4b ?_
 intros
 refine tSeal (i := 1) rfl fun H6 h9 h7 => ?_
 have ⟨h1, h2, h3, hT⟩ := mo4 h9 h1 h2 h3 hT
 refine g5 ?_
 refine sD 9 ?_ ?_ <;> intro d2
 refine g10a ?_
 intros
 refine sG 0 ?_
 refine g2 ?_
 refine rD 0 [] results181 ?_
 exact ⟨rfl, ⟨0, 0, [], [], []⟩, _, _, _, _, _, _, _, _, _, _, rfl, .inl rfl⟩
 refine g6 ?_
 refine cD ?_ ?_ <;> intro c0
 refine g3a ?_
 intros
 refine sG 0 ?_
 refine g2 ?_
 refine rD 0 [] results181 ?_
 exact ⟨rfl, ⟨0, 0, [], [], []⟩, _, _, _, _, _, _, _, _, _, _, rfl, .inl rfl⟩
 refine g4a ?_
 intros
 refine sq rfl (fP hD rfl call214 rfl (c214 hT hw h1 h2 h3) ?_)
 rintro v0 H1 ⟨At, nt, ct, Bt, mt, dt, rt, rfl, b9⟩ h4
 have ⟨h1, h2, h3, h7, hT⟩ := mo5 h4 h1 h2 h3 h7 hT
 refine g3 ?_
 refine aL fun d0 => ?_
 refine sG 0 ?_
 refine g8b ?_
 intros
 refine cN ?_ ?_ <;> intro h8
 refine g3a ?_
 intros
 refine sG 1 ?_
 refine g2 ?_
 refine rD 1 [] results181 ?_
 exact ⟨rfl, ⟨0, 0, [], [], []⟩, _, _, _, _, _, _, _, _, _, _, rfl, .inl rfl⟩
 refine g4a ?_
 intros
 obtain ⟨t, b5, b4, b8, h5⟩ := b9 (by simpa using h8)
 refine sq rfl (fP hD rfl call215 rfl ((by rw [← b5]; exact c215 hT h5.ok b4 b8)) ?_)
 rintro v1 H0 ⟨b7, B1, m1, l1, B2, m2, l2, B3, m3, l3, e7, rfl, b6⟩ h6
 have ⟨h1, h2, h3, h7, hT⟩ := mo5 h6 h1 h2 h3 h7 hT
 refine g2 ?_
 refine sG 1 ?_
 refine g2 ?_
 refine rD 1 [] results181 ?_
 exact ⟨rfl, b7, _, _, _, _, _, _, _, _, _, _, rfl, b6.imp id fun ⟨h0, k1, k2, k3, k4⟩ => ⟨h0, k1, k2, k3, RedR.of h5 k4⟩⟩
theorem c131 (hT : TabH H) (hv : validA a = true) (h1 : Sl rInt H a.start A1 n1 k1) (h2 : Sl rInt H a.final A2 n2 k2) (h3 : Sl rMv H a.moves A3 n3 k3) : Ct PP 131 #[.agg #[.int .i64 a.states, .int .i64 a.syms, .slice A1 n1 k1, .slice A2 n2 k2, .slice A3 n3 k3]] H [] (AutO (RedR a)) := by
 refine cB func131 ntmps131 fun I hD hI h8 => ?_
 refine g2a ?_
 intros
 refine bG fun b2 => ?_
 refine aL fun b3 => ?_
 refine g4b ?_
 intros
 refine tSeal (i := 1) rfl fun H6 h5 h6 => ?_
 have ⟨h1, h2, h3, hT⟩ := mo4 h5 h1 h2 h3 hT
 refine g2 ?_
 refine sq rfl (fS hD rfl call83 rfl (c83t (hv := hv) h1 h2 h3) ?_)
 rintro v9 rfl
 refine g7a ?_
 intros
 refine sq rfl (fP hD rfl call181 rfl (c181 hT (validA_wf hv) h1 h2 h3) ?_)
 rintro v0 H0 ⟨b7, B1, m1, l1, B2, m2, l2, B3, m3, l3, e7, rfl, h7⟩ h4
 have ⟨h1, h2, h3, h6, hT⟩ := mo5 h4 h1 h2 h3 h6 hT
 refine g2 ?_
 refine sG 0 ?_
 refine g2 ?_
 refine rD 0 [] results131 ?_
 exact ⟨rfl, b7, _, _, _, _, _, _, _, _, _, _, rfl, h7.imp id fun ⟨h0, k1, k2, k3, k4⟩ => ⟨h0, k1, k2, k3, k4⟩⟩
theorem c185 (hT : TabH H) (hw : WfA a) {A3 : OA} {n3 k3 : Nat} (h1 : Sl rInt H a.start A1 n1 k1) (h2 : Sl rInt H a.final A2 n2 k2) (hn3 : a.moves.length = n3) : Ct PP 185 #[.agg #[.int .i64 a.states, .int .i64 a.syms, .slice A1 n1 k1, .slice A2 n2 k2, .slice A3 n3 k3]] H [.row 166 3 (.slice A3 n3 k3) n3 (mvC a.moves)] (AutO (RedR a)) := by
 have b6 := hw.len
 refine cB func185 ntmps185 fun I hD hI b9 => ?_
 refine g2a ?_
 intros
 refine bG fun b2 => ?_
 refine aL fun b3 => ?_
 refine g6a ?_
 intros
 refine sq rfl (fT hD [2] [0, 1] rfl call216 rfl (sortAll (r := rMv) (caps := []) law216 (fun {_ _ _ _} => c216z) rfl dC (mv_reps a.moves) oM cmpM (fun x _ y _ z _ => cmpM_swo x y z) call137 (fun x _ y _ cx cy hx hy => by cases hx; cases hy; exact c137)) ?_)
 rintro v5 O6 ⟨ys, c0, rfl, hr, hp, b5⟩
 obtain rfl := mv_eq hr
 have b4 := hp.length_eq
 refine g5a ?_
 intros
 refine sq rfl (fT hD [0] [1, 2] rfl call217 rfl (c217 oM oM) ?_)
 rintro v8 O9 ⟨L, B', k', c', rfl, rfl, h7⟩
 refine g1 ?_
 refine sU 2 ?_
 refine g2a ?_
 intros
 have b8 : L.length ≤ ys.length := by have := h7.sub.length_le; simpa using this
 refine row_len (i := 0) rfl fun h9 _ => ?_
 rw [mvC_len] at h9
 refine tR 0 (r := rMv) (ys := L) (mv_reps L) fun H1 h6 h4 => ?_
 have ⟨h1, h2, hT⟩ := mo3 h6 h1 h2 hT
 refine g2 ?_
 refine sq rfl (fP hD rfl call181 rfl (c181 (a := ⟨a.states, a.syms, a.start, a.final, L⟩) hT (hw.moves (fun m hm => hp.mem_iff.1 (h7.mm m hm)) oM) h1 h2 h4) ?_)
 rintro v0 H0 ⟨b7, B1, m1, l1, B2, m2, l2, B3, m3, l3, e7, rfl, h8⟩ h5
 have ⟨h1, h2, h4, hT⟩ := mo4 h5 h1 h2 h4 hT
 refine g2 ?_
 refine sG 0 ?_
 refine g2 ?_
 refine rD 0 [] results185 ?_
 exact ⟨rfl, b7, _, _, _, _, _, _, _, _, _, _, rfl, h8.imp id fun ⟨h0, k1, k2, k3, k4⟩ => ⟨h0, k1, k2, k3, RedR.moves (fun m hm => (by simpa using h7.mem m (by simpa using hp.mem_iff.2 hm))) k4⟩⟩
theorem c132 (hT : TabH H) (hva : validA a = true) (hvb : validA b = true) (hs : a.syms = b.syms) (h1 : Sl rInt H a.start A1 n1 k1) (h2 : Sl rInt H a.final A2 n2 k2) (h3 : Sl rMv H a.moves A3 n3 k3) (h1b : Sl rInt H b.start A1b n1b k1b) (h2b : Sl rInt H b.final A2b n2b k2b) (h3b : Sl rMv H b.moves A3b n3b k3b) : Ct PP 132 #[.agg #[.int .i64 a.states, .int .i64 a.syms, .slice A1 n1 k1, .slice A2 n2 k2, .slice A3 n3 k3], .agg #[.int .i64 b.states, .int .i64 b.syms, .slice A1b n1b k1b, .slice A2b n2b k2b, .slice A3b n3b k3b]] H [] (AutO (OpR a.syms (fun w => ∃ u v, w = u ++ v ∧ AccA a u ∧ AccA b v))) := by
 have va := validA_all hva
 have vb := validA_all hvb
 have wa := validA_wf hva
 have wb := validA_wf hvb
 have j9 := h1.len
 have j6 := h2.len
 have j8 := h3.len
 have i5 := h1b.len
 have j0 := h2b.len
 have e9 := h3b.len
 refine cB func132 ntmps132 fun I hD hI k5 => ?_
 refine g2a ?_
 intros
 refine bG fun b2 => ?_
 refine bG fun b3 => ?_
 refine aL fun b4 => ?_
 refine g4b ?_
 intros
 refine tSeal (i := 2) rfl fun H7 d6 h6 => ?_
 have ⟨h1, h2, h3, h1b, h2b, h3b, hT⟩ := mo7 d6 h1 h2 h3 h1b h2b h3b hT
 refine tSeal (i := 1) rfl fun H3 b6 h5 => ?_
 have ⟨h1, h2, h3, h1b, h2b, h3b, h6, hT⟩ := mo8 b6 h1 h2 h3 h1b h2b h3b h6 hT
 refine g3 ?_
 refine sq rfl (fS hD rfl call182 rfl (c182 hva hvb hs h1 h2 h3 h1b h2b h3b) ?_)
 rintro v1 rfl
 refine g7a ?_
 intros
 refine cN ?_ ?_ <;> intro d5
 exfalso; simp [hs] at d5
 refine g5a ?_
 intros
 refine sq rfl (fT hD [] [0] rfl call183 rfl (c183 (validA_wf hva) (validA_wf hvb) h1 h2 h3 h1b h2b h3b) ?_)
 rintro v3 O2 ⟨Am, nm, cm, rfl, rfl, j2⟩
 refine aL fun e1 => ?_
 refine sG 0 ?_
 refine g2a ?_
 intros
 refine ts 9 fun e6 => ?_
 refine tj 0 ?_
 refine g1 ?_
 refine tj 3 ?_
 refine g3 ?_
 refine oI 2 rfl kR (TK.callSO hD (Oc := []) (.refl _) rfl rfl (ent call49 rfl) (c49 h1 oM) ?_)
 rintro v0 O1 ⟨A4, c23, i7, rfl, d3, rfl⟩
 obtain rfl := repsI_eq d3
 refine g1 ?_
 refine tj 8 ?_
 refine oI 7 rfl kR (fP hD rfl call184 rfl (c184 h2b oM (fun x hx => by have := wb.final x hx; omega) oM) ?_)
 rintro v4 H0 ⟨B0, c0, k0, rfl, e0, h4⟩ h7
 have ⟨h1, h2, h3, h1b, h2b, h3b, h6, h5, hT⟩ := mo9 h7 h1 h2 h3 h1b h2b h3b h6 h5 hT
 refine ta_next (kG h7) ?_
 refine g1 ?_
 refine sU 1 ?_
 refine g1 ?_
 refine sU 1 ?_
 refine g10b ?_
 intros
 refine row_len (i := 2) rfl fun d7 _ => ?_
 rw [mvC_len] at d7
 refine lp2 (fun D f f1 E H O m => ∃ (i : Nat) (mv : List Mv) (Aw : OA) (nw cw : Nat), H0 = H ∧ (i ≤ n2) ∧ (CatI a b i 0 mv) ∧ (mv.length = nw ∧ nw ≤ 60000) ∧ m = n2 - i ∧ O = [f, .blk e1 84 [.int .i64 (a.states + b.states), .int .i64 a.syms, .slice A4 n1 c23, .slice B0 c0 k0, .slice Aw nw cw], .row 166 3 (.slice Aw nw cw) nw (mvC mv), f1] ∧ E = (35, .int .i64 (i : Int)) :: D) [2, 3, 4, 7, 33, 34] [0, 1, 2, 3] ⟨0, a.moves ++ shiftM b.moves a.states, Am, nm, cm, rfl, Nat.zero_le _, (CatI.start wa wb hs), oM, rfl, rfl, rfl⟩ ?_
 rintro _ _ _ _ ⟨i, mv, Aw, nw, cw, rfl, hi, hC, d8, rfl, rfl, rfl⟩ _ d1
 refine g5b ?_
 intros
 refine cD ?_ ?_ <;> intro f9
 refine g5b ?_
 intros
 obtain ⟨e2, b8⟩ := eX h2 i
 obtain ⟨j7, o5, e8, i9⟩ := h2.atI b8
 refine g12a ?_
 intros
 have e3 := b8
 have j4 := wa.final _ (mG e3)
 refine lp2 (fun D f f1 E H O m => ∃ (j : Nat) (b5 : List Mv) (A0 : OA) (n0 d0 : Nat), H0 = H ∧ (j ≤ n1b) ∧ (CatI a b i j b5) ∧ (b5.length = n0 ∧ n0 ≤ 60000) ∧ m = n1b - j ∧ O = [f, .blk e1 84 [.int .i64 (a.states + b.states), .int .i64 a.syms, .slice A4 n1 c23, .slice B0 c0 k0, .slice A0 n0 d0], .row 166 3 (.slice A0 n0 d0) n0 (mvC b5), f1] ∧ E = (42, .int .i64 (j : Int)) :: D) [2, 3, 4, 7, 9, 33, 34, 35, 40, 41] [0, 1, 2, 3] ⟨0, mv, Aw, nw, cw, rfl, Nat.zero_le _, hC, d8, rfl, rfl, rfl⟩ ?_
 rintro _ _ _ _ ⟨j, b5, A0, n0, d0, rfl, hj, d9, d2, rfl, rfl, rfl⟩ _ d4
 refine g5b ?_
 intros
 refine cD ?_ ?_ <;> intro i4
 refine g5b ?_
 intros
 obtain ⟨e4, h9⟩ := eX h1b j
 obtain ⟨j5, o4, f8, j3⟩ := h1b.atI h9
 refine g6b ?_
 intros
 have k6 := wb.start _ (mG h9)
 refine g6 ?_
 refine cD ?_ ?_ <;> intro i6
 refine g3a ?_
 intros
 refine sG 3 ?_
 refine g2 ?_
 refine rD 3 [] results132 ?_
 exact ⟨rfl, ⟨0, 0, [], [], []⟩, _, _, _, _, _, _, _, _, _, _, rfl, .inl rfl⟩
 refine g10 ?_
 refine sq rfl (bS [.int .i64 e2, .int .i64 (e4 + a.states), .int .i64 (-1)] fun k7 => ?_)
 refine sq rfl (aR 3 fun A5 c76 => ?_)
 rw [mvC_snoc]
 refine g1 ?_
 refine sU 2 ?_
 refine g4 ?_
 exact nK d4 ⟨j + 1, b5 ++ [⟨e2, e4 + a.states, -1⟩], A5, n0 + 1, c76, rfl, oM, (d9.step wa wb e3 h9), (by rw [List.length_append, List.length_singleton]; omega), rfl, rfl, rfl⟩
 refine g4 ?_
 exact nK d1 ⟨i + 1, b5, A0, n0, d0, rfl, oM, (d9.next oM), d2, rfl, rfl, rfl⟩
 refine g2a ?_
 intros
 refine tR 0 (r := rInt) (ys := a.start) (repsI _) fun H1 b9 h8 => ?_
 have ⟨h6, h5, h2, h4, h1, h3, h1b, h2b, h3b, hT⟩ := mo10 b9 h6 h5 h2 h4 h1 h3 h1b h2b h3b hT
 have e5 := hC.wf hva hvb hs oM
 refine g2 ?_
 have i8 := d8.1
 refine sq rfl (fO hD [1] [0, 2] rfl call185 rfl (c185 (a := ⟨a.states + b.states, a.syms, a.start, shiftI b.final a.states, mv⟩) hT e5 h8 h4 i8) ?_)
 rintro v2 H2 O3 ⟨rfl, b7, B1, m1, l1, B2, m2, l2, B3, m3, l3, e7, rfl, j1⟩ c1
 have ⟨h6, h5, h2, h8, h4, h1, h3, h1b, h2b, h3b, hT⟩ := mo11 c1 h6 h5 h2 h8 h4 h1 h3 h1b h2b h3b hT
 refine g2 ?_
 refine sG 1 ?_
 refine g2 ?_
 refine rD 1 [] results132 ?_
 exact ⟨rfl, b7, _, _, _, _, _, _, _, _, _, _, rfl, j1.imp id fun ⟨h0, k1, k2, k3, k4⟩ => ⟨h0, k1, k2, k3, by have h := k4.op e5 (hC.acc oM); exact h⟩⟩
theorem c133 (hT : TabH H) (hva : validA a = true) (h1 : Sl rInt H a.start A1 n1 k1) (h2 : Sl rInt H a.final A2 n2 k2) (h3 : Sl rMv H a.moves A3 n3 k3) : Ct PP 133 #[.agg #[.int .i64 a.states, .int .i64 a.syms, .slice A1 n1 k1, .slice A2 n2 k2, .slice A3 n3 k3]] H [] (AutO (OpR a.syms (StarW (AccA a)))) := by
 have va := validA_all hva
 have wa := validA_wf hva
 have B9 := h1.len
 have z5 := h2.len
 have B6 := h3.len
 refine cB func133 ntmps133 fun I hD hI C0 => ?_
 refine g2a ?_
 intros
 refine bG fun b2 => ?_
 refine aL fun b3 => ?_
 refine g4b ?_
 intros
 refine tSeal (i := 1) rfl fun H6 j3 h7 => ?_
 have ⟨h1, h2, h3, hT⟩ := mo4 j3 h1 h2 h3 hT
 refine g2 ?_
 refine sq rfl (fS hD rfl call83 rfl (c83t (hv := hva) h1 h2 h3) ?_)
 rintro v9 rfl
 refine g10a ?_
 intros
 refine TK.seq fun K0 n4 => ?_
 have h4 : ∀ (bg bs bf : Nat) (A4 : OA) (d9 : Nat), TK 64 I K0 [(1, .pointer (ad b2)), (2, .pointer (ad b3)), (4, .int .i64 a.states), (5, .pointer (ad bg))] H6 [.blk bg 84 [.int .i64 (a.states + 1), .int .i64 a.syms, .slice (ad bs) 1 1, .slice (ad bf) 1 1, .slice A4 n3 d9], .row 3 1 (.slice (ad bs) 1 1) 1 [.int .i64 a.states], .row 3 1 (.slice (ad bf) 1 1) 1 [.int .i64 a.states], .row 166 3 (.slice A4 n3 d9) n3 (mvC a.moves), .blk b3 84 [.int .i64 0, .int .i64 0, .slice none 0 0, .slice none 0 0, .slice none 0 0]] := by
  intro bg bs bf A4 d9
  refine n4 _ _ _ ?_
  refine g9b ?_
  intros
  refine eO5 (fun e0 _ _ _ e4 => [e0, .row 3 1 (.slice (ad bs) 1 1) 1 [.int .i64 a.states], .row 3 1 (.slice (ad bf) 1 1) 1 [.int .i64 a.states], .row 166 3 (.slice A4 n3 d9) n3 (mvC (starM a 0 0)), e4]) ?_ (he := by simp [starM])
  refine lp3 (fun D f f1 f2 E H O m => ∃ (i : Nat) (Aw : OA) (cw : Nat), H6 = H ∧ (i ≤ n1) ∧ m = n1 - i ∧ O = [.blk bg 84 [.int .i64 (a.states + 1), .int .i64 a.syms, .slice (ad bs) 1 1, .slice (ad bf) 1 1, .slice Aw (n3 + i) cw], f, f1, .row 166 3 (.slice Aw (n3 + i) cw) (n3 + i) (mvC (starM a i 0)), f2] ∧ E = (31, .int .i64 (i : Int)) :: D) [1, 2, 4, 5, 29, 30] [0, 1, 2, 3, 4] ⟨0, A4, d9, rfl, Nat.zero_le _, rfl, rfl, rfl⟩ ?_
  rintro _ _ _ _ ⟨i, Aw, cw, rfl, hi, rfl, rfl, rfl⟩ _ k0
  refine g5b ?_
  intros
  refine cD ?_ ?_ <;> intro y0
  refine g5b ?_
  intros
  obtain ⟨u3, i6⟩ := eX h1 i
  obtain ⟨z3, z4, t8, u0⟩ := h1.atI i6
  refine g10 ?_
  refine sq rfl (bS [.int .i64 a.states, .int .i64 u3, .int .i64 (-1)] fun z7 => ?_)
  refine sq rfl (aR 4 fun u1 c36 => ?_)
  rw [mvC_snoc]
  refine g1 ?_
  refine sU 1 ?_
  refine g4 ?_
  rw [starM_1 i6]
  exact nK k0 ⟨i + 1, u1, c36, rfl, oM, rfl, rfl, rfl⟩
  refine g10b ?_
  intros
  obtain rfl : i = n1 := by omega
  refine lp3 (fun D f f1 f2 E H O m => ∃ (j : Nat) (Av : OA) (cv : Nat), H6 = H ∧ (j ≤ n2) ∧ m = n2 - j ∧ O = [.blk bg 84 [.int .i64 (a.states + 1), .int .i64 a.syms, .slice (ad bs) 1 1, .slice (ad bf) 1 1, .slice Av (n3 + i + j) cv], f, f1, .row 166 3 (.slice Av (n3 + i + j) cv) (n3 + i + j) (mvC (starM a i j)), f2] ∧ E = (47, .int .i64 (j : Int)) :: D) [2, 4, 5, 45, 46] [0, 1, 2, 3, 4] ⟨0, Aw, cw, rfl, Nat.zero_le _, rfl, rfl, rfl⟩ ?_
  rintro _ _ _ _ ⟨j, Av, cv, rfl, hj, rfl, rfl, rfl⟩ _ r8
  refine g5b ?_
  intros
  refine cD ?_ ?_ <;> intro y9
  refine g5b ?_
  intros
  obtain ⟨u9, e8⟩ := eX h2 j
  obtain ⟨B7, B4, y4, w3⟩ := h2.atI e8
  refine g10 ?_
  refine sq rfl (bS [.int .i64 u9, .int .i64 a.states, .int .i64 (-1)] fun z6 => ?_)
  refine sq rfl (aR 4 fun y7 c58 => ?_)
  rw [mvC_snoc]
  refine g1 ?_
  refine sU 1 ?_
  refine g4 ?_
  rw [starM_2 e8]
  exact nK r8 ⟨j + 1, y7, c58, rfl, oM, rfl, rfl, rfl⟩
  refine g2a ?_
  intros
  refine tR 1 (repsI [a.states]) fun H2 d3 h5 => ?_
  have ⟨h2, h1, h3, hT, h7⟩ := mo5 d3 h2 h1 h3 hT h7
  refine tR 1 (repsI [a.states]) fun H1 d5 h6 => ?_
  have ⟨h2, h5, h1, h3, hT, h7⟩ := mo6 d5 h2 h5 h1 h3 hT h7
  have t2 := star_wf (i := i) (j := j) hva
  have w2 : (starM a i j).length = n3 + i + j := by rw [starM_len oM oM]; omega
  refine g2 ?_
  refine sq rfl (fO hD [1] [0, 2] rfl call185 rfl (c185 (a := ⟨a.states + 1, a.syms, [a.states], [a.states], starM a i j⟩) hT t2 h5 h6 w2) ?_)
  rintro B8 H0 B5 ⟨rfl, b7, B1, m1, l1, B2, m2, l2, B3, m3, l3, e7, rfl, y3⟩ h9
  have ⟨h2, h5, h6, h1, h3, hT, h7⟩ := mo7 h9 h2 h5 h6 h1 h3 hT h7
  refine g2 ?_
  refine sG 1 ?_
  refine g2 ?_
  refine rD 1 [] results133 ?_
  exact ⟨rfl, b7, _, _, _, _, _, _, _, _, _, _, rfl, y3.imp id fun ⟨h0, k1, k2, k3, k4⟩ => ⟨h0, k1, k2, k3, by have h := k4.op t2 (star_acc oM oM); exact h⟩⟩
 refine ts 13 fun _ => ?_
 refine tj 0 ?_
 refine g4 ?_
 refine tj 6 ?_
 refine tj 8 ?_
 refine g1 ?_
 refine tm4 5 7 10 12 ?_ ?_ ?_ ?_
 refine bS [.int .i64 a.states] fun b6 => ?_
 refine g1 ?_
 refine tm3 7 10 12 ?_ ?_ ?_
 refine bS [.int .i64 a.states] fun t4 => ?_
 refine g1 ?_
 refine tm2 10 12 ?_ ?_
 refine TK.callSO hD (Oc := []) (.refl _) rfl rfl (ent call186 rfl) (c186 h3 oM) ?_
 rintro z9 z1 ⟨w4, c74, w1, rfl, j7, rfl⟩
 obtain rfl := mv_eq j7
 refine g1 ?_
 refine tj 11 ?_
 refine oI 12 rfl kR (tAlloc zC dC fun t9 => ?_)
 refine g2 ?_
 refine sG 0 ?_
 exact TK.nil (wP [0, 3, 2, 1, 4] [] 5 (h4 t9 b6 t4 w4 c74))
 refine tAlloc zC dC fun u2 => ?_
 refine g1 ?_
 refine oI 10 rfl kR (TK.callSO hD (Oc := []) (.refl _) rfl rfl (ent call186 rfl) (c186 h3 oM) ?_)
 rintro z0 z8 ⟨w0, c83, u4, rfl, o4, rfl⟩
 obtain rfl := mv_eq o4
 refine g3 ?_
 refine sG 1 ?_
 exact TK.nil (wP [1, 3, 2, 0, 4] [] 5 (h4 u2 b6 t4 w0 c83))
 refine TK.callSO hD (Oc := []) (.refl _) rfl rfl (ent call186 rfl) (c186 h3 oM) ?_
 rintro B0 z2 ⟨t6, c90, u6, rfl, n7, rfl⟩
 obtain rfl := mv_eq n7
 refine g1 ?_
 refine tm2 7 12 ?_ ?_
 refine bS [.int .i64 a.states] fun y6 => ?_
 refine g1 ?_
 refine tj 11 ?_
 refine oI 12 rfl kR (tAlloc zC dC fun w6 => ?_)
 refine g2 ?_
 refine sG 0 ?_
 exact TK.nil (wP [0, 3, 1, 2, 4] [] 5 (h4 w6 b6 y6 t6 c90))
 refine tAlloc zC dC fun w7 => ?_
 refine g1 ?_
 refine oI 7 rfl kR (bS [.int .i64 a.states] fun w9 => ?_)
 refine g1 ?_
 refine tj 11 ?_
 refine g1 ?_
 refine sG 1 ?_
 exact TK.nil (wP [1, 3, 0, 2, 4] [] 5 (h4 w7 b6 w9 t6 c90))
 refine tAlloc zC dC fun b8 => ?_
 refine g1 ?_
 refine tm2 7 10 ?_ ?_
 refine bS [.int .i64 a.states] fun k5 => ?_
 refine g1 ?_
 refine oI 10 rfl kR (TK.callSO hD (Oc := []) (.refl _) rfl rfl (ent call186 rfl) (c186 h3 oM) ?_)
 rintro y5 w5 ⟨n5, c103, s0, rfl, e1, rfl⟩
 obtain rfl := mv_eq e1
 refine g3 ?_
 refine sG 2 ?_
 exact TK.nil (wP [2, 3, 1, 0, 4] [] 5 (h4 b8 b6 k5 n5 c103))
 refine TK.callSO hD (Oc := []) (.refl _) rfl rfl (ent call186 rfl) (c186 h3 oM) ?_
 rintro v0 O2 ⟨r7, c110, s4, rfl, h8, rfl⟩
 obtain rfl := mv_eq h8
 refine g1 ?_
 refine oI 7 rfl kR (bS [.int .i64 a.states] fun i7 => ?_)
 refine g1 ?_
 refine tj 11 ?_
 refine g1 ?_
 refine sG 2 ?_
 exact TK.nil (wP [2, 3, 0, 1, 4] [] 5 (h4 b8 b6 i7 r7 c110))
 refine bS [.int .i64 a.states] fun b5 => ?_
 refine g1 ?_
 refine tm3 5 10 12 ?_ ?_ ?_
 refine bS [.int .i64 a.states] fun i4 => ?_
 refine g1 ?_
 refine tm2 10 12 ?_ ?_
 refine TK.callSO hD (Oc := []) (.refl _) rfl rfl (ent call186 rfl) (c186 h3 oM) ?_
 rintro y1 O4 ⟨k7, j1, t7, rfl, f9, rfl⟩
 obtain rfl := mv_eq f9
 refine g1 ?_
 refine tj 11 ?_
 refine oI 12 rfl kR (tAlloc zC dC fun j8 => ?_)
 refine g2 ?_
 refine sG 0 ?_
 exact TK.nil (wP [0, 2, 3, 1, 4] [] 5 (h4 j8 i4 b5 k7 j1))
 refine tAlloc zC dC fun n0 => ?_
 refine g1 ?_
 refine oI 10 rfl kR (TK.callSO hD (Oc := []) (.refl _) rfl rfl (ent call186 rfl) (c186 h3 oM) ?_)
 rintro u5 O8 ⟨r0, c129, s2, rfl, e2, rfl⟩
 obtain rfl := mv_eq e2
 refine g3 ?_
 refine sG 1 ?_
 exact TK.nil (wP [1, 2, 3, 0, 4] [] 5 (h4 n0 i4 b5 r0 c129))
 refine TK.callSO hD (Oc := []) (.refl _) rfl rfl (ent call186 rfl) (c186 h3 oM) ?_
 rintro v5 O5 ⟨A6, c136, t3, rfl, e9, rfl⟩
 obtain rfl := mv_eq e9
 refine g1 ?_
 refine tm2 5 12 ?_ ?_
 refine bS [.int .i64 a.states] fun o5 => ?_
 refine g1 ?_
 refine tj 11 ?_
 refine oI 12 rfl kR (tAlloc zC dC fun l8 => ?_)
 refine g2 ?_
 refine sG 0 ?_
 exact TK.nil (wP [0, 1, 3, 2, 4] [] 5 (h4 l8 o5 b5 A6 c136))
 refine tAlloc zC dC fun k8 => ?_
 refine g1 ?_
 refine oI 5 rfl kR (bS [.int .i64 a.states] fun l9 => ?_)
 refine g1 ?_
 refine tj 11 ?_
 refine g1 ?_
 refine sG 1 ?_
 exact TK.nil (wP [1, 0, 3, 2, 4] [] 5 (h4 k8 l9 b5 A6 c136))
 refine tAlloc zC dC fun d1 => ?_
 refine g1 ?_
 refine tm2 5 10 ?_ ?_
 refine bS [.int .i64 a.states] fun r5 => ?_
 refine g1 ?_
 refine oI 10 rfl kR (TK.callSO hD (Oc := []) (.refl _) rfl rfl (ent call186 rfl) (c186 h3 oM) ?_)
 rintro v4 y8 ⟨A7, c149, t5, rfl, i5, rfl⟩
 obtain rfl := mv_eq i5
 refine g3 ?_
 refine sG 2 ?_
 exact TK.nil (wP [2, 1, 3, 0, 4] [] 5 (h4 d1 r5 b5 A7 c149))
 refine TK.callSO hD (Oc := []) (.refl _) rfl rfl (ent call186 rfl) (c186 h3 oM) ?_
 rintro v1 y2 ⟨n8, c156, s5, rfl, f8, rfl⟩
 obtain rfl := mv_eq f8
 refine g1 ?_
 refine oI 5 rfl kR (bS [.int .i64 a.states] fun n9 => ?_)
 refine g1 ?_
 refine tj 11 ?_
 refine g1 ?_
 refine sG 2 ?_
 exact TK.nil (wP [2, 0, 3, 1, 4] [] 5 (h4 d1 n9 b5 n8 c156))
 refine TK.callSO hD (Oc := []) (.refl _) rfl rfl (ent call186 rfl) (c186 h3 oM) ?_
 rintro v7 O1 ⟨A0, c164, s9, rfl, b9, rfl⟩
 obtain rfl := mv_eq b9
 refine g1 ?_
 refine tm3 5 7 12 ?_ ?_ ?_
 refine bS [.int .i64 a.states] fun e6 => ?_
 refine g1 ?_
 refine tm2 7 12 ?_ ?_
 refine bS [.int .i64 a.states] fun o7 => ?_
 refine g1 ?_
 refine tj 11 ?_
 refine oI 12 rfl kR (tAlloc zC dC fun i8 => ?_)
 refine g2 ?_
 refine sG 0 ?_
 exact TK.nil (wP [0, 2, 1, 3, 4] [] 5 (h4 i8 e6 o7 A0 c164))
 refine tAlloc zC dC fun l5 => ?_
 refine g1 ?_
 refine oI 7 rfl kR (bS [.int .i64 a.states] fun j0 => ?_)
 refine g1 ?_
 refine tj 11 ?_
 refine g1 ?_
 refine sG 1 ?_
 exact TK.nil (wP [1, 2, 0, 3, 4] [] 5 (h4 l5 e6 j0 A0 c164))
 refine bS [.int .i64 a.states] fun e3 => ?_
 refine g1 ?_
 refine tm2 5 12 ?_ ?_
 refine bS [.int .i64 a.states] fun l0 => ?_
 refine g1 ?_
 refine tj 11 ?_
 refine oI 12 rfl kR (tAlloc zC dC fun i9 => ?_)
 refine g2 ?_
 refine sG 0 ?_
 exact jN (h4 i9 l0 e3 A0 c164)
 refine tAlloc zC dC fun r6 => ?_
 refine g1 ?_
 refine oI 5 rfl kR (bS [.int .i64 a.states] fun k6 => ?_)
 refine g1 ?_
 refine tj 11 ?_
 refine g1 ?_
 refine sG 1 ?_
 exact TK.nil (wP [1, 0, 2, 3, 4] [] 5 (h4 r6 k6 e3 A0 c164))
 refine tAlloc zC dC fun d8 => ?_
 refine g1 ?_
 refine tm2 5 7 ?_ ?_
 refine bS [.int .i64 a.states] fun j9 => ?_
 refine g1 ?_
 refine oI 7 rfl kR (bS [.int .i64 a.states] fun o6 => ?_)
 refine g1 ?_
 refine tj 11 ?_
 refine g1 ?_
 refine sG 2 ?_
 exact TK.nil (wP [2, 1, 0, 3, 4] [] 5 (h4 d8 j9 o6 A0 c164))
 refine bS [.int .i64 a.states] fun l4 => ?_
 refine g1 ?_
 refine oI 5 rfl kR (bS [.int .i64 a.states] fun n6 => ?_)
 refine g1 ?_
 refine tj 11 ?_
 refine g1 ?_
 refine sG 2 ?_
 exact TK.nil (wP [2, 0, 1, 3, 4] [] 5 (h4 d8 n6 l4 A0 c164))
 refine tAlloc zC dC fun b4 => ?_
 refine g1 ?_
 refine tm3 5 7 10 ?_ ?_ ?_
 refine bS [.int .i64 a.states] fun e5 => ?_
 refine g1 ?_
 refine tm2 7 10 ?_ ?_
 refine bS [.int .i64 a.states] fun l7 => ?_
 refine g1 ?_
 refine oI 10 rfl kR (TK.callSO hD (Oc := []) (.refl _) rfl rfl (ent call186 rfl) (c186 h3 oM) ?_)
 rintro v8 O9 ⟨A8, j5, s7, rfl, d6, rfl⟩
 obtain rfl := mv_eq d6
 refine g3 ?_
 refine sG 3 ?_
 exact TK.nil (wP [3, 2, 1, 0, 4] [] 5 (h4 b4 e5 l7 A8 j5))
 refine TK.callSO hD (Oc := []) (.refl _) rfl rfl (ent call186 rfl) (c186 h3 oM) ?_
 rintro u7 O6 ⟨A9, c196, t1, rfl, d7, rfl⟩
 obtain rfl := mv_eq d7
 refine g1 ?_
 refine oI 7 rfl kR (bS [.int .i64 a.states] fun j4 => ?_)
 refine g1 ?_
 refine tj 11 ?_
 refine g1 ?_
 refine sG 3 ?_
 exact TK.nil (wP [3, 2, 0, 1, 4] [] 5 (h4 b4 e5 j4 A9 c196))
 refine bS [.int .i64 a.states] fun d0 => ?_
 refine g1 ?_
 refine tm2 5 10 ?_ ?_
 refine bS [.int .i64 a.states] fun j2 => ?_
 refine g1 ?_
 refine oI 10 rfl kR (TK.callSO hD (Oc := []) (.refl _) rfl rfl (ent call186 rfl) (c186 h3 oM) ?_)
 rintro v6 O3 ⟨r9, o8, s3, rfl, c0, rfl⟩
 obtain rfl := mv_eq c0
 refine g3 ?_
 refine sG 3 ?_
 exact TK.nil (wP [3, 1, 2, 0, 4] [] 5 (h4 b4 j2 d0 r9 o8))
 refine TK.callSO hD (Oc := []) (.refl _) rfl rfl (ent call186 rfl) (c186 h3 oM) ?_
 rintro v2 O7 ⟨o9, l6, s6, rfl, d2, rfl⟩
 obtain rfl := mv_eq d2
 refine g1 ?_
 refine oI 5 rfl kR (bS [.int .i64 a.states] fun j6 => ?_)
 refine g1 ?_
 refine tj 11 ?_
 refine g1 ?_
 refine sG 3 ?_
 exact TK.nil (wP [3, 0, 2, 1, 4] [] 5 (h4 b4 j6 d0 o9 l6))
 refine TK.callSO hD (Oc := []) (.refl _) rfl rfl (ent call186 rfl) (c186 h3 oM) ?_
 rintro v3 w8 ⟨A5, c1, s8, rfl, d4, rfl⟩
 obtain rfl := mv_eq d4
 refine g1 ?_
 refine tm2 5 7 ?_ ?_
 refine bS [.int .i64 a.states] fun r1 => ?_
 refine g1 ?_
 refine oI 7 rfl kR (bS [.int .i64 a.states] fun r3 => ?_)
 refine g1 ?_
 refine tj 11 ?_
 refine g1 ?_
 refine sG 3 ?_
 exact TK.nil (wP [3, 1, 0, 2, 4] [] 5 (h4 b4 r1 r3 A5 c1))
 refine bS [.int .i64 a.states] fun r4 => ?_
 refine g1 ?_
 refine oI 5 rfl kR (bS [.int .i64 a.states] fun k9 => ?_)
 refine g1 ?_
 refine tj 11 ?_
 refine g1 ?_
 refine sG 3 ?_
 exact TK.nil (wP [3, 0, 1, 2, 4] [] 5 (h4 b4 k9 r4 A5 c1))
theorem c134 (hT : TabH H) (hva : validA a = true) (hvb : validA b = true) (hs : a.syms = b.syms) (h1 : Sl rInt H a.start A1 n1 k1) (h2 : Sl rInt H a.final A2 n2 k2) (h3 : Sl rMv H a.moves A3 n3 k3) (h1b : Sl rInt H b.start A1b n1b k1b) (h2b : Sl rInt H b.final A2b n2b k2b) (h3b : Sl rMv H b.moves A3b n3b k3b) : Ct PP 134 #[.agg #[.int .i64 a.states, .int .i64 a.syms, .slice A1 n1 k1, .slice A2 n2 k2, .slice A3 n3 k3], .agg #[.int .i64 b.states, .int .i64 b.syms, .slice A1b n1b k1b, .slice A2b n2b k2b, .slice A3b n3b k3b]] H [] (AutO (OpR a.syms (fun w => AccA a w ∨ AccA b w))) := by
 have va := validA_all hva
 have vb := validA_all hvb
 have wa := validA_wf hva
 have wb := validA_wf hvb
 have i6 := h1.len
 have i4 := h2.len
 have i5 := h3.len
 have e2 := h1b.len
 have e8 := h2b.len
 have e0 := h3b.len
 refine cB func134 ntmps134 fun I hD hI i7 => ?_
 refine g2a ?_
 intros
 refine bG fun b2 => ?_
 refine bG fun b3 => ?_
 refine aL fun b4 => ?_
 refine g4b ?_
 intros
 refine tSeal (i := 2) rfl fun H7 d4 h7 => ?_
 have ⟨h1, h2, h3, h1b, h2b, h3b, hT⟩ := mo7 d4 h1 h2 h3 h1b h2b h3b hT
 refine tSeal (i := 1) rfl fun H4 b5 h6 => ?_
 have ⟨h1, h2, h3, h1b, h2b, h3b, h7, hT⟩ := mo8 b5 h1 h2 h3 h1b h2b h3b h7 hT
 refine g3 ?_
 refine sq rfl (fS hD rfl call182 rfl (c182 hva hvb hs h1 h2 h3 h1b h2b h3b) ?_)
 rintro v3 rfl
 refine g7a ?_
 intros
 refine cN ?_ ?_ <;> intro d3
 exfalso; simp [hs] at d3
 refine g5a ?_
 intros
 refine sq rfl (fT hD [] [0] rfl call183 rfl (c183 (validA_wf hva) (validA_wf hvb) h1 h2 h3 h1b h2b h3b) ?_)
 rintro v5 O2 ⟨Am, nm, cm, rfl, rfl, f8⟩
 refine aL fun f9 => ?_
 refine sG 0 ?_
 refine g2a ?_
 intros
 refine ts 7 fun d9 => ?_
 refine tj 0 ?_
 refine g1 ?_
 refine tj 3 ?_
 refine g3 ?_
 refine oI 2 rfl kR (TK.callSO hD (Oc := []) (.refl _) rfl rfl (ent call49 rfl) (c49 h1 oM) ?_)
 rintro v2 O1 ⟨A5, c23, e4, rfl, d0, rfl⟩
 obtain rfl := repsI_eq d0
 refine g2 ?_
 refine sq rfl (fP hD rfl call184 rfl (c184 h1b oM (fun x hx => by have := wb.start x hx; omega) oM) ?_)
 rintro v6 H1 ⟨B0, e3, k5, rfl, d6, h4⟩ c1
 have ⟨h1, h2, h3, h1b, h2b, h3b, h7, h6, hT⟩ := mo9 c1 h1 h2 h3 h1b h2b h3b h7 h6 hT
 refine sL hD 0 h4 fun A0 c34 n0 d1 => ?_
 obtain rfl := reps_eqI d1
 rw [← List.map_append]
 refine g1 ?_
 refine sU 1 ?_
 refine g2a ?_
 intros
 refine ts 7 fun _ => ?_
 refine tj 0 ?_
 refine g1 ?_
 refine tj 3 ?_
 refine g3 ?_
 refine oI 2 rfl kR (TK.callSO hD (Oc := []) (.refl _) rfl rfl (ent call49 rfl) (c49 h2 oM) ?_)
 rintro v4 O3 ⟨A4, c40, e1, rfl, d2, rfl⟩
 obtain rfl := repsI_eq d2
 refine g2 ?_
 refine sq rfl (fP hD rfl call184 rfl (c184 h2b oM (fun x hx => by have := wb.final x hx; omega) oM) ?_)
 rintro v1 H3 ⟨B4, e6, k0, rfl, d8, h5⟩ b8
 have ⟨h1, h2, h3, h1b, h2b, h3b, h7, h6, h4, hT⟩ := mo10 b8 h1 h2 h3 h1b h2b h3b h7 h6 h4 hT
 refine sL hD 0 h5 fun A6 c51 n4 d5 => ?_
 obtain rfl := reps_eqI d5
 rw [← List.map_append]
 refine g1 ?_
 refine sU 2 ?_
 refine g2a ?_
 intros
 refine tR 1 (r := rInt) (ys := (a.start ++ shiftI b.start a.states)) (repsI _) fun H0 c0 h8 => ?_
 have ⟨h1, h2, h3, h1b, h2b, h3b, h7, h6, h4, h5, hT⟩ := mo11 c0 h1 h2 h3 h1b h2b h3b h7 h6 h4 h5 hT
 refine tR 0 (r := rInt) (ys := (a.final ++ shiftI b.final a.states)) (repsI _) fun H5 b6 h9 => ?_
 have ⟨h1, h2, h3, h1b, h2b, h3b, h7, h6, h8, h4, h5, hT⟩ := mo12 b6 h1 h2 h3 h1b h2b h3b h7 h6 h8 h4 h5 hT
 have d7 := union_wf hva hvb hs
 have e5 : (a.moves ++ shiftM b.moves a.states).length = nm := by rw [List.length_append, shiftM_len]; omega
 refine g2 ?_
 refine sq rfl (fO hD [1] [0, 2] rfl call185 rfl (c185 (a := ⟨a.states + b.states, a.syms, a.start ++ shiftI b.start a.states, a.final ++ shiftI b.final a.states, a.moves ++ shiftM b.moves a.states⟩) hT d7 h8 h9 e5) ?_)
 rintro v0 H2 O4 ⟨rfl, b7, B1, m1, l1, B2, m2, l2, B3, m3, l3, e7, rfl, e9⟩ b9
 have ⟨h1, h2, h3, h1b, h2b, h3b, h7, h6, h8, h4, h9, h5, hT⟩ := mo13 b9 h1 h2 h3 h1b h2b h3b h7 h6 h8 h4 h9 h5 hT
 refine g2 ?_
 refine sG 1 ?_
 refine g2 ?_
 refine rD 1 [] results134 ?_
 exact ⟨rfl, b7, _, _, _, _, _, _, _, _, _, _, rfl, e9.imp id fun ⟨h0, k1, k2, k3, k4⟩ => ⟨h0, k1, k2, k3, by have h := k4.op d7 union_acc; exact h⟩⟩
end
end Go.Proofs.YtookcfeogbeooaaGreatDoor
