/-
The table of an automaton. Classes of the states of a table, refined round by round; the automaton of the classes. The automaton of the classes of a table. The classes of the states of a table. Minimal automata.
Conditions: those that each theorem states.
-/
import Derived.Test.YtookcfeogbeooaaGreatDoorM22
set_option linter.all false
set_option maxRecDepth 100000
set_option maxHeartbeats 8000000
set_option autoImplicit true
set_option relaxedAutoImplicit true
namespace Go.Proofs.YtookcfeogbeooaaGreatDoor
open Go Go.Proofs
section
open Go.Proofs.Tryz
attribute [local irreducible] TK Yl OpK AnyT wpList Code.wp
theorem bool_snoc {fn : List Bool} {b : Bool} : fn.map Value.bool ++ [.bool b] = (fn ++ [b]).map Value.bool := by simp
theorem int_set {r : LI} {j : Nat} {x : Int} : (r.map fun x => Value.int .i64 x).set (0 + j * 1) (.int .i64 x) = (r.set j x).map fun x => Value.int .i64 x := by rw [Nat.zero_add, Nat.mul_one, List.map_set]
theorem any_fin {a : Auto} {F : List Bool} {l : LI} (hF : ∀ s ∈ a.final, F[s.toNat]? = some true) (h : ∃ s ∈ l, s ∈ a.final) : (l.any fun s => F.getD s.toNat false) = true := by
 obtain ⟨s, hs, hf⟩ := h
 exact List.any_eq_true.2 ⟨s, hs, by rw [List.getD_eq_getElem?_getD, hF s hf]; rfl⟩
theorem c214 (hT : TabH H) (hw : WfA a) (h1 : Sl rInt H a.start A1 n1 k1) (h2 : Sl rInt H a.final A2 n2 k2) (h3 : Sl rMv H a.moves A3 n3 k3) : Ct PP 214 #[.agg #[.int .i64 a.states, .int .i64 a.syms, .slice A1 n1 k1, .slice A2 n2 k2, .slice A3 n3 k3]] H [] fun v H' O' => O' = [] ∧ ∃ A n c B m d r, v = .tuple #[.agg #[.int .i64 a.syms, .slice A n c, .slice B m d], .bool r] ∧ (r = true → ∃ t : Tab, t.syms = a.syms ∧ Sl (rSl rInt) H' t.next A n c ∧ Sl rBool H' t.fin B m d ∧ SubR a t) := by
 have k4 := hw.st
 have k7 := hw.sy
 obtain ⟨N, hN⟩ := Int.eq_ofNat_of_zero_le k4.1
 obtain ⟨y, hy⟩ := Int.eq_ofNat_of_zero_le k7.1
 refine cB func214 ntmps214 fun I hD hI n5 => ?_
 refine g2a ?_
 intros
 refine bG fun b2 => ?_
 refine aL fun b3 => ?_
 refine g3a ?_
 intros
 refine tSeal (i := 1) rfl fun H5 j0 h5 => ?_
 have ⟨h1, h2, h3, hT⟩ := mo4 j0 h1 h2 h3 hT
 refine g2 ?_
 refine sq rfl (fP hD rfl call85 rfl (c85 hN hw h1 h2 h3) ?_)
 rintro v6 H8 ⟨gb, GA, GB, Gc, Gd, G, F, rfl, hG⟩ i9
 have ⟨h1, h2, h3, h5, hT⟩ := mo5 i9 h1 h2 h3 h5 hT
 refine g7a ?_
 intros
 refine aL fun l3 => ?_
 refine sG 0 ?_
 refine g6a ?_
 intros
 refine sq rfl (fP hD rfl call86 rfl (c86 hG hw h1 hw.start (by have := h1.2.2.1; have := h1.cap; omega)) ?_)
 rintro v0 H0 ⟨A7, n7, c7, R7, rfl, d9, d2⟩ d5
 have ⟨h1, h2, h3, h5, hG, hT⟩ := mo6 d5 h1 h2 h3 h5 hG hT
 refine sq rfl (bS [.slice A7 n7 c7] fun j4 => ?_)
 refine g4a ?_
 intros
 refine sq rfl (tMakeMap dC fun j2 => ?_)
 refine g3 ?_
 refine sq rfl (fS hD rfl call260 rfl (c260 hT d9 (by have := d9.len; have := d2.len; omega) (fun x hx => by have := d2.rg x hx; omega)) ?_)
 rintro v1 rfl
 refine sq rfl (tInsert (m := ([] : List (BA × Int))) (k := keyA R7) (g := (Value.int .i64)) (v := 0) (i := 0) uC (keyStr uC) rfl rfl rfl rfl ?_)
 refine g9b ?_
 intros
 refine newRow 50 1 ?_
 refine newRow 4 1 ?_
 refine eO6 (fun _ _ e2 _ e4 e5 => [.row 4 1 (.slice none 0 0) 0 (([] : List Bool).map Value.bool), .row 50 1 (.slice none 0 0) 0 [], e2, .row 50 1 (.slice (ad j4) 1 1) 1 (sO [(⟨A7, n7, c7, R7⟩ : SV)]), e4, e5]) ?_ (he := by simp [sO])
 have k8 : SubI a [(⟨A7, n7, c7, R7⟩ : SV)] [] [] 0 := ⟨⟨_, rfl, d2.sub⟩, by simpa using d2.cl, by simpa using d2.rg, by simpa using d2.len, rfl, rfl, Nat.zero_le _, by simp, by simp, by simp⟩
 have i8 : svOk H0 [(⟨A7, n7, c7, R7⟩ : SV)] := by intro p hp; simp at hp; subst hp; exact d9
 refine lp1 (fun D f E H O m' => ∃ (i : Nat) (S : List SV) (nx : List LI) (fn : List Bool) (m : List (BA × Int)) (ks : Nat) (As : OA) (cS : Nat) (An : OA) (cn : Nat) (d7 : LV) (Af : OA) (cf : Nat), Ghost.le H0 H ∧ (svOk H S) ∧ (S.length = ks ∧ 1 ≤ ks ∧ ks ≤ 2000) ∧ (SubI a S nx fn i) ∧ (KeyI S m) ∧ (Reps (rSl rInt) H nx d7) ∧ (GrAt H gb a N GA GB Gc Gd G F) ∧ (TabH H) ∧ m' = 2000 - i ∧ O = [.row 4 1 (.slice Af i cf) i (fn.map Value.bool), .row 50 1 (.slice An i cn) i d7, .map j2 (mapL Value.string (Value.int .i64) m), .row 50 1 (.slice As ks cS) ks (sO S), .blk l3 279 [.int .i64 a.syms, .slice An i cn, .slice Af i cf], f] ∧ E = (6, .slice As ks cS) :: (8, .int .i64 (i : Int)) :: D) [1, 2, 4, 5, 7] [0, 1, 2, 3, 4, 5] ⟨0, [(⟨A7, n7, c7, R7⟩ : SV)], [], [], mput [] (keyA R7) 0, 1, some ⟨j4, 0, none⟩, 1, none, 0, [], none, 0, Ghost.le.refl _, i8, ⟨rfl, by decide, by decide⟩, k8, (KeyI.start (p := ⟨A7, n7, c7, R7⟩)), .nil, hG, hT, rfl, rfl, rfl⟩ ?_
 rintro _ H1 _ _ ⟨i, S, nx, fn, m, ks, As, cS, An, cn, d7, Af, cf, c1, i6, j9, hI, hK, b6, hG, hT, rfl, rfl, rfl⟩ _ i5
 have ⟨h1, h2, h3, h5, d9⟩ := mo5 c1 h1 h2 h3 h5 d9
 have n4 := hI.ik
 refine g8b ?_
 intros
 refine cD ?_ ?_ <;> intro k0
 refine g7b ?_
 intros
 refine sq rfl (tMake uC iC rfl rfl rfl oM oM oM dC fun e8 => ?_)
 refine g4b ?_
 intros
 rw [show (a.syms : Int).toNat = y by omega]
 refine eO7 (fun _ _ _ e3 _ e5 e6 => [.row 3 1 (.slice (ad e8) y y) y ((List.replicate y (0 : Int)).map fun x => Value.int .i64 x), .row 4 1 (.slice Af i cf) i (fn.map Value.bool), .row 50 1 (.slice An i cn) i d7, e3, .row 50 1 (.slice As ks cS) ks (sO S), e5, e6]) ?_ (he := by simp)
 refine g6 ?_
 have l6 : S[i]? = some (S[i]'oM) := List.getElem?_eq_getElem _
 refine lp4 (fun D f f1 f2 f3 E H O m => ∃ (j : Nat) (r : LI) (S1 : List SV) (m1 : List (BA × Int)) (k1 : Nat) (A0 : OA) (e0 : Nat), Ghost.le H1 H ∧ (j ≤ y) ∧ (svOk H S1) ∧ (S1.length = k1 ∧ 1 ≤ k1 ∧ k1 ≤ 2000) ∧ (SubI a S1 nx fn i) ∧ (KeyI S1 m1) ∧ (RowS a S1 i r j) ∧ (r.length = y) ∧ (GrAt H gb a N GA GB Gc Gd G F) ∧ (TabH H) ∧ (i < k1) ∧ m = y - j ∧ O = [.row 3 1 (.slice (ad e8) y y) y ((r).map fun x => Value.int .i64 x), f, f1, .map j2 (mapL Value.string (Value.int .i64) m1), .row 50 1 (.slice A0 k1 e0) k1 (sO S1), f2, f3] ∧ E = (6, .slice A0 k1 e0) :: (41, .int .i64 (j : Int)) :: D) [1, 2, 4, 5, 7, 8, 9, 40] [0, 1, 2, 3, 4, 5, 6] ⟨0, List.replicate y 0, S, m, ks, As, cS, Ghost.le.refl _, Nat.zero_le _, i6, j9, hI, hK, RowS.zero, (by simp), hG, hT, oM, rfl, rfl, rfl⟩ ?_
 rintro _ _ _ _ ⟨j, r, S1, m1, k1, A0, e0, h7, hj, h4, b4, c0, e7, b7, j5, hG, hT, l9, rfl, rfl, rfl⟩ _ d8
 have ⟨h5, b6, i6⟩ := mo3 h7 h5 b6 i6
 obtain ⟨p, hp⟩ := ex_i (l := S1) (i := i) oM
 have b5 := h4 p (mG hp)
 refine g5b ?_
 intros
 refine cD ?_ ?_ <;> intro l5
 refine g13c ?_
 intros
 refine row_addr (i := 4) rfl oM fun l0 e9 => ?_
 subst e9
 refine g1 ?_
 refine q (yLoad1 aC rfl (Mem.row1 (i := 4) rfl (sO_at hp))) rfl rfl rfl ?_
 refine g1 ?_
 refine sq rfl (fP hD rfl call87 rfl (c87 (sym := (j : Int)) hG hw b5 (c0.rg p (mG hp)) (by have := b5.len; have := c0.ln p (mG hp); omega)) ?_)
 rintro v3 H4 ⟨A8, n8, c8, R8, rfl, d3, y8, l4, b8⟩ h9
 have ⟨h5, b5, b6, hG, hT, h4⟩ := mo6 h9 h5 b5 b6 hG hT h4
 have d4 : ∀ s ∈ p.l, ∀ u, (⟨s, u, ((j : Nat) : Int)⟩ : Mv) ∈ a.moves → u ∈ R8 := fun s hs u hu => b8.sub u (l4 s hs u hu)
 refine g6a ?_
 intros
 refine sq rfl (fS hD rfl call260 rfl (c260 hT d3 (by have := d3.len; have := b8.len; omega) (fun x hx => by have := b8.rg x hx; omega)) ?_)
 rintro v5 rfl
 refine q (yLookupOk (k := keyA R8) (g := (Value.int .i64)) (z := 0) (i := 3) uC (keyStr uC) nC rfl rfl rfl) rfl rfl rfl ?_
 refine g12b ?_
 intros
 refine cN ?_ ?_ <;> intro f8
 refine g12c ?_
 intros
 refine cD ?_ ?_ <;> intro k9
 refine g3a ?_
 intros
 refine sG 6 ?_
 refine g2 ?_
 refine rD 6 [] results214 ?_
 exact ⟨rfl, _, _, _, _, _, _, _, rfl, fun h => by cases h⟩
 refine g5a ?_
 intros
 refine sq rfl (fS hD rfl call260 rfl (c260 hT d3 (by have := d3.len; have := b8.len; omega) (fun x hx => by have := b8.rg x hx; omega)) ?_)
 rintro v2 rfl
 refine g1 ?_
 refine sq rfl (tMapUpd (m := m1) (k := keyA R8) (g := (Value.int .i64)) (v := (k1 : Int)) (i := 3) uC (keyStr uC) rfl rfl rfl rfl ?_)
 refine g4 ?_
 refine sq rfl (bS [.slice A8 n8 c8] fun l8 => ?_)
 refine sq rfl (aR 5 fun A6 c68 => ?_)
 rw [sO_snoc (l := R8)]
 refine g2 ?_
 have f9 := h4.snoc d3
 have j6 := c0.grow (q := ⟨A8, n8, c8, R8⟩) b8.cl b8.rg b8.len
 have j3 := e7.add (q := ⟨A8, n8, c8, R8⟩)
 rw [b4.1] at j3
 have h8 := (b7.grow (q := ⟨A8, n8, c8, R8⟩) oM).put (x := (k1 : Int)) (p := p) (p' := ⟨A8, n8, c8, R8⟩) oM oM (at_grow hp) (by rw [Int.toNat_natCast, ← b4.1]; simp) d4
 refine g5 ?_
 refine sq rfl (tStoreRow1 (i := 1) (v := .int .i64 (k1 : Int)) rfl sC rfl rfl rfl (by rw [List.length_map]; omega) ?_)
 try simp only [Int.toNat_natCast]
 rw [int_set]
 refine g4 ?_
 exact nK d8 ⟨j + 1, r.set j (k1 : Int), S1 ++ [⟨A8, n8, c8, R8⟩], mput m1 (keyA R8) (k1 : Int), (k1 + 1), A6, c68, (h7.trans h9), oM, f9, ⟨by rw [List.length_append, b4.1]; rfl, by omega, by omega⟩, j6, j3, h8, (by rw [List.length_set]; exact j5), hG, hT, oM, rfl, rfl, rfl⟩
 refine g1 ?_
 have j8 : (mget m1 (keyA R8)).isSome = true := by simpa using f8
 obtain ⟨jj, p', j7, k6, l1⟩ := e7.known j8 (fun x hx => (b8.rg x hx).1) c0.rg
 rw [j7]
 have h8 := b7.put (x := (jj : Int)) (p := p) (p' := p') oM oM hp (by rw [Int.toNat_natCast]; exact k6) (by rw [l1]; exact d4)
 refine g5 ?_
 refine sq rfl (tStoreRow1 (i := 0) (v := .int .i64 (jj : Int)) rfl sC rfl rfl rfl (by rw [List.length_map]; omega) ?_)
 try simp only [Int.toNat_natCast]
 rw [int_set]
 refine g4 ?_
 exact nK d8 ⟨j + 1, r.set j (jj : Int), S1, m1, k1, some ⟨l0, 0, none⟩, e0, (h7.trans h9), oM, h4, b4, c0, e7, h8, (by rw [List.length_set]; exact j5), hG, hT, oM, rfl, rfl, rfl⟩
 refine g1 ?_
 have k5 : j = y := by omega
 rw [k5, show y = a.syms.toNat by omega] at b7
 have j1 : r.length = a.syms.toNat := by omega
 refine tR 0 (r := rInt) (ys := r) (repsI r) fun H3 b9 d1 => ?_
 have ⟨h5, b6, hG, hT, h4, b5⟩ := mo6 b9 h5 b6 hG hT h4 b5
 refine row_addr (i := 3) rfl oM fun l2 i4 => ?_
 subst i4
 refine tss (.cons _ (.cons _ (.cons_cons _ (.cons_cons _ (.cons_cons _ (.cons_cons _ (List.nil_sublist _))))))) 16 fun _ => ?_
 refine tj 0 ?_
 refine g2 ?_
 refine tj 5 ?_
 refine g5 ?_
 refine tk 11 rfl kR aS nP kS (yLoad1 aC rfl (Mem.row1 (i := 1) rfl (sO_at hp))) rfl rfl rfl ?_
 refine oI 3 rfl kR (bS [.slice (ad e8) y y] fun n0 => ?_)
 refine g1 ?_
 refine oI 4 rfl kR (aR 2 fun A4 c77 => ?_)
 refine g1 ?_
 refine tj 15 ?_
 refine oI 12 rfl kR (fP hD rfl call88 rfl (c88 hG hw b5 (c0.rg p (mG hp)) (by have := b5.len; have := c0.ln p (mG hp); omega)) ?_)
 rintro v4 H2 rfl h6
 have ⟨h5, d1, b5, b6, hG, hT, h4⟩ := mo7 h6 h5 d1 b5 b6 hG hT h4
 refine ta_next (kG h6) ?_
 refine oI 13 rfl kR (bS [.bool (p.l.any fun s => F.getD s.toNat false)] fun l7 => ?_)
 refine ta_next (kG h6) ?_
 refine oI 14 rfl kR (aR 2 fun A5 c83 => ?_)
 rw [bool_snoc]
 refine ta_next (kG h6) ?_
 refine g1 ?_
 refine sU 6 ?_
 refine g1 ?_
 refine sU 6 ?_
 refine g5 ?_
 exact nK i5 ⟨i + 1, S1, nx ++ [r], fn ++ [p.l.any fun s => F.getD s.toNat false], m1, k1, some ⟨l2, 0, none⟩, e0, A4, c77, d7 ++ [.slice (ad e8) y y], A5, c83, (((c1.trans h7).trans b9).trans h6), h4, b4, (c0.next hp b7 j1 (fun h => any_fin hG.isf h)), e7, (b6.snoc (x := r) ⟨_, _, _, rfl, d1⟩), hG, hT, rfl, rfl, rfl⟩
 refine g4a ?_
 intros
 refine sG 5 ?_
 refine g2 ?_
 refine tR 1 b6 fun H6 e1 d0 => ?_
 have h5 := h5.mono e1
 refine tR 0 (r := rBool) (ys := fn) (repsB fn) fun H7 d6 i7 => ?_
 have ⟨h5, d0⟩ := mo2 d6 h5 d0
 refine rD 3 [] results214 ?_
 exact ⟨rfl, _, _, _, _, _, _, _, rfl, fun _ => ⟨⟨a.syms, nx, fn⟩, rfl, d0, i7, hI.done oM hw.sy oM⟩⟩
end
theorem mput_new {κ β : Type} [DecidableEq κ] : ∀ {m : List (κ × β)} {k : κ} {v : β}, mget m k = none → (mput m k v).length = m.length + 1
 | [], k, v, _ => rfl
 | (k', v') :: m, k, v, h => by
  unfold mget at h
  unfold mput
  split at h
  ·cases h
  ·rename_i e
   rw [if_neg e, List.length_cons, mput_new h, List.length_cons]
def sigA (t : Tab) (c : LI) (s : Nat) : LI := c.getD s 0 :: (t.next.getD s []).map fun u => c.getD u.toNat 0
structure NumI (t : Tab) (c : LI) (i : Nat) (m : List (BA × Int)) (fr : LI) : Prop where
 len : fr.length = t.next.length
 at_ : ∀ j, j < i → mget m (keyA (sigA t c j)) = fr[j]?
 inv : ∀ k v, mget m k = some v → ∃ j, j < i ∧ k = keyA (sigA t c j) ∧ 0 ≤ v ∧ v < (m.length : Int)
 inj : ∀ k k' v, mget m k = some v → mget m k' = some v → k = k'
 sur : ∀ v : Nat, v < m.length → ∃ k, mget m k = some (v : Int)
 few : m.length ≤ i
theorem NumI.zero {t : Tab} {c fr : LI} (h : fr.length = t.next.length) : NumI t c 0 [] fr :=
 ⟨h, fun j hj => by omega, fun k v h => by simp [mget] at h, fun k k' v h => by simp [mget] at h, fun v hv => by simp at hv, Nat.le_refl _⟩
theorem NumI.old {t : Tab} {c : LI} {m : List (BA × Int)} (h : NumI t c i m fr) (hi : i < t.next.length) (hv : mget m (keyA (sigA t c i)) = some v) : NumI t c (i + 1) m (fr.set i v) where
 len := by rw [List.length_set]; exact h.len
 at_ j hj := by
  have := h.len
  rw [List.getElem?_set]
  split
  ·rename_i e; subst e; rw [hv]; first | rfl | rw [if_pos oM]
  ·exact h.at_ j oM
 inv k v hk := by obtain ⟨j, h1, h2⟩ := h.inv k v hk; exact ⟨j, by omega, h2⟩
 inj := h.inj
 sur := h.sur
 few := by have := h.few; omega
theorem NumI.new {t : Tab} {c : LI} {m : List (BA × Int)} (h : NumI t c i m fr) (hi : i < t.next.length) (hv : mget m (keyA (sigA t c i)) = none) : NumI t c (i + 1) (mput m (keyA (sigA t c i)) (m.length : Int)) (fr.set i (m.length : Int)) where
 len := by rw [List.length_set]; exact h.len
 at_ j hj := by
  have := h.len
  rw [List.getElem?_set, mget_mput]
  split
  ·rename_i e
   split
   ·rename_i e'; first | rfl | rw [if_pos oM]
   ·rename_i e'
    have h2 := h.at_ j oM
    rw [← e, hv, List.getElem?_eq_getElem oM] at h2
    cases h2
  ·rename_i e
   split
   ·rename_i e'; subst e'; exact absurd rfl e
   ·exact h.at_ j oM
 inv k v hk := by
  rw [mput_new hv]
  rw [mget_mput] at hk
  split at hk
  ·rename_i e; cases hk; exact ⟨i, by omega, e.symm, by omega, by omega⟩
  ·obtain ⟨j, h1, h2, h3, h4⟩ := h.inv k v hk; exact ⟨j, by omega, h2, h3, by omega⟩
 inj k k' v hk hk' := by
  rw [mget_mput] at hk hk'
  split at hk <;> split at hk'
  ·rename_i e e'; rw [← e, ← e']
  ·cases hk; obtain ⟨j, _, _, _, h4⟩ := h.inv _ _ hk'; omega
  ·cases hk'; obtain ⟨j, _, _, _, h4⟩ := h.inv _ _ hk; omega
  ·exact h.inj k k' v hk hk'
 sur v hlt := by
  rw [mput_new hv] at hlt
  by_cases e : v = m.length
  ·subst e; exact ⟨_, by rw [mget_mput, if_pos rfl]⟩
  ·obtain ⟨k, hk⟩ := h.sur v oM
   refine ⟨k, ?_⟩
   rw [mget_mput, if_neg (fun e' => by rw [e', hk] at hv; cases hv)]
   exact hk
 few := by rw [mput_new hv]; have := h.few; omega
structure RoundR (t : Tab) (c c' : LI) (n : Nat) : Prop where
 len : c'.length = t.next.length
 eq : ∀ (i j : Nat) (x : Int), c'[i]? = some x → c'[j]? = some x → sigA t c i = sigA t c j
 eq' : ∀ i j, i < t.next.length → j < t.next.length → sigA t c i = sigA t c j → c'[i]? = c'[j]?
 rg : ∀ x ∈ c', 0 ≤ x ∧ x < (n : Int)
 sur : ∀ v : Nat, v < n → ∃ i : Nat, c'[i]? = some (v : Int)
 nN : n ≤ t.next.length
 n1 : 1 ≤ t.next.length → 1 ≤ n
theorem sigA_nn {t : Tab} {c : LI} (hc : ∀ x ∈ c, 0 ≤ x) (s : Nat) : ∀ x ∈ sigA t c s, 0 ≤ x := by
 have hd : ∀ k, 0 ≤ c.getD k 0 := fun k => by
  rw [List.getD_eq_getElem?_getD]
  cases h : c[k]? with
  | none => simp
  | some x => exact hc x (mG h)
 intro x hx
 simp only [sigA, List.mem_cons, List.mem_map] at hx
 rcases hx with rfl | ⟨u, _, rfl⟩
 ·exact hd _
 ·exact hd _
theorem NumI.done {t : Tab} {c : LI} {m : List (BA × Int)} (h : NumI t c i m fr) (hi : i = t.next.length) (hc : ∀ x ∈ c, 0 ≤ x) : RoundR t c fr m.length := by
 have hl := h.len
 have lt : ∀ {j : Nat} {x : Int}, fr[j]? = some x → j < i := fun hj => by have := (gE hj).1; omega
 refine ⟨h.len, fun a b x ha hb => ?_, fun a b ha hb e => ?_, fun x hx => ?_, fun v hv => ?_, by have := h.few; omega, fun h1 => ?_⟩
 ·have e1 := (h.at_ a (lt ha)).trans ha
  have e2 := (h.at_ b (lt hb)).trans hb
  exact keyA_inj (sigA_nn hc a) (sigA_nn hc b) (h.inj _ _ _ e1 e2)
 ·rw [← h.at_ a oM, ← h.at_ b oM, e]
 ·obtain ⟨j, hj⟩ := List.getElem?_of_mem hx
  obtain ⟨_, _, _, h3⟩ := h.inv _ _ ((h.at_ j (lt hj)).trans hj)
  exact h3
 ·obtain ⟨k, hk⟩ := h.sur v hv
  obtain ⟨j, hj, e, _⟩ := h.inv _ _ hk
  exact ⟨j, by rw [← h.at_ j hj, ← e]; exact hk⟩
 ·have h0 := h.at_ 0 oM
  rw [List.getElem?_eq_getElem oM] at h0
  obtain ⟨_, _, _, h3, h4⟩ := h.inv _ _ h0
  omega
structure ClsI (t : Tab) (c : LI) (n : Nat) : Prop where
 len : c.length = t.next.length
 fin : ∀ (i j : Nat) (x : Int), c[i]? = some x → c[j]? = some x → t.fin[i]? = t.fin[j]?
 rg : ∀ x ∈ c, 0 ≤ x ∧ x < 2001
 nN : n ≤ t.next.length
 sur : ∀ v : Nat, v < n → ∃ i : Nat, c[i]? = some (v : Int)
theorem sig_head {t : Tab} (h : sigA t c i = sigA t c j) : c.getD i 0 = c.getD j 0 := by
 simp only [sigA, List.cons.injEq] at h; exact h.1
theorem sig_to {t : Tab} (h : sigA t c i = sigA t c j) (hi : t.next[i]? = some r) (hj : t.next[j]? = some r') (d : Nat) (hd : d < r.length) (hd' : d < r'.length) : c.getD (r[d]).toNat 0 = c.getD (r'[d]).toNat 0 := by
 simp only [sigA, List.cons.injEq, List.getD_eq_getElem?_getD (l := t.next), hi, hj, Option.getD_some] at h
 have := congrArg (fun l => l[d]?) h.2
 simpa [hd, hd'] using this
theorem at_getD {c : LI} {i : Nat} (h : i < c.length) : c[i]? = some (c.getD i 0) := by rw [List.getD_eq_getElem?_getD, List.getElem?_eq_getElem h, Option.getD_some]
theorem RoundR.down {t : Tab} {c : LI} {n k : Nat} (h : RoundR t c c' n) (hc : ClsI t c k) {i j : Nat} (hi : c'[i]? = some x) (hj : c'[j]? = some x) : c[i]? = c[j]? := by
 have h1 := (gE hi).1
 have h2 := (gE hj).1
 have := h.len; have := hc.len
 rw [at_getD oM, at_getD oM, sig_head (h.eq i j x hi hj)]
theorem RoundR.reps {t : Tab} {c : LI} {n k : Nat} (h : RoundR t c c' n) (hc : ClsI t c k) : ∃ L : LI, L.length = n ∧ (∀ v : Nat, v < n → ∃ i : Nat, c'[i]? = some (v : Int) ∧ L[v]? = some (c.getD i 0)) ∧ ∀ x ∈ c, x ∈ L := by
 have ex : ∀ m, m ≤ n → ∃ L : LI, L.length = m ∧ ∀ v : Nat, v < m → ∃ i : Nat, c'[i]? = some (v : Int) ∧ L[v]? = some (c.getD i 0) := by
  intro m
  induction m with
  | zero => exact fun _ => ⟨[], rfl, fun v hv => by omega⟩
  | succ m ih =>
   intro hm
   obtain ⟨L, hl, hL⟩ := ih oM
   obtain ⟨i, hi⟩ := h.sur m oM
   refine ⟨L ++ [c.getD i 0], by simp [hl], fun v hv => ?_⟩
   by_cases e : v = m
   ·subst e; exact ⟨i, hi, by rw [List.getElem?_append_right oM, hl, Nat.sub_self]; rfl⟩
   ·obtain ⟨j, h1, h2⟩ := hL v oM
    exact ⟨j, h1, by rw [List.getElem?_append_left oM]; exact h2⟩
 obtain ⟨L, hl, hL⟩ := ex n (Nat.le_refl _)
 refine ⟨L, hl, hL, fun x hx => ?_⟩
 obtain ⟨j, hj⟩ := List.getElem?_of_mem hx
 have h1 := (gE hj).1
 have hlen := h.len; have h9 := hc.len
 have h2 := List.getElem?_eq_getElem (l := c') (i := j) oM
 obtain ⟨h3, h4⟩ := h.rg _ (mG h2)
 obtain ⟨i, h5, h6⟩ := hL (c'[j]).toNat oM
 rw [show (((c'[j]).toNat : Nat) : Int) = c'[j] by omega] at h5
 have h7 := h.down hc h5 h2
 have h8 := (gE h5).1
 rw [hj, at_getD oM] at h7
 have e : c.getD i 0 = x := Option.some.inj h7
 rw [e] at h6
 exact mG h6
theorem ClsI.sub {t : Tab} {c : LI} {k : Nat} (hc : ClsI t c k) : ∀ x ∈ upTo k, x ∈ c := fun x hx => by
 have h := upTo_mem.1 hx
 obtain ⟨i, hi⟩ := hc.sur x.toNat oM
 rw [show ((x.toNat : Nat) : Int) = x by omega] at hi
 exact mG hi
theorem upTo_nodup : (upTo k).Nodup := by
 rw [upTo, List.Nodup, List.pairwise_map]
 exact List.nodup_range.imp fun h e => h oM
theorem RoundR.le {t : Tab} {c : LI} {n k : Nat} (h : RoundR t c c' n) (hc : ClsI t c k) : k ≤ n := by
 obtain ⟨L, hl, _, hm⟩ := h.reps hc
 have := nodup_sub (xs := upTo k) upTo_nodup fun x hx => hm x (hc.sub x hx)
 rw [upTo_len] at this; omega
theorem RoundR.same {t : Tab} {c : LI} {n : Nat} (h : RoundR t c c' n) (hc : ClsI t c n) {i j : Nat} (hi : i < c.length) (hj : j < c.length) (e : c[i]? = c[j]?) : c'[i]? = c'[j]? := by
 obtain ⟨L, hl, hL, hm⟩ := h.reps hc
 have hlen := h.len; have h9 := hc.len
 have v0 : ∀ q, q < c.length → ∃ v : Nat, v < n ∧ c'[q]? = some (v : Int) ∧ L[v]? = c[q]? := fun q hq => by
  have h2 := List.getElem?_eq_getElem (l := c') (i := q) oM
  obtain ⟨h3, h4⟩ := h.rg _ (mG h2)
  refine ⟨(c'[q]).toNat, by omega, by rw [h2]; congr 1; omega, ?_⟩
  obtain ⟨p, h5, h6⟩ := hL (c'[q]).toNat oM
  rw [show (((c'[q]).toNat : Nat) : Int) = c'[q] by omega] at h5
  have h8 := (gE h5).1
  rw [h6, ← h.down hc h5 h2, at_getD oM]
 obtain ⟨v, hv, h1, h2⟩ := v0 i hi
 obtain ⟨u, hu, h3, h4⟩ := v0 j hj
 rw [h1, h3]
 have he : L[v]? = L[u]? := by rw [h2, h4, e]
 by_cases huv : v = u
 ·rw [huv]
 ·exfalso
  have k0 : ∀ {a b : Nat}, a < n → b < n → a ≠ b → L[a]? = L[b]? → False := fun {a b} ha hb b4 h7 => by
   have h5 := nodup_sub (xs := upTo n) (ys := L.eraseIdx b) upTo_nodup fun x hx => by
    have := hm x (hc.sub x hx)
    obtain ⟨q, hq⟩ := List.getElem?_of_mem this
    rw [List.mem_eraseIdx_iff_getElem?]
    by_cases hqb : q = b
    ·exact ⟨a, b4, by rw [h7, ← hqb]; exact hq⟩
    ·exact ⟨q, hqb, hq⟩
   rw [upTo_len, List.length_eraseIdx] at h5
   split at h5 <;> omega
  exact k0 hv hu huv he
theorem ClsI.next {t : Tab} {c : LI} {n k : Nat} (hc : ClsI t c k) (h : RoundR t c c' n) (hN : t.next.length ≤ 2000) : ClsI t c' n where
 len := h.len
 fin i j x hi hj := by
  have h1 := h.down hc hi hj
  have := (gE hi).1; have := h.len; have := hc.len
  rw [at_getD (c := c) (i := i) oM] at h1
  exact hc.fin i j _ (at_getD oM) h1.symm
 rg x hx := by have := h.rg x hx; have := h.nN; omega
 nN := h.nN
 sur := h.sur
theorem ClsI.done {t : Tab} {c : LI} {n : Nat} (ht : TabOk t) (hc : ClsI t c n) (h : RoundR t c c' n) : ClassOk t c' where
 len := h.len
 fin i j x hi hj := (hc.next h ht.len.2).fin i j x hi hj
 to i j x d hi hj hd0 hd := by
  have hlen := h.len; have h5 := hc.len
  have h6 := (gE hi).1
  have h7 := (gE hj).1
  have hr := List.getElem?_eq_getElem (l := t.next) (i := i) oM
  have h4 := List.getElem?_eq_getElem (l := t.next) (i := j) oM
  have l1 := ht.row _ (mG hr)
  have l2 := ht.row _ (mG h4)
  have e := sig_to (h.eq i j x hi hj) hr h4 d.toNat oM oM
  have t1 := Tab.to_at hr (List.getElem?_eq_getElem (l := t.next[i]) (i := d.toNat) oM)
  have t2 := Tab.to_at h4 (List.getElem?_eq_getElem (l := t.next[j]) (i := d.toNat) oM)
  rw [show ((d.toNat : Nat) : Int) = d by omega] at t1 t2
  rw [t1, t2]
  have b1 := ht.to _ (mG hr) _ (List.getElem_mem (l := t.next[i]) (n := d.toNat) oM)
  have b2 := ht.to _ (mG h4) _ (List.getElem_mem (l := t.next[j]) (n := d.toNat) oM)
  exact h.same hc oM oM (by rw [at_getD oM, at_getD oM, e])
def ClsS (t : Tab) (i : Nat) (c : LI) : Prop := c.length = t.next.length ∧ ∀ j, j < t.next.length → c[j]? = some (if j < i ∧ t.fin[j]? = some true then 1 else 0)
theorem ClsS.zero {t : Tab} : ClsS t 0 (List.replicate t.next.length 0) := ⟨by simp, fun j hj => by simp [hj]⟩
theorem ClsS.yes {t : Tab} {c : LI} (h : ClsS t i c) (hf : t.fin[i]? = some true) : ClsS t (i + 1) (c.set i 1) := ⟨by rw [List.length_set]; exact h.1, fun j hj => by
 have hl := h.1
 rw [List.getElem?_set]
 split
 ·rename_i e; subst e; rw [if_pos oM, if_pos ⟨by omega, hf⟩]
 ·rename_i e
  rw [h.2 j hj]
  by_cases h1 : j < i
  ·simp [h1, show j < i + 1 by omega]
  ·rw [if_neg (fun x => h1 x.1), if_neg (fun x => by omega)]⟩
theorem ClsS.no {t : Tab} {c : LI} (h : ClsS t i c) (hf : t.fin[i]? = some false) : ClsS t (i + 1) c := ⟨h.1, fun j hj => by
 rw [h.2 j hj]
 by_cases h1 : j < i
 ·simp [h1, show j < i + 1 by omega]
 ·by_cases h2 : j = i
  ·subst h2; rw [hf]; simp
  ·rw [if_neg (fun x => h1 x.1), if_neg (fun x => by omega)]⟩
theorem ClsS.done {t : Tab} {c : LI} (ht : TabOk t) (h : ClsS t i c) (hi : i = t.next.length) : ClsI t c 0 where
 len := h.1
 fin a b x ha hb := by
  have h1 := (gE ha).1
  have h2 := (gE hb).1
  have h3 := h.1; have h4 := ht.fin
  rw [h.2 a oM] at ha
  rw [h.2 b oM] at hb
  have ga := List.getElem?_eq_getElem (l := t.fin) (i := a) oM
  have gb := List.getElem?_eq_getElem (l := t.fin) (i := b) oM
  rw [ga] at ha; rw [gb] at hb
  rw [ga, gb]
  cases ea : t.fin[a] <;> cases eb : t.fin[b] <;> simp [ea, eb, show a < i by omega, show b < i by omega] at ha hb ⊢ <;> omega
 rg x hx := by
  obtain ⟨j, hj⟩ := List.getElem?_of_mem hx
  have h1 := (gE hj).1
  have h3 := h.1
  rw [h.2 j oM] at hj
  have := Option.some.inj hj
  split at this <;> omega
 nN := Nat.zero_le _
 sur v hv := by omega
section
def clA (c : LI) (x : Int) : Int := c.getD x.toNat 0
structure OrdI (t : Tab) (c order : LI) (m : List (Int × Int)) : Prop where
 rg : ∀ x ∈ order, 0 ≤ x ∧ x < (t.next.length : Int)
 fw : ∀ k v, mget m k = some v → ∃ (j : Nat) (y : Int), v = (j : Int) ∧ order[j]? = some y ∧ clA c y = k
 bw : ∀ (j : Nat) (y : Int), order[j]? = some y → mget m (clA c y) = some (j : Int)
 pos : 1 ≤ order.length
 head : order[0]? = some 0
structure MovI (t : Tab) (c order : LI) (i d : Nat) (mv : List Mv) : Prop where
 len : mv.length = i * t.syms.toNat + d
 ok : ∀ m ∈ mv, 0 ≤ m.src ∧ (m.src < (i : Int) ∨ m.src = (i : Int) ∧ m.sym < (d : Int)) ∧ 0 ≤ m.dst ∧ m.dst < (order.length : Int) ∧ 0 ≤ m.sym ∧ m.sym < t.syms
 asc : ascM mv = true
 to : ∀ (j e : Nat) (x : Int), (j < i ∨ j = i ∧ e < d) → (e : Int) < t.syms → order[j]? = some x → ∃ (k : Nat) (y : Int), order[k]? = some y ∧ clA c y = clA c (t.to x e) ∧ (⟨(j : Int), (k : Int), (e : Int)⟩ : Mv) ∈ mv
structure FinM (t : Tab) (order : LI) (i : Nat) (fs : LI) : Prop where
 ok : ∀ x ∈ fs, 0 ≤ x ∧ x < (i : Int)
 asc : ascI fs = true
 at_ : ∀ (j : Nat) (x : Int), j < i → order[j]? = some x → t.fin[x.toNat]? = some true → (j : Int) ∈ fs
 few : fs.length ≤ i
section
variable {t : Tab} {c order : LI} {m : List (Int × Int)} {i d : Nat} {mv : List Mv} {fs : LI}
theorem OrdI.start (h : 1 ≤ t.next.length) : OrdI t c [0] (mput [] (clA c 0) 0) where
 rg x hx := by simp at hx; subst hx; omega
 fw k v hk := by
  rw [mget_mput] at hk
  split at hk
  ·rename_i e; cases hk; exact ⟨0, 0, rfl, rfl, e⟩
  ·simp [mget] at hk
 bw j y hj := by
  rcases Nat.eq_zero_or_pos j with rfl | h1
  ·simp at hj; subst hj; rw [mget_mput, if_pos rfl]; rfl
  ·rw [List.getElem?_eq_none (by simp; omega)] at hj; cases hj
 pos := by simp
 head := rfl
theorem OrdI.len (h : OrdI t c order m) : order.length ≤ t.next.length := by
 have nd : order.Nodup := by
  rw [List.nodup_iff_pairwise_ne, List.pairwise_iff_getElem]
  intro a b ha hb h4 e
  have h1 := h.bw a _ (List.getElem?_eq_getElem ha)
  have h2 := h.bw b _ (List.getElem?_eq_getElem hb)
  rw [e, h2] at h1
  have := Option.some.inj h1
  omega
 exact few_of nd h.rg
theorem OrdI.add {to : Int} (h : OrdI t c order m) (ht : 0 ≤ to ∧ to < (t.next.length : Int)) (hn : mget m (clA c to) = none) : OrdI t c (order ++ [to]) (mput m (clA c to) (order.length : Int)) where
 rg x hx := by
  rcases List.mem_append.1 hx with hx | hx
  ·exact h.rg x hx
  ·simp at hx; subst hx; exact ht
 fw k v hk := by
  rw [mget_mput] at hk
  split at hk
  ·rename_i e; cases hk; exact ⟨order.length, to, rfl, by simp, e⟩
  ·obtain ⟨j, y, h1, h2, h3⟩ := h.fw k v hk
   exact ⟨j, y, h1, by rw [List.getElem?_append_left (gE h2).1]; exact h2, h3⟩
 bw j y hj := by
  rw [mget_mput]
  rcases Nat.lt_or_ge j order.length with h1 | h1
  ·rw [List.getElem?_append_left h1] at hj
   have := h.bw j y hj
   rw [if_neg (fun e => by rw [e, this] at hn; cases hn)]
   exact this
  ·rw [List.getElem?_append_right h1] at hj
   have h2 : j = order.length := by
    rcases Nat.eq_zero_or_pos (j - order.length) with h4 | h4
    ·omega
    ·rw [List.getElem?_eq_none (by simp; omega)] at hj; cases hj
   subst h2
   rw [Nat.sub_self] at hj
   simp at hj; subst hj
   rw [if_pos rfl]
 pos := by simp
 head := by rw [List.getElem?_append_left (by have := h.pos; omega)]; exact h.head
theorem MovI.start : MovI t c order 0 0 [] := ⟨by simp, by simp, rfl, fun j e x h => by omega⟩
theorem MovI.grow {to : Int} (h : MovI t c order i d mv) (hi : i < order.length) : MovI t c (order ++ [to]) i d mv where
 len := h.len
 ok m hm := by have := h.ok m hm; simp only [List.length_append, List.length_singleton]; omega
 asc := h.asc
 to j e x hj he hx := by
  rw [List.getElem?_append_left oM] at hx
  obtain ⟨k, y, h1, h2⟩ := h.to j e x hj he hx
  exact ⟨k, y, by rw [List.getElem?_append_left (gE h1).1]; exact h1, h2⟩
theorem ascM_snoc {l : List Mv} {m : Mv} (h : ascM l = true) (h2 : ∀ x ∈ l, cmpM x m < 0) : ascM (l ++ [m]) = true := by
 rw [ascM_iff] at h ⊢
 intro j x y hx hy
 rcases Nat.lt_or_ge (j + 1) l.length with h1 | h1
 ·rw [List.getElem?_append_left oM] at hx
  rw [List.getElem?_append_left h1] at hy
  exact h j x y hx hy
 ·rw [List.getElem?_append_right h1] at hy
  have h3 : j + 1 = l.length := by
   rcases Nat.eq_zero_or_pos (j + 1 - l.length) with h4 | h4
   ·omega
   ·rw [List.getElem?_eq_none (by simp; omega)] at hy; cases hy
  rw [h3, Nat.sub_self] at hy
  simp at hy; subst hy
  rw [List.getElem?_append_left oM] at hx
  exact h2 x (mG hx)
theorem ascI_snoc {l : LI} {m : Int} (h : ascI l = true) (h2 : ∀ x ∈ l, x < m) : ascI (l ++ [m]) = true := by
 rw [ascI_iff] at h ⊢
 intro j x y hx hy
 rcases Nat.lt_or_ge (j + 1) l.length with h1 | h1
 ·rw [List.getElem?_append_left oM] at hx
  rw [List.getElem?_append_left h1] at hy
  exact h j x y hx hy
 ·rw [List.getElem?_append_right h1] at hy
  have h3 : j + 1 = l.length := by
   rcases Nat.eq_zero_or_pos (j + 1 - l.length) with h4 | h4
   ·omega
   ·rw [List.getElem?_eq_none (by simp; omega)] at hy; cases hy
  rw [h3, Nat.sub_self] at hy
  simp at hy; subst hy
  rw [List.getElem?_append_left oM] at hx
  exact h2 x (mG hx)
theorem MovI.snoc {k : Nat} (h : MovI t c order i d mv) (hx : order[i]? = some x) (hd : (d : Int) < t.syms) (hk : order[k]? = some y) (hc : clA c y = clA c (t.to x d)) : MovI t c order i (d + 1) (mv ++ [⟨(i : Int), (k : Int), (d : Int)⟩]) where
 len := by rw [List.length_append, h.len]; simp; omega
 ok m hm := by
  have h4 := (gE hk).1
  rcases List.mem_append.1 hm with hm | hm
  ·have := h.ok m hm; omega
  ·simp at hm; subst hm; refine ⟨?_, .inr ⟨rfl, ?_⟩, ?_, ?_, ?_, hd⟩ <;> simp only <;> omega
 asc := ascM_snoc h.asc fun z hz => by
  have := h.ok z hz
  simp only [cmpM, cmpInt, orI]
  (repeat' split) <;> omega
 to j e z hj he hz := by
  by_cases hje : j = i ∧ e = d
  ·obtain ⟨rfl, rfl⟩ := hje
   rw [hx] at hz; cases hz
   exact ⟨k, y, hk, hc, by simp⟩
  ·obtain ⟨k', y', h1, h2, h3⟩ := h.to j e z oM he hz
   exact ⟨k', y', h1, h2, List.mem_append_left _ h3⟩
theorem MovI.next (h : MovI t c order i t.syms.toNat mv) : MovI t c order (i + 1) 0 mv where
 len := by rw [h.len, Nat.add_mul]; omega
 ok m hm := by have := h.ok m hm; omega
 asc := h.asc
 to j e x hj he hx := h.to j e x oM he hx
theorem FinM.start : FinM t order 0 [] := ⟨by simp, rfl, fun j x h => by omega, by simp⟩
theorem FinM.yes (h : FinM t order i fs) : FinM t order (i + 1) (fs ++ [(i : Int)]) where
 ok x hx := by
  rcases List.mem_append.1 hx with hx | hx
  ·have := h.ok x hx; omega
  ·simp at hx; omega
 asc := ascI_snoc h.asc fun x hx => (h.ok x hx).2
 at_ j x hj hx hf := by
  by_cases e : j = i
  ·subst e; simp
  ·exact List.mem_append_left _ (h.at_ j x oM hx hf)
 few := by have := h.few; simp; omega
theorem FinM.no (h : FinM t order i fs) (hx : order[i]? = some x) (hn : t.fin[x.toNat]? = some false) : FinM t order (i + 1) fs where
 ok x hx := by have := h.ok x hx; omega
 asc := h.asc
 at_ j y hj hy hf := by
  by_cases e : j = i
  ·subst e; rw [hx] at hy; cases hy; rw [hn] at hf; cases hf
  ·exact h.at_ j y oM hy hf
 few := by have := h.few; omega
theorem FinM.grow {to : Int} (h : FinM t order i fs) (hi : i ≤ order.length) : FinM t (order ++ [to]) i fs := { h with at_ := fun j x hj hx hf => h.at_ j x hj (by rwa [List.getElem?_append_left oM] at hx) hf }
theorem MovI.few (h : MovI t c order i d mv) (ht : TabOk t) (hi : i ≤ 2000) (hd : d ≤ 40) : mv.length ≤ 80040 := by
 have h1 := h.len
 have h2 := Nat.mul_le_mul hi (show t.syms.toNat ≤ 40 by have := ht.sy; omega)
 omega
theorem MinR.made (ht : TabOk t) (hc : ClassOk t c) (ho : OrdI t c order m) (hm : MovI t c order i 0 mv) (hf : FinM t order i fs) (hi : order.length = i) (h2 : mv.length ≤ 20000) : MinR t ⟨order.length, t.syms, [0], fs, mv⟩ where
 valid := by
  have hl := ho.len; have b7 := ht.len; have hp := ho.pos; have h6 := ht.sy
  refine validA_yes ?_ (fun j x hx => ?_) (ascM_iff.1 hm.asc)
  ·simp only [headA, statesB, Bool.and_eq_true, decide_eq_true_eq, List.all_eq_true, List.mem_singleton, forall_eq]
   exact ⟨⟨⟨⟨by omega, by omega, h6.1, h6.2⟩, h2⟩, ⟨by omega, by omega⟩, rfl⟩, fun x hx => by have := hf.ok x hx; omega, hf.asc⟩
  ·have := hm.ok x (mG hx)
   rw [okMv_iff]; simp only; omega
 syms := rfl
 order := by
  have b6 := hc.len
  have b4 : ∀ {x : Int}, 0 ≤ x ∧ x < (t.next.length : Int) → c[x.toNat]? = some (clA c x) := fun hx => at_getD oM
  refine ⟨c, order, hc, ho.rg, rfl, ⟨0, ho.head, by simp⟩, fun j x hx h7 => hf.at_ j x (by have := (gE hx).1; omega) hx h7, fun j e x he hx => ?_⟩
  have hj := (gE hx).1
  obtain ⟨k, y, h3, h4, h5⟩ := hm.to j e x oM he hx
  have h8 := ho.rg x (mG hx)
  have b5 := ho.rg y (mG h3)
  have h9 := ht.to_lt h8 (c := (e : Int)) ⟨by omega, he⟩
  exact ⟨k, y, h3, by rw [b4 b5, b4 h9, h4], h5⟩
end
end
section
open Go.Proofs.Tryz
attribute [local irreducible] TK Yl OpK AnyT wpList Code.wp
theorem mapL_len {κ β : Type} {f : κ → Value} {g : β → Value} {m : List (κ × β)} : (mapL f g m).length = m.length := by simp [mapL]
def sigP (c : LI) (s : Nat) (r : LI) (k : Nat) : LI := c.getD s 0 :: (r.take k).map fun u => c.getD u.toNat 0
theorem sigP_snoc {c r : LI} {k : Nat} (hu : r[k]? = some u) (hx : c[u.toNat]? = some x) : ((sigP c s r k).map fun x => Value.int .i64 x) ++ [.int .i64 x] = (sigP c s r (k + 1)).map fun x => Value.int .i64 x := by
 simp [sigP, List.take_add_one, hu, List.getD_eq_getElem?_getD, hx]
theorem sigP_all {t : Tab} {s k : Nat} (hr : t.next[s]? = some r) (hk : r.length ≤ k) : sigP c s r k = sigA t c s := by
 rw [sigP, sigA, List.take_of_length_le hk, List.getD_eq_getElem?_getD (l := t.next), hr, Option.getD_some]
theorem sigA_rg {t : Tab} {c : LI} (hc : ∀ x ∈ c, 0 ≤ x ∧ x ≤ 1000000) (s : Nat) : ∀ x ∈ sigA t c s, 0 ≤ x ∧ x ≤ 1000000 := by
 have hd : ∀ k, 0 ≤ c.getD k 0 ∧ c.getD k 0 ≤ 1000000 := fun k => by
  rw [List.getD_eq_getElem?_getD]
  cases h : c[k]? with
  | none => simp
  | some x => exact hc x (mG h)
 intro x hx
 simp only [sigA, List.mem_cons, List.mem_map] at hx
 rcases hx with rfl | ⟨u, _, rfl⟩
 ·exact hd _
 ·exact hd _
theorem c261 {t : Tab} (hT : TabH H) (ht : TabOk t) (h1 : Sl (rSl rInt) H t.next A n c) (h2 : Sl rBool H t.fin B m d) : Ct PP 261 #[.agg #[.int .i64 t.syms, .slice A n c, .slice B m d]] H [] fun v H' O' => O' = [] ∧ ∃ C k cl, v = .slice C n k ∧ Sl rInt H' cl C n k ∧ ClassOk t cl := by
 have hn := h1.len
 have hm := h2.len
 have k9 := ht.len
 have k8 := ht.fin
 refine cB func261 ntmps261 fun I hD hI n4 => ?_
 refine g2a ?_
 intros
 refine bG fun b2 => ?_
 refine g3a ?_
 intros
 refine tSeal (i := 0) rfl fun H4 e5 h8 => ?_
 have ⟨h1, h2, hT⟩ := mo3 e5 h1 h2 hT
 refine g4 ?_
 refine sq rfl (tMake uC iC rfl rfl rfl oM oM oM dC fun b7 => ?_)
 refine g4b ?_
 intros
 refine TK.eqO (O' := [.row 3 1 (.slice (ad b7) n n) n ((List.replicate n (0 : Int)).map fun x => Value.int .i64 x)]) (by simp [mapL]) ?_
 refine g7 ?_
 refine lp0 (fun D E H O m' => ∃ (i : Nat) (cl : LI), H4 = H ∧ (i ≤ m) ∧ (ClsS t i cl) ∧ m' = m - i ∧ O = [.row 3 1 (.slice (ad b7) n n) n ((cl).map fun x => Value.int .i64 x)] ∧ E = (23, .int .i64 (i : Int)) :: D) [1, 3, 21, 22] [0] ⟨0, List.replicate n 0, rfl, Nat.zero_le _, (by rw [← hn]; exact ClsS.zero), rfl, rfl, rfl⟩ ?_
 rintro _ _ _ _ ⟨i, cl, rfl, hi, hS, rfl, rfl, rfl⟩ _ d4
 have n2 := hS.1
 refine g5b ?_
 intros
 refine cD ?_ ?_ <;> intro k4
 refine g6b ?_
 intros
 obtain ⟨l0, d1⟩ := eX h2 i
 obtain ⟨n1, o8, j9, k0⟩ := h2.atB d1
 refine g9a ?_
 intros
 refine cN ?_ ?_ <;> intro d8
 refine g4 ?_
 refine sq rfl (tStoreRow1 (i := 0) (v := .int .i64 1) rfl sC rfl rfl rfl (by rw [List.length_map]; omega) ?_)
 try simp only [Int.toNat_natCast]
 rw [int_set]
 refine g4 ?_
 exact nK d4 ⟨i + 1, (cl).set i 1, rfl, oM, (hS.yes (by rw [d1, d8])), rfl, rfl, rfl⟩
 refine g4 ?_
 exact nK d4 ⟨i + 1, cl, rfl, oM, (hS.no (by rw [d1, d8])), rfl, rfl, rfl⟩
 refine g2a ?_
 intros
 have h9 := hS.done ht oM
 refine tR 0 (r := rInt) (ys := cl) (repsI cl) fun H1 d7 d2 => ?_
 have ⟨h8, h2, h1, hT⟩ := mo4 d7 h8 h2 h1 hT
 refine g4 ?_
 refine lp0 (fun D E H O m => ∃ (c0 : LI) (cnt : Nat) (Ac : OA) (kc : Nat), Ghost.le H1 H ∧ (Sl rInt H c0 Ac n kc) ∧ (ClsI t c0 cnt) ∧ m = n + 1 - cnt ∧ O = [] ∧ E = (3, .slice Ac n kc) :: (6, .int .i64 (cnt : Int)) :: D) [1] [] ⟨cl, 0, some ⟨b7, 0, none⟩, n, Ghost.le.refl _, d2, h9, rfl, rfl, rfl⟩ ?_
 rintro _ H3 _ _ ⟨c0, cnt, Ac, kc, b4, hc, h9, rfl, rfl, rfl⟩ _ e6
 have ⟨h8, d2, h2, h1, hT⟩ := mo5 b4 h8 d2 h2 h1 hT
 have k7 := hc.len
 have l5 := h9.nN
 refine g3a ?_
 intros
 refine sq rfl (tMakeMap dC fun j6 => ?_)
 refine g6a ?_
 intros
 refine sq rfl (tMake uC iC rfl rfl rfl oM oM oM dC fun d3 => ?_)
 refine g4b ?_
 intros
 refine eO2 (fun _ e1 => [.row 3 1 (.slice (ad d3) n n) n ((List.replicate n (0 : Int)).map fun x => Value.int .i64 x), e1]) ?_ (he := by simp [mapL])
 refine g7 ?_
 refine lp0 (fun D E H O m => ∃ (i2 : Nat) (mm : List (BA × Int)) (fr : LI), Ghost.le H3 H ∧ (i2 ≤ n) ∧ (NumI t c0 i2 mm fr) ∧ m = n - i2 ∧ O = [.row 3 1 (.slice (ad d3) n n) n ((fr).map fun x => Value.int .i64 x), .map j6 (mapL Value.string (Value.int .i64) mm)] ∧ E = (40, .int .i64 (i2 : Int)) :: D) [1, 3, 6, 7, 8, 38, 39] [0, 1] ⟨0, [], List.replicate n 0, Ghost.le.refl _, Nat.zero_le _, (NumI.zero (by simp [hn])), rfl, rfl, rfl⟩ ?_
 rintro _ H2 _ _ ⟨i2, mm, fr, h5, l6, e4, rfl, rfl, rfl⟩ _ d9
 have ⟨h8, hc, h1, h2, hT⟩ := mo5 h5 h8 hc h1 h2 hT
 have l9 := e4.len
 refine g5b ?_
 intros
 refine cD ?_ ?_ <;> intro k3
 refine g6b ?_
 intros
 obtain ⟨e8, d6⟩ := eX h1 i2
 obtain ⟨l8, o5, j8, k6, f8, j4⟩ := h1.at_ d6
 obtain ⟨A1, n0, c66, rfl, h7⟩ := f8
 refine g9a ?_
 intros
 obtain ⟨j1, e0⟩ := eX hc i2
 obtain ⟨l1, o7, j5, i6⟩ := hc.atI e0
 refine g2 ?_
 refine sq rfl (bS [.int .i64 j1] fun f9 => ?_)
 refine g10b ?_
 intros
 have d0 := d6
 have n5 := h7.len
 have l3 := ht.row _ (mG d0)
 have l4 := ht.sy
 refine eO3 (fun _ _ e2 => [.row 3 1 (.slice (ad f9) 1 1) 1 ((sigP c0 i2 e8 0).map fun x => Value.int .i64 x), .row 3 1 (.slice (ad d3) n n) n ((fr).map fun x => Value.int .i64 x), e2]) ?_ (he := by simp [sigP, List.getD_eq_getElem?_getD, e0])
 refine lp2 (fun D f f1 E H O m => ∃ (k : Nat) (Al : OA) (cL : Nat), H2 = H ∧ (k ≤ n0) ∧ m = n0 - k ∧ O = [.row 3 1 (.slice Al (k + 1) cL) (k + 1) ((sigP c0 i2 e8 k).map fun x => Value.int .i64 x), f, f1] ∧ E = (11, .slice Al (k + 1) cL) :: (52, .int .i64 (k : Int)) :: D) [1, 3, 6, 7, 8, 9, 38, 39, 40, 50, 51] [0, 1, 2] ⟨0, some ⟨f9, 0, none⟩, 1, rfl, Nat.zero_le _, rfl, rfl, rfl⟩ ?_
 rintro _ _ _ _ ⟨k, Al, cL, rfl, hk, rfl, rfl, rfl⟩ _ e9
 refine g5b ?_
 intros
 refine cD ?_ ?_ <;> intro j2
 refine g5b ?_
 intros
 obtain ⟨j0, c1⟩ := eX h7 k
 obtain ⟨l2, o6, i8, j7⟩ := h7.atI c1
 refine g4 ?_
 have l7 := ht.to _ (mG d0) _ (mG c1)
 refine g4 ?_
 obtain ⟨k5, d5⟩ := Sl.ex hc (i := (j0 : Int).toNat) oM
 obtain ⟨n3, o4, k2, i4⟩ := hc.atI d5
 refine g2 ?_
 refine sq rfl (bS [.int .i64 k5] fun j3 => ?_)
 refine sq rfl (aR 1 fun A0 c103 => ?_)
 rw [sigP_snoc c1 d5]
 refine g5 ?_
 exact nK e9 ⟨k + 1, A0, c103, rfl, oM, rfl, rfl, rfl⟩
 refine g2a ?_
 intros
 have i7 : sigP c0 i2 e8 k = sigA t c0 i2 := sigP_all d0 oM
 refine eO3 (fun _ _ e2 => [.row 3 1 (.slice Al (k + 1) cL) (k + 1) ((sigA t c0 i2).map fun x => Value.int .i64 x), .row 3 1 (.slice (ad d3) n n) n ((fr).map fun x => Value.int .i64 x), e2]) ?_ (he := by rw [i7])
 refine tR 0 (r := rInt) (ys := (sigA t c0 i2)) (repsI _) fun H5 h4 b9 => ?_
 have ⟨h8, hc, h1, h7, h2, hT⟩ := mo6 h4 h8 hc h1 h7 h2 hT
 refine g3 ?_
 refine sq rfl (fS hD rfl call260 rfl (c260 hT b9 oM (sigA_rg (fun x hx => by have := h9.rg x hx; omega) i2)) ?_)
 rintro v1 rfl
 refine q (yLookupOk (k := keyA (sigA t c0 i2)) (g := (Value.int .i64)) (z := 0) (i := 1) uC (keyStr uC) nC rfl rfl rfl) rfl rfl rfl ?_
 refine g12b ?_
 intros
 refine cN ?_ ?_ <;> intro b8
 have i9 : mget mm (keyA (sigA t c0 i2)) = none := by simpa using b8
 refine g6a ?_
 intros
 rw [mapL_len]
 refine g3 ?_
 refine sq rfl (fS hD rfl call260 rfl (c260 hT b9 oM (sigA_rg (fun x hx => by have := h9.rg x hx; omega) i2)) ?_)
 rintro v0 rfl
 refine g1 ?_
 refine sq rfl (tMapUpd (m := mm) (k := keyA (sigA t c0 i2)) (g := (Value.int .i64)) (v := (mm.length : Int)) (i := 1) uC (keyStr uC) rfl rfl rfl rfl ?_)
 refine g6 ?_
 refine sq rfl (tStoreRow1 (i := 0) (v := .int .i64 (mm.length : Int)) rfl sC rfl rfl rfl (by rw [List.length_map]; omega) ?_)
 try simp only [Int.toNat_natCast]
 rw [int_set]
 refine g4 ?_
 exact nK d9 ⟨i2 + 1, mput mm (keyA (sigA t c0 i2)) (mm.length : Int), (fr).set i2 (mm.length : Int), (h5.trans h4), oM, (e4.new oM i9), rfl, rfl, rfl⟩
 obtain ⟨nv, i5⟩ := Option.isSome_iff_exists.1 (show (mget mm (keyA (sigA t c0 i2))).isSome = true by simpa using b8)
 refine g1 ?_
 have e7 := i5
 rw [i5, Option.getD_some]
 refine g5 ?_
 refine sq rfl (tStoreRow1 (i := 0) (v := .int .i64 nv) rfl sC rfl rfl rfl (by rw [List.length_map]; omega) ?_)
 try simp only [Int.toNat_natCast]
 rw [int_set]
 refine g4 ?_
 exact nK d9 ⟨i2 + 1, mm, (fr).set i2 nv, (h5.trans h4), oM, (e4.old oM e7), rfl, rfl, rfl⟩
 refine g8c ?_
 intros
 have e3 := e4.done oM (fun x hx => (h9.rg x hx).1)
 refine tR 0 (r := rInt) (ys := fr) (repsI fr) fun H0 h6 b5 => ?_
 have ⟨h8, h1, h2, hT, hc⟩ := mo5 h6 h8 h1 h2 hT hc
 refine g6 ?_
 refine cD ?_ ?_ <;> intro b6
 rw [mapL_len] at b6
 refine g5a ?_
 intros
 refine kP [] ?_
 refine rT results261 ?_
 have k1 : cnt = mm.length := by omega
 rw [k1] at h9
 exact ⟨rfl, _, _, _, rfl, b5, ClsI.done ht h9 e3⟩
 rw [mapL_len] at b6
 refine g5 ?_
 simp only [mapL_len]
 exact nK e6 ⟨fr, mm.length, some ⟨d3, 0, none⟩, n, ((b4.trans h5).trans h6), b5, (h9.next e3 ht.len.2), rfl, rfl, rfl⟩ (hm := by have := e3.le h9; have := e3.nN; omega)
def AutO (R : Auto → Prop) : Value → Ghost → List HL → Prop := fun v H' O' => O' = [] ∧ ∃ (b : Auto) (A1 : OA) (n1 k1 : Nat) (A2 : OA) (n2 k2 : Nat) (A3 : OA) (n3 k3 : Nat) (e : Int), v = .tuple #[.agg #[.int .i64 b.states, .int .i64 b.syms, .slice A1 n1 k1, .slice A2 n2 k2, .slice A3 n3 k3], .int .i64 e] ∧ (e = 13 ∨ e = 0 ∧ Sl rInt H' b.start A1 n1 k1 ∧ Sl rInt H' b.final A2 n2 k2 ∧ Sl rMv H' b.moves A3 n3 k3 ∧ R b)
theorem at_snoc {α : Type} {l : List α} {i : Nat} {x y : α} (h : l[i]? = some x) : (l ++ [y])[i]? = some x := by rw [List.getElem?_append_left (gE h).1]; exact h
theorem c215 {t : Tab} (hT : TabH H) (ht : TabOk t) (h1 : Sl (rSl rInt) H t.next A n c) (h2 : Sl rBool H t.fin B m d) : Ct PP 215 #[.agg #[.int .i64 t.syms, .slice A n c, .slice B m d]] H [] (AutO (MinR t)) := by
 have hn := h1.len
 have hm := h2.len
 have r1 := ht.len
 have o9 := ht.fin
 have k9 := ht.sy
 refine cB func215 ntmps215 fun I hD hI t2 => ?_
 refine g2a ?_
 intros
 refine bG fun b2 => ?_
 refine aL fun b3 => ?_
 refine g3a ?_
 intros
 refine tSeal (i := 1) rfl fun H5 j7 h7 => ?_
 have ⟨h1, h2, hT⟩ := mo3 j7 h1 h2 hT
 refine g2 ?_
 refine sq rfl (fP hD rfl call261 rfl (c261 hT ht h1 h2) ?_)
 rintro v0 H8 ⟨C, kc, cl, rfl, hc, l4⟩ j6
 have ⟨h1, h2, h7, hT⟩ := mo4 j6 h1 h2 h7 hT
 have o7 := hc.len
 refine g4a ?_
 intros
 refine sq rfl (tMakeMap dC fun e9 => ?_)
 refine g1 ?_
 have j5 := (show cl[0]? = some (clA cl 0) from at_getD oM)
 obtain ⟨s6, s9, l6, n5⟩ := hc.atI j5
 refine g2 ?_
 refine sq rfl (tInsert (m := ([] : List (Int × Int))) (k := (clA cl 0)) (g := (Value.int .i64)) (v := 0) (i := 0) uC (keyInt uC) rfl rfl rfl rfl ?_)
 refine g5a ?_
 intros
 refine sq rfl (bS [.int .i64 0] fun k1 => ?_)
 refine g6a ?_
 intros
 refine sq rfl (bS [.int .i64 0] fun d5 => ?_)
 refine g1 ?_
 refine aL fun f9 => ?_
 refine sG 0 ?_
 refine g3b ?_
 intros
 refine newRow 3 1 ?_
 refine newRow 166 3 ?_
 refine eO7 (fun _ _ e2 _ _ e5 e6 => [.row 166 3 (.slice none 0 0) 0 (mvC ([] : List Mv)), .row 3 1 (.slice none 0 0) 0 ((([] : LI)).map fun x => Value.int .i64 x), e2, .row 3 1 (.slice (ad d5) 1 1) 1 [.int .i64 0], .row 3 1 (.slice (ad k1) 1 1) 1 (([(0 : Int)]).map fun x => Value.int .i64 x), e5, e6]) ?_ (he := by simp [mvC])
 refine g4 ?_
 refine lp2 (fun D f f1 E H O m => ∃ (i : Nat) (or : LI) (m1 : List (Int × Int)) (fs : LI) (mv : List Mv) (Ao : OA) (no co : Nat) (Af : OA) (nf cf : Nat) (Am : OA) (nm cm : Nat), H8 = H ∧ (i ≤ no) ∧ (or.length = no) ∧ (OrdI t cl or m1) ∧ (MovI t cl or i 0 mv) ∧ (FinM t or i fs) ∧ (mv.length = nm) ∧ (fs.length = nf) ∧ m = n - i ∧ O = [.row 166 3 (.slice Am nm cm) nm (mvC mv), .row 3 1 (.slice Af nf cf) nf ((fs).map fun x => Value.int .i64 x), .blk f9 84 [.int .i64 0, .int .i64 t.syms, .slice (ad d5) 1 1, .slice Af nf cf, .slice Am nm cm], f, .row 3 1 (.slice Ao no co) no ((or).map fun x => Value.int .i64 x), .map e9 (mapL (Value.int .i64) (Value.int .i64) m1), f1] ∧ E = (6, .slice Ao no co) :: (8, .int .i64 (i : Int)) :: D) [1, 2, 4, 5, 7] [0, 1, 2, 3, 4, 5, 6] ⟨0, [0], mput [] (clA cl 0) 0, [], [], some ⟨k1, 0, none⟩, 1, 1, none, 0, 0, none, 0, 0, rfl, Nat.zero_le _, rfl, (OrdI.start oM), MovI.start, FinM.start, rfl, rfl, rfl, rfl, rfl⟩ ?_
 rintro _ _ _ _ ⟨i, or, m1, fs, mv, Ao, no, co, Af, nf, cf, Am, nm, cm, rfl, hi, j9, hO, hM, hF, n9, k5, rfl, rfl, rfl⟩ _ i6
 have t3 := hO.len
 have r4 := hM.few ht oM oM
 have s0 := hF.few
 refine g8b ?_
 intros
 refine cD ?_ ?_ <;> intro l8
 refine g3a ?_
 intros
 refine TK.seq fun K0 j2 => ?_
 obtain ⟨x, hx⟩ := ex_i (l := or) (i := i) oM
 have o8 := hO.rg x (mG hx)
 refine row_addr (i := 4) rfl oM fun j0 i7 => ?_
 subst i7
 have e1 : ∀ (f8 : LI) (A1 : OA) (n2 e0 : Nat) (k3 : FinM t or (i + 1) f8) (d7 : f8.length = n2), TK 101 I K0 [(1, .pointer (ad b2)), (2, .pointer (ad b3)), (4, .slice C n kc), (5, .map (some e9)), (6, .slice (ad j0) no co), (7, .pointer (ad f9)), (8, .int .i64 (i : Int))] H8 [.row 166 3 (.slice Am nm cm) nm (mvC mv), .row 3 1 (.slice A1 n2 e0) n2 ((f8).map fun x => Value.int .i64 x), .blk f9 84 [.int .i64 0, .int .i64 t.syms, .slice (ad d5) 1 1, .slice A1 n2 e0, .slice Am nm cm], .row 3 1 (.slice (ad d5) 1 1) 1 [.int .i64 0], .row 3 1 (.slice (ad j0) no co) no ((or).map fun x => Value.int .i64 x), .map e9 (mapL (Value.int .i64) (Value.int .i64) m1), .blk b3 84 [.int .i64 0, .int .i64 0, .slice none 0 0, .slice none 0 0, .slice none 0 0]] := by
  intro f8 A1 n2 e0 k3 d7
  refine j2 _ _ _ ?_
  refine g1a ?_
  intros
  refine ts 10 fun _ => ?_
  refine tj 0 ?_
  refine g4 ?_
  refine tk 5 rfl kR aS nP kS (yLoad1 aC rfl (Mem.row1 (i := 4) rfl (by rw [Nat.zero_add, Nat.mul_one, List.getElem?_map, Int.toNat_natCast, hx]; rfl))) rfl rfl rfl ?_
  obtain ⟨s3, d6⟩ := Sl.ex h1 (i := (x : Int).toNat) oM
  obtain ⟨s4, o5, k8, n7, j3, k6⟩ := h1.at_ d6
  obtain ⟨A7, n3, c54, rfl, b7⟩ := j3
  refine g7 ?_
  have b8 := d6
  have t4 := b7.len
  have r9 := ht.row _ (mG b8)
  have s2 := ht.sy
  refine lp3 (fun D f f1 f2 E H O m => ∃ (k : Nat) (o4 : LI) (m2 : List (Int × Int)) (b5 : List Mv) (A0 : OA) (n0 d3 : Nat) (A2 : OA) (n1 e4 : Nat), H8 = H ∧ (k ≤ n3) ∧ (o4.length = n0) ∧ (OrdI t cl o4 m2) ∧ (MovI t cl o4 i k b5) ∧ (FinM t o4 (i + 1) f8) ∧ (b5.length = n1) ∧ (o4[i]? = some x) ∧ (i < n0) ∧ m = n3 - k ∧ O = [.row 166 3 (.slice A2 n1 e4) n1 (mvC b5), f, .blk f9 84 [.int .i64 0, .int .i64 t.syms, .slice (ad d5) 1 1, .slice A1 n2 e0, .slice A2 n1 e4], f1, .row 3 1 (.slice A0 n0 d3) n0 ((o4).map fun x => Value.int .i64 x), .map e9 (mapL (Value.int .i64) (Value.int .i64) m2), f2] ∧ E = (6, .slice A0 n0 d3) :: (54, .int .i64 (k : Int)) :: D) [1, 2, 4, 5, 7, 8, 52, 53] [0, 1, 2, 3, 4, 5, 6] ⟨0, or, m1, mv, some ⟨j0, 0, none⟩, no, co, Am, nm, cm, rfl, Nat.zero_le _, j9, hO, hM, k3, n9, hx, oM, rfl, rfl, rfl⟩ ?_
  rintro _ _ _ _ ⟨k, o4, m2, b5, A0, n0, d3, A2, n1, e4, rfl, hk, h6, c1, d4, i5, b9, d0, r0, rfl, rfl, rfl⟩ _ d1
  have k7 := c1.len
  have n6 := d4.few ht oM oM
  refine g5b ?_
  intros
  refine cD ?_ ?_ <;> intro l2
  refine g6b ?_
  intros
  obtain ⟨b4, c0⟩ := eX b7 k
  obtain ⟨s7, o6, l0, l3⟩ := b7.atI c0
  refine g6a ?_
  intros
  have l1 := ht.to _ (mG b8) _ (mG c0)
  have i4 := Tab.to_at b8 c0
  rw [show ((x.toNat : Nat) : Int) = x by omega] at i4
  refine g4 ?_
  have j4 := (show cl[(b4 : Int).toNat]? = some (clA cl b4) from at_getD oM)
  obtain ⟨s5, r7, l7, l5⟩ := hc.atI j4
  refine g2 ?_
  refine q (yLookupOk (k := (clA cl b4)) (g := (Value.int .i64)) (z := 0) (i := 5) uC (keyInt uC) nC rfl rfl rfl) rfl rfl rfl ?_
  refine g12b ?_
  intros
  refine cN ?_ ?_ <;> intro d8
  refine g12b ?_
  intros
  refine g2 ?_
  refine sq rfl (tMapUpd (m := m2) (k := (clA cl b4)) (g := (Value.int .i64)) (v := (n0 : Int)) (i := 5) uC (keyInt uC) rfl rfl rfl rfl ?_)
  refine g4 ?_
  refine sq rfl (bS [.int .i64 b4] fun r3 => ?_)
  refine sq rfl (aR 5 fun A4 c87 => ?_)
  rw [ints_snoc]
  refine g2 ?_
  have l9 : mget m2 (clA cl b4) = none := by simpa using d8
  have e8 := c1.add l1 l9
  rw [h6] at e8
  have i9 := d4.grow (to := b4) oM
  have j1 := i5.grow (to := b4) oM
  have d0 := at_snoc (y := b4) d0
  have i8 : (o4 ++ [b4])[n0]? = some b4 := by rw [← h6]; simp
  have e7 : clA cl b4 = clA cl (t.to x k) := by rw [i4]
  refine g7 ?_
  refine sq rfl (bS [.int .i64 (i : Int), .int .i64 (n0 : Int), .int .i64 (k : Int)] fun r6 => ?_)
  refine sq rfl (aR 2 fun A5 c90 => ?_)
  rw [mvC_snoc]
  refine g1 ?_
  refine sU 4 ?_
  refine g4 ?_
  exact nK d1 ⟨k + 1, o4 ++ [b4], mput m2 (clA cl b4) (n0 : Int), b5 ++ [⟨(i : Int), (n0 : Int), (k : Int)⟩], A4, (n0 + 1), c87, A5, n1 + 1, c90, rfl, oM, (by simp [h6]), e8, (i9.snoc (x := x) d0 oM i8 e7), j1, (by simp [b9]), d0, oM, rfl, rfl, rfl⟩
  refine g1 ?_
  obtain ⟨vv, j8⟩ := Option.isSome_iff_exists.1 (show (mget m2 (clA cl b4)).isSome = true by simpa using d8)
  obtain ⟨kk, yy, rfl, i8, e7⟩ := c1.fw _ _ j8
  rw [j8, Option.getD_some]
  have e8 := c1
  have i9 := d4
  have j1 := i5
  rw [← i4] at e7
  refine g7 ?_
  refine sq rfl (bS [.int .i64 (i : Int), .int .i64 (kk : Int), .int .i64 (k : Int)] fun r8 => ?_)
  refine sq rfl (aR 1 fun A6 c93 => ?_)
  rw [mvC_snoc]
  refine g1 ?_
  refine sU 3 ?_
  refine g4 ?_
  exact nK d1 ⟨k + 1, o4, m2, b5 ++ [⟨(i : Int), (kk : Int), (k : Int)⟩], A0, n0, d3, A6, n1 + 1, c93, rfl, oM, h6, e8, (i9.snoc (x := x) d0 oM i8 e7), j1, (by simp [b9]), d0, oM, rfl, rfl, rfl⟩
  refine g5 ?_
  exact nK i6 ⟨i + 1, o4, m2, f8, b5, A0, n0, d3, A1, n2, e0, A2, n1, e4, rfl, oM, h6, c1, (by rw [show k = t.syms.toNat by omega] at d4; exact d4.next), i5, b9, d7, rfl, rfl, rfl⟩ (hm := by have := c1.len; omega)
 refine g1a ?_
 intros
 refine ts 8 fun _ => ?_
 refine tj 0 ?_
 refine g4 ?_
 refine tk 5 rfl kR aS nP kS (yLoad1 aC rfl (Mem.row1 (i := 4) rfl (by rw [Nat.zero_add, Nat.mul_one, List.getElem?_map, Int.toNat_natCast, hx]; rfl))) rfl rfl rfl ?_
 obtain ⟨t1, d2⟩ := Sl.ex h2 (i := (x : Int).toNat) oM
 obtain ⟨s8, r5, k4, k0⟩ := h2.atB d2
 refine g4 ?_
 refine cN ?_ ?_ <;> intro e3
 refine g4 ?_
 refine sq rfl (bS [.int .i64 (i : Int)] fun n4 => ?_)
 refine sq rfl (aR 2 fun A3 c105 => ?_)
 rw [ints_snoc]
 refine g1 ?_
 refine sU 3 ?_
 exact jN (e1 (fs ++ [(i : Int)]) A3 (nf + 1) c105 hF.yes (by simp [k5]))
 exact jS (e1 fs Af nf cf (hF.no hx (by rw [d2, e3])) k5)
 refine g6a ?_
 intros
 refine sU 2 ?_
 refine g9b ?_
 intros
 refine cD ?_ ?_ <;> intro k2
 refine g3a ?_
 intros
 refine sG 6 ?_
 refine g2 ?_
 refine rD 6 [] results215 ?_
 exact ⟨rfl, ⟨0, 0, [], [], []⟩, _, _, _, _, _, _, _, _, _, _, rfl, .inl rfl⟩
 refine g4a ?_
 intros
 refine sG 6 ?_
 refine g2 ?_
 have n8 := MinR.made ht l4 hO hM hF oM oM
 refine tR 3 (repsI [0]) fun H0 b6 h4 => ?_
 have ⟨h7, hc⟩ := mo2 b6 h7 hc
 refine tR 1 (r := rInt) (ys := fs) (repsI fs) fun H2 h8 h5 => ?_
 have ⟨h7, hc, h4⟩ := mo3 h8 h7 hc h4
 refine tR 0 (r := rMv) (ys := mv) (mv_reps mv) fun H1 h9 d9 => ?_
 have ⟨h7, hc, h4, h5⟩ := mo4 h9 h7 hc h4 h5
 refine rD 3 [] results215 ?_
 exact ⟨rfl, ⟨or.length, t.syms, [0], fs, mv⟩, _, _, _, _, _, _, _, _, _, _, by rw [j9]; rfl, .inr ⟨rfl, h4, h5, d9, n8⟩⟩
end
end Go.Proofs.YtookcfeogbeooaaGreatDoor
