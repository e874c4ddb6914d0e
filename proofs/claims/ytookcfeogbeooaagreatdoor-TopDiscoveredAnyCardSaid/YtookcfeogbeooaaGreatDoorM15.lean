/-
Cuts. Cuts, 2. Cuts, 3. strings.Builder. strings.Join.
Conditions: those that each theorem states.
-/
import Derived.Test.YtookcfeogbeooaaGreatDoorM14
set_option linter.all false
set_option maxRecDepth 100000
set_option maxHeartbeats 8000000
set_option autoImplicit true
set_option relaxedAutoImplicit true
namespace Go.Proofs.YtookcfeogbeooaaGreatDoor
open Go Go.Proofs
section
open Go.Proofs.Tryz
attribute [local irreducible] TK Yl OpK AnyT wpList Code.wp
theorem c153b {g : Dfg} (h1 : Sl rCnt H g.acts A1 n1 k1) (h2 : Sl rCnt H g.starts A2 n2 k2) (h3 : Sl rCnt H g.ends A3 n3 k3) (h4 : Sl rFlw H g.follows A4 n4 k4) (b1 : n1 ≤ 1000000) (b2 : n2 ≤ 1000000) (b3 : n3 ≤ 1000000) {names : LB} (hnm : g.acts.map (·.name) = names) : Ct PP 153 #[.agg #[.slice A1 n1 k1, .slice A2 n2 k2, .slice A3 n3 k3, .slice A4 n4 k4]] H [] fun v H' O' => O' = [] ∧ ∃ p e, v = .tuple #[.pointer p, .int .i64 e] ∧ (e = 0 → okG g) ∧ BegR H' p e n1 names :=
 (c153 h1 h2 h3 h4 b1 b2 b3).mono fun v H' O' _ h => by
  obtain ⟨h0, h⟩ := h
  refine ⟨h0, ?_⟩
  rcases h with rfl | ⟨hok, b, A, B, S, F, c, d, e, f, M, st, en, rfl, hR⟩
  ·exact ⟨_, _, rfl, (fun h => by cases h), .inl ⟨rfl, rfl⟩⟩
  ·exact ⟨_, _, rfl, (fun _ => hok), .inr ⟨rfl, b, A, B, S, F, c, d, e, f, M, st, en, rfl, hnm ▸ hR⟩⟩
theorem made_res {names : LB} {k n : Nat} {C : List LI} {kind e : Int} {cs : LV} (hk : 1 ≤ kind ∧ kind ≤ 4) (hlen : names.length = k) (hin : ∀ cl ∈ C, ∀ i ∈ cl, 0 ≤ i ∧ i < (k : Int)) (h2 : ∃ q P n p, cs = [.int .i64 q, .slice P n p]) (h : e = 10 ∨ e = 0 ∧ 2 ≤ n ∧ ∃ P p, cs = [.int .i64 kind, .slice P n p] ∧ Sl (rSl rStr) H (C.map fun cl => cl.map (nameAt names)) P n p) : CutR names H cs e := by
 rcases h with rfl | ⟨rfl, _, P, p, rfl, h⟩
 ·exact .zero h2 dC
 ·exact made_good hk hlen hin h
theorem c105 {g : Dfg} (h1 : Sl rCnt H g.acts A1 n1 k1) (h2 : Sl rCnt H g.starts A2 n2 k2) (h3 : Sl rCnt H g.ends A3 n3 k3) (h4 : Sl rFlw H g.follows A4 n4 k4) (b1 : n1 ≤ 1000000) (b2 : n2 ≤ 1000000) (b3 : n3 ≤ 1000000) {names : LB} (hnm : g.acts.map (·.name) = names) : Ct PP 105 #[.agg #[.slice A1 n1 k1, .slice A2 n2 k2, .slice A3 n3 k3, .slice A4 n4 k4]] H [] fun v H' O' => O' = [] ∧ ∃ cs e, v = .tuple #[.agg cs.toArray, .int .i64 e] ∧ CutR names H' cs e := by
 have i4 := b1
 have i8 := b2
 have i5 := b3
 have f9 := b1
 have e3 := b2
 have f8 := b3
 refine cB func105 ntmps105 fun I hD hI j0 => ?_
 refine g2a ?_
 intros
 refine bG fun b2 => ?_
 refine aL fun b3 => ?_
 refine g5a ?_
 intros
 refine sq rfl (fP hD rfl call153 rfl (c153b h1 h2 h3 h4 f9 e3 f8 hnm) ?_)
 rintro v3 H9 ⟨p5, e6, rfl, d8, d2⟩ d7
 have ⟨h1, h2, h3, h4⟩ := mo4 d7 h1 h2 h3 h4
 refine g3 ?_
 refine aL fun e8 => ?_
 refine sU 0 ?_
 refine g8b ?_
 intros
 refine cN ?_ ?_ <;> intro d6
 have d9 : e6 ≠ 0 := by simpa using d6
 refine g4a ?_
 intros
 refine sG 1 ?_
 refine g2 ?_
 refine rD 1 [] results105 ?_
 exact ⟨rfl, _, _, rfl, .zero ⟨_, _, _, _, rfl⟩ d9⟩
 have d9 : e6 = 0 := by simpa using d6
 subst d9
 rcases d2 with ⟨h1e, _⟩ | ⟨_, rb, RA, RB, RS, RF, rc, rd, re, rf, RM, rst, ren, hpe, hR⟩
 ·exact absurd h1e dC
 subst hpe
 have b7 := hR.cells
 have b6 := hR.names
 have c0 := hR.edge
 have i9 := hR.square
 have b8 := hR.start
 have b9 := hR.fin
 have e4 : n1 ≤ 40 := by have := (d8 rfl).1; have := h1.len; omega
 have e7 := b6.len
 refine tSeal (i := 0) rfl fun H1 d5 h5 => ?_
 have ⟨h1, h2, h3, h4, b7, hR, b6, c0, b8, b9⟩ := mo10 d5 h1 h2 h3 h4 b7 hR b6 c0 b8 b9
 have hz := h5
 refine g2a ?_
 intros
 refine ts 8 fun d0 => ?_
 refine tj 0 ?_
 refine g1 ?_
 refine tj 3 ?_
 refine oI 2 rfl kR (fP hD rfl call156 rfl (c156 hR oM) ?_)
 rintro v2 H0 ⟨C0, i7, rfl, h8⟩ h6
 have ⟨h1, h2, h3, h4, b7, h5, hR, b6, c0, b8, b9⟩ := mo11 h6 h1 h2 h3 h4 b7 h5 hR b6 c0 b8 b9
 refine ta_next (kG h6) ?_
 refine oI 4 rfl kR (fO hD [] [0, 1] rfl call155 rfl (c155 (f := 157) (caps := [.pointer (ad e8)]) (g := fun a b => at2 RM a.toNat b.toNat) h8 oM call157 (cl157 hR h5 (fun x hx => upTo_mem.1 hx))) ?_)
 rintro v0 H4 O1 ⟨o4, A0, k0, c31, e9, rfl, rfl, d3, h9, e2, e1⟩ h7
 have ⟨h1, h2, h3, h4, b7, h5, h8, hR, b6, c0, b8, b9⟩ := mo12 h7 h1 h2 h3 h4 b7 h5 h8 hR b6 c0 b8 b9
 refine ta_next (kG (h6.trans h7)) ?_
 refine tR 0 d3 fun H2 b5 c1 => ?_
 have ⟨h1, h2, h3, h4, b7, h5, h8, hR, b6, c0, b8, b9⟩ := mo12 b5 h1 h2 h3 h4 b7 h5 h8 hR b6 c0 b8 b9
 refine oI 5 rfl kR (fP hD rfl call154 rfl (c154 hR c1 ⟨by omega, fun cl d1 => by have := h9.clen cl d1; rw [upTo_len] at this; omega⟩ (fun cl d1 i hi => upTo_mem.1 (h9.mem cl d1 i hi))) ?_)
 rintro v1 H3 ⟨e5, i6, rfl, d4, e0⟩ b4
 have ⟨h1, h2, h3, h4, b7, h5, h8, c1, hR, b6, c0, b8, b9⟩ := mo13 b4 h1 h2 h3 h4 b7 h5 h8 c1 hR b6 c0 b8 b9
 have hC := made_res dC e7 (fun cl d1 i hi => upTo_mem.1 (h9.mem cl d1 i hi)) d4 e0
 obtain ⟨u0, A5, n0, c54, rfl⟩ := d4
 refine ta_next (keeps [0, 1] dC rfl (((h6.trans h7).trans b5).trans b4)) ?_
 refine tk 6 rfl kR d0 (np_then np_fin) (keeps [0, 1] dC rfl (((h6.trans h7).trans b5).trans b4)) (yExtract rfl rfl) rfl rfl rfl ?_
 refine tk 7 rfl kR d0 (np_then np_fin) (keeps [0, 1] dC rfl (((h6.trans h7).trans b5).trans b4)) (yExtract rfl rfl) rfl rfl rfl ?_
 refine g1 ?_
 refine sG 0 ?_
 refine g2 ?_
 refine rD 0 [] results105 ?_
 exact ⟨rfl, _, _, rfl, hC⟩
theorem c106 {g : Dfg} (h1 : Sl rCnt H g.acts A1 n1 k1) (h2 : Sl rCnt H g.starts A2 n2 k2) (h3 : Sl rCnt H g.ends A3 n3 k3) (h4 : Sl rFlw H g.follows A4 n4 k4) (b1 : n1 ≤ 1000000) (b2 : n2 ≤ 1000000) (b3 : n3 ≤ 1000000) {names : LB} (hnm : g.acts.map (·.name) = names) : Ct PP 106 #[.agg #[.slice A1 n1 k1, .slice A2 n2 k2, .slice A3 n3 k3, .slice A4 n4 k4]] H [] fun v H' O' => O' = [] ∧ ∃ cs e, v = .tuple #[.agg cs.toArray, .int .i64 e] ∧ CutR names H' cs e := by
 have j1 := b1
 have j7 := b2
 have j2 := b3
 have j0 := b1
 have e8 := b2
 have i8 := b3
 refine cB func106 ntmps106 fun I hD hI k5 => ?_
 refine g2a ?_
 intros
 refine bG fun b2 => ?_
 refine aL fun b3 => ?_
 refine g5a ?_
 intros
 refine sq rfl (fP hD rfl call153 rfl (c153b h1 h2 h3 h4 j0 e8 i8 hnm) ?_)
 rintro v4 H9 ⟨p5, e6, rfl, e1, c1⟩ e0
 have ⟨h1, h2, h3, h4⟩ := mo4 e0 h1 h2 h3 h4
 refine g12b ?_
 intros
 refine cN ?_ ?_ <;> intro d1
 have e3 : e6 ≠ 0 := by simpa using d1
 refine g4a ?_
 intros
 refine sG 0 ?_
 refine g2 ?_
 refine rD 0 [] results106 ?_
 exact ⟨rfl, _, _, rfl, .zero ⟨_, _, _, _, rfl⟩ e3⟩
 have e3 : e6 = 0 := by simpa using d1
 subst e3
 rcases c1 with ⟨h1e, _⟩ | ⟨_, rb, RA, RB, RS, RF, rc, rd, re, rf, RM, rst, ren, hpe, hR⟩
 ·exact absurd h1e dC
 subst hpe
 have b4 := hR.cells
 have h9 := hR.names
 have b7 := hR.edge
 have j8 := hR.square
 have b5 := hR.start
 have b6 := hR.fin
 have e9 : n1 ≤ 40 := by have := (e1 rfl).1; have := h1.len; omega
 have i5 := h9.len
 refine g4a ?_
 intros
 refine sq rfl (fP hD rfl call158 rfl (c158 hR oM) ?_)
 rintro v3 H2 ⟨T, C1, j4, rfl, hT, d3, f9⟩ d5
 have ⟨h1, h2, h3, h4, b4, hR, h9, b7, b5, b6⟩ := mo10 d5 h1 h2 h3 h4 b4 hR h9 b7 b5 b6
 refine aL fun e4 => ?_
 refine sU 0 ?_
 refine g3a ?_
 intros
 refine tSeal (i := 0) rfl fun H4 d9 h6 => ?_
 have ⟨h1, h2, h3, h4, b4, hT, hR, h9, b7, b5, b6⟩ := mo11 d9 h1 h2 h3 h4 b4 hT hR h9 b7 b5 b6
 have hz := h6
 refine g1 ?_
 refine sq rfl (fP hD rfl call156 rfl (c156 hR oM) ?_)
 rintro v5 H1 ⟨C0, j5, rfl, h8⟩ d7
 have ⟨h1, h2, h3, h4, b4, hT, h6, hR, h9, b7, b5, b6⟩ := mo12 d7 h1 h2 h3 h4 b4 hT h6 hR h9 b7 b5 b6
 refine g1 ?_
 refine sq rfl (fO hD [] [0, 1] rfl call155 rfl (c155 (f := 159) (caps := [.pointer (ad e4)]) (g := fun a b => decide (at2 T a.toNat b.toNat = at2 T b.toNat a.toNat)) h8 oM call159 (cl159 hT d3 h6 (fun x hx => upTo_mem.1 hx))) ?_)
 rintro v1 H3 O1 ⟨o4, A5, k0, c36, i4, rfl, rfl, d4, h5, e7, e5⟩ d6
 have ⟨h1, h2, h3, h4, b4, hT, h6, h8, hR, h9, b7, b5, b6⟩ := mo13 d6 h1 h2 h3 h4 b4 hT h6 h8 hR h9 b7 b5 b6
 refine g6a ?_
 intros
 refine sq rfl (fT hD [0] [1, 2] rfl call160 rfl (sortAll1 (caps := [.pointer (ad e4)]) law160 c160z rfl d4 oM (cmpR T) (cmpR_ok f9 h5) call161 (fun x hx y hy cx cy i7 i6 => by obtain ⟨X, nx, j9, he, hX⟩ := i7; cases he; obtain ⟨Y, ny, j3, he, hY⟩ := i6; cases he; exact c161 hT d3 h6 hX hY (by have := List.length_pos_iff.2 (h5.ne x hx); have := hX.len; omega) (by have := List.length_pos_iff.2 (h5.ne y hy); have := hY.len; omega) (upTo_mem.1 (h5.mem x hx _ (headD_mem (h5.ne x hx)))) (upTo_mem.1 (h5.mem y hy _ (headD_mem (h5.ne y hy)))))) ?_)
 rintro v2 O2 ⟨y0, f8, rfl, d2, h7, _⟩
 refine g5a ?_
 intros
 refine tR 0 d2 fun H5 d0 b8 => ?_
 have ⟨h1, h2, h3, h4, b4, hT, h6, h8, hR, h9, b7, b5, b6⟩ := mo13 d0 h1 h2 h3 h4 b4 hT h6 h8 hR h9 b7 b5 b6
 refine sq rfl (fP hD rfl call154 rfl (c154 hR b8 ⟨by omega, fun cl c0 => by have := h5.clen cl (h7.mem_iff.1 c0); rw [upTo_len] at this; omega⟩ (fun cl c0 i hi => upTo_mem.1 (h5.mem cl (h7.mem_iff.1 c0) i hi))) ?_)
 rintro v0 H0 ⟨i9, j6, rfl, d8, e2⟩ b9
 have ⟨h1, h2, h3, h4, b4, hT, h6, h8, b8, hR, h9, b7, b5, b6⟩ := mo14 b9 h1 h2 h3 h4 b4 hT h6 h8 b8 hR h9 b7 b5 b6
 have hC := made_res dC i5 (fun cl c0 i hi => upTo_mem.1 (h5.mem cl (h7.mem_iff.1 c0) i hi)) d8 e2
 obtain ⟨u64, A0, n0, c67, rfl⟩ := d8
 refine g2 ?_
 refine sG 0 ?_
 refine g2 ?_
 refine rD 0 [] results106 ?_
 exact ⟨rfl, _, _, rfl, hC⟩
theorem repsI_eq (h : Reps rInt H xs cs) : cs = xs.map fun x => Value.int .i64 x := by
 induction h with
 | nil => rfl
 | cons hx _ ih => cases hx; rw [ih]; rfl
theorem imap_app {a b : LI} : (a.map fun x => Value.int .i64 x) ++ (b.map fun x => Value.int .i64 x) = (a ++ b).map fun x => Value.int .i64 x := by simp
def okCl (k : Nat) (cl : LI) : Prop := cl ≠ [] ∧ cl.length ≤ 4000 ∧ ∀ x ∈ cl, 0 ≤ x ∧ x < (k : Int)
theorem ClsR.ok {g : Int → Int → Bool} {l : LI} {out : List LI} {k : Nat} (h : ClsR g l out) (hl : ∀ x ∈ l, 0 ≤ x ∧ x < (k : Int)) (hk : l.length ≤ 4000) : ∀ cl ∈ out, okCl k cl :=
 fun cl h4 => ⟨h.ne cl h4, by have := h.clen cl h4; omega, fun x hx => hl x (h.mem cl h4 x hx)⟩
theorem ok_snoc {l : List LI} (h : ∀ cl ∈ l, okCl k cl) (hc : okCl k c) : ∀ cl ∈ l ++ [c], okCl k cl := fun cl h4 => by
 rcases List.mem_append.1 h4 with h1 | h1
 ·exact h cl h1
 ·simp at h1; subst h1; exact hc
theorem ok_sort (h : okCl k c) : okCl k (c.mergeSort fun x y => decide (x ≤ y)) := by
 have hp := sort_perm c
 exact ⟨fun e => h.1 (by rw [e] at hp; exact hp.symm.eq_nil), by rw [hp.length_eq]; exact h.2.1, fun x hx => h.2.2 x (hp.mem_iff.1 hx)⟩
theorem ok_len {n : Nat} {l : List LI} (h : ∀ cl ∈ l, okCl k cl) (hn : n ≤ 1000000) : n ≤ 1000000 ∧ ∀ cl ∈ l, cl.length ≤ 1000000 := ⟨hn, fun cl h4 => by have := (h cl h4).2.1; omega⟩
theorem ok_in {l : List LI} (h : ∀ cl ∈ l, okCl k cl) : ∀ cl ∈ l, ∀ i ∈ cl, 0 ≤ i ∧ i < (k : Int) := fun cl h4 => (h cl h4).2.2
theorem ok_perm {l l' : List LI} (h : ∀ cl ∈ l, okCl k cl) (hp : l'.Perm l) : ∀ cl ∈ l', okCl k cl := fun cl h4 => h cl (hp.mem_iff.1 h4)
theorem upTo_in : ∀ x ∈ upTo k, 0 ≤ x ∧ x < (k : Int) := fun x hx => upTo_mem.1 hx
theorem c107 {g : Dfg} (h1 : Sl rCnt H g.acts A1 n1 k1) (h2 : Sl rCnt H g.starts A2 n2 k2) (h3 : Sl rCnt H g.ends A3 n3 k3) (h4 : Sl rFlw H g.follows A4 n4 k4) (b1 : n1 ≤ 1000000) (b2 : n2 ≤ 1000000) (b3 : n3 ≤ 1000000) {names : LB} (hnm : g.acts.map (·.name) = names) : Ct PP 107 #[.agg #[.slice A1 n1 k1, .slice A2 n2 k2, .slice A3 n3 k3, .slice A4 n4 k4]] H [] fun v H' O' => O' = [] ∧ ∃ cs e, v = .tuple #[.agg cs.toArray, .int .i64 e] ∧ CutR names H' cs e := by
 have s6 := b1
 have t1 := b2
 have s7 := b3
 have n7 := b1
 have l7 := b2
 have r7 := b3
 refine cB func107 ntmps107 fun I hD hI u2 => ?_
 refine g2a ?_
 intros
 refine bG fun b2 => ?_
 refine aL fun b3 => ?_
 refine g5a ?_
 intros
 refine sq rfl (fP hD rfl call153 rfl (c153b h1 h2 h3 h4 n7 l7 r7 hnm) ?_)
 rintro v7 H9 ⟨p5, e6, rfl, j4, e4⟩ i7
 have ⟨h1, h2, h3, h4⟩ := mo4 i7 h1 h2 h3 h4
 refine g3 ?_
 refine aL fun l1 => ?_
 refine sU 0 ?_
 refine g8b ?_
 intros
 refine cN ?_ ?_ <;> intro f8
 have j9 : e6 ≠ 0 := by simpa using f8
 refine g4a ?_
 intros
 refine sG 1 ?_
 refine g2 ?_
 refine rD 1 [] results107 ?_
 exact ⟨rfl, _, _, rfl, .zero ⟨_, _, _, _, rfl⟩ j9⟩
 have j9 : e6 = 0 := by simpa using f8
 subst j9
 rcases e4 with ⟨h1e, _⟩ | ⟨_, rb, RA, RB, RS, RF, rc, rd, re, rf, RM, rst, ren, hpe, hR⟩
 ·exact absurd h1e dC
 subst hpe
 have b4 := hR.cells
 have h8 := hR.names
 have b7 := hR.edge
 have t7 := hR.square
 have b5 := hR.start
 have b6 := hR.fin
 have l8 : n1 ≤ 40 := by have := (j4 rfl).1; have := h1.len; omega
 have r0 := h8.len
 refine tSeal (i := 0) rfl fun H5 e9 h5 => ?_
 have ⟨h1, h2, h3, h4, b4, hR, h8, b7, b5, b6⟩ := mo10 e9 h1 h2 h3 h4 b4 hR h8 b7 b5 b6
 have hz := h5
 refine g4a ?_
 intros
 refine sq rfl (fP hD rfl call156 rfl (c156 hR oM) ?_)
 rintro v6 H6 ⟨C0, t3, rfl, c0⟩ i5
 have ⟨h1, h2, h3, h4, b4, h5, hR, h8, b7, b5, b6⟩ := mo11 i5 h1 h2 h3 h4 b4 h5 hR h8 b7 b5 b6
 refine g1 ?_
 refine sq rfl (fO hD [] [0, 1] rfl call155 rfl (c155 (f := 162) (caps := [.pointer (ad l1)]) (g := fun a b => !decide (a = b) && !(at2 RM a.toNat b.toNat && at2 RM b.toNat a.toNat)) c0 oM call162 (cl162 hR h5 (fun x hx => upTo_mem.1 hx))) ?_)
 rintro v8 H4 O3 ⟨o4, u1, k6, c30, s2, rfl, rfl, i6, h9, k0, l0⟩ e7
 have ⟨h1, h2, h3, h4, b4, h5, c0, hR, h8, b7, b5, b6⟩ := mo12 e7 h1 h2 h3 h4 b4 h5 c0 hR h8 b7 b5 b6
 refine g9b ?_
 intros
 have d9 := h9.ok (k := n1) upTo_in (by rw [upTo_len]; omega)
 refine tR 0 i6 fun H0 f9 h6 => ?_
 have ⟨h1, h2, h3, h4, b4, h5, c0, hR, h8, b7, b5, b6⟩ := mo12 f9 h1 h2 h3 h4 b4 h5 c0 hR h8 b7 b5 b6
 refine g2 ?_
 refine sq rfl (fS hD rfl call147 rfl ((c147 (p := fun cl : LI => cl.any (bget rst) && cl.any (bget ren)) (caps := [.pointer (ad l1)]) h6 (by have := h6.2.2.1; omega) call163 (fun x hx v hv => by obtain ⟨X, nx, cx, he, hX⟩ := hv; cases he; exact c163 hR hX (d9 x hx).2.2 h5)).mono (fun v H' O' _ h => (⟨h.1, _, h.2, idxOf_ge _ _⟩ : O' = [] ∧ ∃ ix, v = .int .i64 ix ∧ -1 ≤ ix ∧ ix < (o4.length : Int)))) ?_)
 rintro v5 ⟨j1, rfl, l9, s4⟩
 refine g8b ?_
 intros
 refine cD ?_ ?_ <;> intro r5
 refine g3a ?_
 intros
 refine sG 0 ?_
 refine g2 ?_
 refine rD 0 [] results107 ?_
 exact ⟨rfl, _, _, rfl, .zero ⟨_, _, _, _, rfl⟩ dC⟩
 refine g9b ?_
 intros
 obtain ⟨l6, e2⟩ := Sl.ex h6 (i := (j1 : Int).toNat) oM
 obtain ⟨t6, t2, r3, s3, j2, o6⟩ := h6.at_ e2
 obtain ⟨t4, s5, c65, rfl, e8⟩ := j2
 refine g2 ?_
 have s0 := e8.len
 have e1 := d9 _ (mG e2)
 have k9 := e1.2.1
 refine sq rfl (TK.callSO hD (Oc := []) (.refl _) rfl rfl (ent call49 rfl) (c49 e8 oM) ?_)
 rintro v4 O4 ⟨A9, c68, r6, rfl, j8, rfl⟩
 obtain rfl := repsI_eq j8
 refine g10b ?_
 intros
 refine newRow 50 1 ?_
 refine lp2 (fun D f f1 E H O m => ∃ (i : Nat) (pl : List LI) (il : LI) (kp ki : Nat) (Ap : OA) (cp : Nat) (ps : LV) (Ai : OA) (ci : Nat), H0 = H ∧ (i ≤ k6) ∧ (pl.length = kp) ∧ (kp ≤ i) ∧ (∀ cl ∈ pl, okCl n1 cl) ∧ (il ≠ []) ∧ (∀ x ∈ il, 0 ≤ x ∧ x < (n1 : Int)) ∧ (il.length = ki ∧ ki ≤ 40 + 40 * i) ∧ (Reps (rSl rInt) H0 pl ps) ∧ m = k6 - i ∧ O = [.row 50 1 (.slice Ap kp cp) kp ps, .row 3 1 (.slice Ai ki ci) ki (il.map fun x => Value.int .i64 x), f, f1] ∧ E = (9, .slice Ap kp cp) :: (10, .slice Ai ki ci) :: (40, .int .i64 (i : Int)) :: D) [2, 4, 7, 8, 38, 39] [0, 1, 2, 3] ⟨0, [], l6, 0, s5, none, 0, [], A9, c68, rfl, Nat.zero_le _, rfl, Nat.le_refl _, (fun cl h => by simp at h), e1.1, e1.2.2, ⟨by omega, by have := h9.clen _ (mG e2); rw [upTo_len] at this; omega⟩, .nil, rfl, rfl, rfl⟩ ?_
 rintro _ _ _ _ ⟨i, pl, il, kp, ki, Ap, cp, ps, Ai, ci, rfl, hi, j5, o8, i8, j0, i9, o9, e3, rfl, rfl, rfl⟩ _ d7
 refine g5b ?_
 intros
 refine cD ?_ ?_ <;> intro l4
 refine g6b ?_
 intros
 obtain ⟨j6, d5⟩ := eX h6 i
 obtain ⟨t9, s9, r8, l3, j7, n9⟩ := h6.at_ d5
 obtain ⟨A6, n5, c97, rfl, c1⟩ := j7
 refine g12a ?_
 intros
 refine g1 ?_
 refine cD ?_ ?_ <;> intro k7
 refine g4 ?_
 exact nK d7 ⟨i + 1, pl, il, kp, ki, Ap, cp, ps, Ai, ci, rfl, oM, j5, oM, i8, j0, i9, oM, e3, rfl, rfl, rfl⟩
 refine g4a ?_
 intros
 have d4 := d9 _ (mG d5)
 have n8 : j6.length ≤ 40 := by have := h9.clen _ (mG d5); rw [upTo_len] at this; omega
 have t5 := c1.len
 refine sq rfl (TK.callS hD rfl rfl (entV call163 rfl rfl) (c163 hR c1 d4.2.2 h5) ?_)
 rintro v0 rfl
 refine g2 ?_
 refine cN ?_ ?_ <;> intro k5
 refine g3 ?_
 refine sq rfl (bS [.slice A6 n5 c97] fun l5 => ?_)
 refine sq rfl (aR 1 fun A5 c106 => ?_)
 refine g5 ?_
 exact nK d7 ⟨i + 1, pl ++ [j6], il, kp + 1, ki, A5, c106, ps ++ [.slice A6 n5 c97], Ai, ci, rfl, oM, (by simp [j5]), oM, (ok_snoc i8 d4), j0, i9, oM, (e3.append (.single ⟨_, _, _, rfl, c1⟩)), rfl, rfl, rfl⟩
 refine g3 ?_
 refine sL hD 1 c1 fun A0 c108 n0 i4 => ?_
 refine g5 ?_
 obtain rfl := repsI_eq i4
 rw [imap_app]
 exact nK d7 ⟨i + 1, pl, il ++ j6, kp, ki + n5, Ap, cp, ps, A0, c108, rfl, oM, j5, oM, i8, (fun e => j0 (List.append_eq_nil_iff.1 e).1), (fun y hy => (List.mem_append.1 hy).elim (i9 y) (d4.2.2 y)), (by simp; omega), e3, rfl, rfl, rfl⟩
 refine g4a ?_
 intros
 refine sq rfl (fT hD [1] [0, 2, 3] rfl call139 rfl (c139 (xs := il) oM o9.1) ?_)
 rintro v2 O1 rfl
 refine g5a ?_
 intros
 refine tR 0 (r := rInt) (ys := (il.mergeSort fun x y => decide (x ≤ y))) (repsI _) fun H2 d2 h7 => ?_
 have ⟨h5, h6, e3, h1, h2, h3, h4, hR, b4, h8, b7, b5, b6⟩ := mo13 d2 h5 h6 e3 h1 h2 h3 h4 hR b4 h8 b7 b5 b6
 refine sq rfl (bS [.slice Ai ki ci] fun r9 => ?_)
 refine sq rfl (aR 1 fun A8 n6 => ?_)
 have j3 := e3.append (.single (x := il.mergeSort fun x y => decide (x ≤ y)) ⟨_, _, _, rfl, h7⟩)
 have d6 := ok_snoc i8 (ok_sort ⟨j0, by omega, i9⟩)
 refine g5a ?_
 intros
 refine sq rfl (fT hD [1] [0, 2, 3] rfl call160 rfl (sortAll1 (caps := []) law160 c160z rfl j3 oM cmpH cmpH_ok call165 (fun x hx y hy cx cy r4 r1 => by obtain ⟨X, nx, t8, he, hX⟩ := r4; cases he; obtain ⟨Y, ny, s8, he, hY⟩ := r1; cases he; have h1 := d6 x hx; have h2 := d6 y hy; have h3 := h1.2.2 _ (headD_mem h1.1); have h4 := h2.2.2 _ (headD_mem h2.1); exact c165 hX hY (by have := List.length_pos_iff.2 h1.1; have := hX.len; omega) (by have := List.length_pos_iff.2 h2.1; have := hY.len; omega) oM oM)) ?_)
 rintro v1 O2 ⟨y0, k8, rfl, d8, b9, _⟩
 refine g5a ?_
 intros
 have d3 := ok_perm d6 b9
 refine tR 0 d8 fun H3 e0 b8 => ?_
 have ⟨h5, h7, h6, b4, h1, h2, h3, h4, hR, h8, b7, b5, b6⟩ := mo13 e0 h5 h7 h6 b4 h1 h2 h3 h4 hR h8 b7 b5 b6
 refine sq rfl (fP hD rfl call154 rfl (c154 hR b8 (ok_len d3 oM) (ok_in d3)) ?_)
 rintro v3 H1 ⟨l2, o5, rfl, d0, e5⟩ d1
 have ⟨h5, b8, h7, h6, b4, h1, h2, h3, h4, hR, h8, b7, b5, b6⟩ := mo14 d1 h5 b8 h7 h6 b4 h1 h2 h3 h4 hR h8 b7 b5 b6
 have hC := made_res dC r0 (ok_in d3) d0 e5
 obtain ⟨u0, A7, o7, c142, rfl⟩ := d0
 refine g2 ?_
 refine sG 1 ?_
 refine g2 ?_
 refine rD 1 [] results107 ?_
 exact ⟨rfl, _, _, rfl, hC⟩
theorem c167 (hR : RelAt H b A B S F c d e f k names M st en) {x y : Int} (hx0 : 0 ≤ x) (hx : x < k) (hy0 : 0 ≤ y) (hy : y < k) (hk : k ≤ 1000000) : Ct PP 167 #[.pointer (ad b), .int .i64 x, .int .i64 y] H [] fun v H' O' => O' = [] ∧ ∃ r, v = .bool r := by
 have y5 := hR.cells
 have y9 := hR.names
 have h4 := hR.edge
 have d5 := hR.square
 have b7 := hR.start
 have e7 := hR.fin
 refine cB func167 ntmps167 fun I hD hI B5 => ?_
 refine g12c ?_
 intros
 obtain ⟨x5, i6⟩ := Sl.ex h4 (i := (x : Int).toNat) oM
 obtain ⟨b6, o7, u3, A7, i5, z6⟩ := h4.at_ i6
 obtain ⟨A4, z7, c14, rfl, d3⟩ := i5
 have j3 := d5 _ (mG i6)
 have n4 := d3.len
 refine g3 ?_
 obtain ⟨B2, d8⟩ := Sl.ex d3 (i := (y : Int).toNat) oM
 obtain ⟨z5, y2, u5, t7⟩ := d3.atB d8
 have s8 := at2_of i6 d8
 refine g3 ?_
 refine cN ?_ ?_ <;> intro v8
 refine g8b ?_
 intros
 obtain ⟨z3, j1⟩ := Sl.ex e7 (i := (x : Int).toNat) oM
 obtain ⟨y4, y7, t1, r7⟩ := e7.atB j1
 refine g4 ?_
 refine cN ?_ ?_ <;> intro u1
 refine g4a ?_
 intros
 refine rT results167 ?_
 exact ⟨rfl, _, rfl⟩
 refine g11a ?_
 intros
 refine lp0 (fun D E H' O m => ∃ (i : Nat), H = H' ∧ (i ≤ k) ∧ m = k - i ∧ O = [] ∧ E = (32, .int .i64 (i : Int)) :: D) [0, 1, 2, 31] [] ⟨0, rfl, Nat.zero_le _, rfl, rfl, rfl⟩ ?_
 rintro _ _ _ _ ⟨i, rfl, hi, rfl, rfl, rfl⟩ _ e2
 refine g5b ?_
 intros
 refine cD ?_ ?_ <;> intro w6
 refine g15c ?_
 intros
 obtain ⟨B3, i4⟩ := eX e7 i
 obtain ⟨y6, A6, t5, w8⟩ := e7.atB i4
 refine g3 ?_
 refine sB 42 ?_ ?_ <;> intro s5
 refine g5 ?_
 obtain ⟨A5, d0⟩ := eX h4 i
 obtain ⟨z8, z4, t8, w5, i8, t3⟩ := h4.at_ d0
 obtain ⟨B6, z1, c66, rfl, d2⟩ := i8
 have k5 := d5 _ (mG d0)
 have j5 := d2.len
 refine g3 ?_
 obtain ⟨z2, e1⟩ := Sl.ex d2 (i := (y : Int).toNat) oM
 obtain ⟨A8, z9, w2, w4⟩ := d2.atB e1
 have s3 := at2_of d0 e1
 refine g5 ?_
 refine cN ?_ ?_ <;> intro u0
 refine g4a ?_
 intros
 refine rT results167 ?_
 exact ⟨rfl, _, rfl⟩
 refine g4 ?_
 exact nK e2 ⟨i + 1, rfl, oM, rfl, rfl, rfl⟩
 refine g18 ?_
 exact nK e2 ⟨i + 1, rfl, oM, rfl, rfl, rfl⟩
 refine g9b ?_
 intros
 obtain ⟨A3, d1⟩ := Sl.ex h4 (i := (y : Int).toNat) oM
 obtain ⟨y3, A9, y0, y1, e8, s7⟩ := h4.at_ d1
 obtain ⟨B0, y8, c91, rfl, d4⟩ := e8
 have k4 := d5 _ (mG d1)
 have n6 := d4.len
 refine g3 ?_
 obtain ⟨B4, e0⟩ := Sl.ex d4 (i := (x : Int).toNat) oM
 obtain ⟨B1, z0, u7, k8⟩ := d4.atB e0
 have k1 := at2_of d1 e0
 refine g3 ?_
 refine cN ?_ ?_ <;> intro n7
 refine g8b ?_
 intros
 obtain ⟨r6, e5⟩ := Sl.ex b7 (i := (x : Int).toNat) oM
 obtain ⟨s4, u9, k2, l7⟩ := b7.atB e5
 refine g4 ?_
 refine cN ?_ ?_ <;> intro o6
 refine g4a ?_
 intros
 refine rT results167 ?_
 exact ⟨rfl, _, rfl⟩
 refine g11a ?_
 intros
 refine lp0 (fun D E H' O m => ∃ (j : Nat), H = H' ∧ (j ≤ k) ∧ m = k - j ∧ O = [] ∧ E = (79, .int .i64 (j : Int)) :: D) [0, 2, 78] [] ⟨0, rfl, Nat.zero_le _, rfl, rfl, rfl⟩ ?_
 rintro _ _ _ _ ⟨j, rfl, hj, rfl, rfl, rfl⟩ _ c0
 refine g5b ?_
 intros
 refine cD ?_ ?_ <;> intro k7
 refine g15c ?_
 intros
 obtain ⟨r3, e4⟩ := eX b7 j
 obtain ⟨v0, v2, l2, n3⟩ := b7.atB e4
 refine g3 ?_
 refine sB 89 ?_ ?_ <;> intro k6
 refine g5 ?_
 obtain ⟨s6, h7⟩ := Sl.ex h4 (i := (y : Int).toNat) oM
 obtain ⟨v7, v3, l1, o5, d9, j9⟩ := h4.at_ h7
 obtain ⟨A0, r4, c143, rfl, h8⟩ := d9
 have i7 := d5 _ (mG h7)
 have i9 := h8.len
 refine g3 ?_
 obtain ⟨r1, b5⟩ := eX h8 j
 obtain ⟨w3, w7, n8, r0⟩ := h8.atB b5
 have l8 := at2_of h7 b5
 refine g5 ?_
 refine cN ?_ ?_ <;> intro n9
 refine g4a ?_
 intros
 refine rT results167 ?_
 exact ⟨rfl, _, rfl⟩
 refine g4 ?_
 exact nK c0 ⟨j + 1, rfl, oM, rfl, rfl, rfl⟩
 refine g18 ?_
 exact nK c0 ⟨j + 1, rfl, oM, rfl, rfl, rfl⟩
 refine g5a ?_
 intros
 refine rT results167 ?_
 exact ⟨rfl, _, rfl⟩
 refine g5a ?_
 intros
 refine rT results167 ?_
 exact ⟨rfl, _, rfl⟩
 refine g9b ?_
 intros
 obtain ⟨u6, h5⟩ := Sl.ex h4 (i := (y : Int).toNat) oM
 obtain ⟨u4, w0, l9, l5, d6, k9⟩ := h4.at_ h5
 obtain ⟨A1, r9, c170, rfl, h9⟩ := d6
 have f9 := d5 _ (mG h5)
 have j0 := h9.len
 refine g3 ?_
 obtain ⟨v5, b9⟩ := Sl.ex h9 (i := (x : Int).toNat) oM
 obtain ⟨t4, w9, j2, n5⟩ := h9.atB b9
 have j6 := at2_of h5 b9
 refine g3 ?_
 refine cN ?_ ?_ <;> intro j8
 refine g8b ?_
 intros
 obtain ⟨t2, e6⟩ := Sl.ex b7 (i := (x : Int).toNat) oM
 obtain ⟨t9, s0, o8, o9⟩ := b7.atB e6
 refine g4 ?_
 refine cN ?_ ?_ <;> intro l6
 refine g4a ?_
 intros
 refine rT results167 ?_
 exact ⟨rfl, _, rfl⟩
 refine g11a ?_
 intros
 refine lp0 (fun D E H' O m => ∃ (j : Nat), H = H' ∧ (j ≤ k) ∧ m = k - j ∧ O = [] ∧ E = (79, .int .i64 (j : Int)) :: D) [0, 2, 78] [] ⟨0, rfl, Nat.zero_le _, rfl, rfl, rfl⟩ ?_
 rintro _ _ _ _ ⟨j, rfl, hj, rfl, rfl, rfl⟩ _ b8
 refine g5b ?_
 intros
 refine cD ?_ ?_ <;> intro n1
 refine g15c ?_
 intros
 obtain ⟨r8, d7⟩ := eX b7 j
 obtain ⟨v9, s9, l4, k3⟩ := b7.atB d7
 refine g3 ?_
 refine sB 89 ?_ ?_ <;> intro l3
 refine g5 ?_
 obtain ⟨v4, h6⟩ := Sl.ex h4 (i := (y : Int).toNat) oM
 obtain ⟨t6, v6, l0, j4, e3, n0⟩ := h4.at_ h6
 obtain ⟨A2, r5, s2, rfl, b4⟩ := e3
 have e9 := d5 _ (mG h6)
 have f8 := b4.len
 refine g3 ?_
 obtain ⟨u2, c1⟩ := eX b4 j
 obtain ⟨w1, v1, n2, k0⟩ := b4.atB c1
 have o4 := at2_of h6 c1
 refine g5 ?_
 refine cN ?_ ?_ <;> intro j7
 refine g4a ?_
 intros
 refine rT results167 ?_
 exact ⟨rfl, _, rfl⟩
 refine g4 ?_
 exact nK b8 ⟨j + 1, rfl, oM, rfl, rfl, rfl⟩
 refine g18 ?_
 exact nK b8 ⟨j + 1, rfl, oM, rfl, rfl, rfl⟩
 refine g5a ?_
 intros
 refine rT results167 ?_
 exact ⟨rfl, _, rfl⟩
 refine g5a ?_
 intros
 refine rT results167 ?_
 exact ⟨rfl, _, rfl⟩
theorem in_snoc {k : Nat} {l : LI} {a : Int} (h : ∀ x ∈ l, 0 ≤ x ∧ x < (k : Int)) (ha : 0 ≤ a ∧ a < (k : Int)) : ∀ x ∈ l ++ [a], 0 ≤ x ∧ x < (k : Int) := fun x hx => by
 rcases List.mem_append.1 hx with h1 | h1
 ·exact h x h1
 ·simp at h1; subst h1; exact ha
theorem c108 {g : Dfg} (h1 : Sl rCnt H g.acts A1 n1 k1) (h2 : Sl rCnt H g.starts A2 n2 k2) (h3 : Sl rCnt H g.ends A3 n3 k3) (h4 : Sl rFlw H g.follows A4 n4 k4) (b1 : n1 ≤ 1000000) (b2 : n2 ≤ 1000000) (b3 : n3 ≤ 1000000) {names : LB} (hnm : g.acts.map (·.name) = names) : Ct PP 108 #[.agg #[.slice A1 n1 k1, .slice A2 n2 k2, .slice A3 n3 k3, .slice A4 n4 k4]] H [] fun v H' O' => O' = [] ∧ ∃ cs e, v = .tuple #[.agg cs.toArray, .int .i64 e] ∧ CutR names H' cs e := by
 have v8 := b1
 have w5 := b2
 have v9 := b3
 have s5 := b1
 have r7 := b2
 have u5 := b3
 refine cB func108 ntmps108 fun I hD hI y6 => ?_
 refine g2a ?_
 intros
 refine bG fun b2 => ?_
 refine aL fun b3 => ?_
 refine g5a ?_
 intros
 refine sq rfl (fP hD rfl call153 rfl (c153b h1 h2 h3 h4 s5 r7 u5 hnm) ?_)
 rintro y4 H9 ⟨p5, e6, rfl, j8, e7⟩ j2
 have ⟨h1, h2, h3, h4⟩ := mo4 j2 h1 h2 h3 h4
 refine g3 ?_
 refine aL fun u3 => ?_
 refine sU 0 ?_
 refine g8b ?_
 intros
 refine cN ?_ ?_ <;> intro i6
 have l0 : e6 ≠ 0 := by simpa using i6
 refine g4a ?_
 intros
 refine sG 1 ?_
 refine g2 ?_
 refine rD 1 [] results108 ?_
 exact ⟨rfl, _, _, rfl, .zero ⟨_, _, _, _, rfl⟩ l0⟩
 have l0 : e6 = 0 := by simpa using i6
 subst l0
 rcases e7 with ⟨h1e, _⟩ | ⟨_, rb, RA, RB, RS, RF, rc, rd, re, rf, RM, rst, ren, hpe, hR⟩
 ·exact absurd h1e dC
 subst hpe
 have c0 := hR.cells
 have b7 := hR.names
 have c1 := hR.edge
 have w9 := hR.square
 have b5 := hR.start
 have b6 := hR.fin
 have r8 : n1 ≤ 40 := by have := (j8 rfl).1; have := h1.len; omega
 have u1 := b7.len
 refine tSeal (i := 0) rfl fun H4 i4 h5 => ?_
 have ⟨h1, h2, h3, h4, c0, hR, b7, c1, b5, b6⟩ := mo10 i4 h1 h2 h3 h4 c0 hR b7 c1 b5 b6
 have hz := h5
 refine g15c ?_
 intros
 refine g2 ?_
 refine newRow 3 1 ?_
 refine newRow 3 1 ?_
 refine lp2 (fun D f f1 E H O m => ∃ (i : Nat) (bl ol : LI) (kb ko : Nat) (Ab : OA) (cb : Nat) (Ao : OA) (co : Nat), H4 = H ∧ (i ≤ n1) ∧ (bl.length = kb) ∧ (ol.length = ko) ∧ (kb + ko ≤ i) ∧ (∀ x ∈ bl, 0 ≤ x ∧ x < (n1 : Int)) ∧ (∀ x ∈ ol, 0 ≤ x ∧ x < (n1 : Int)) ∧ m = n1 - i ∧ O = [.row 3 1 (.slice Ab kb cb) kb (bl.map fun x => Value.int .i64 x), .row 3 1 (.slice Ao ko co) ko (ol.map fun x => Value.int .i64 x), f, f1] ∧ E = (6, .slice Ab kb cb) :: (7, .slice Ao ko co) :: (32, .int .i64 (i : Int)) :: D) [2, 4, 31] [0, 1, 2, 3] ⟨0, [], [], 0, 0, none, 0, none, 0, rfl, Nat.zero_le _, rfl, rfl, Nat.le_refl _, (fun x h => by simp at h), (fun x h => by simp at h), rfl, rfl, rfl⟩ ?_
 rintro _ _ _ _ ⟨i, bl, ol, kb, ko, Ab, cb, Ao, co, rfl, hi, j6, k6, w4, e9, j5, rfl, rfl, rfl⟩ _ e4
 refine g5b ?_
 intros
 refine cD ?_ ?_ <;> intro s8
 refine g15c ?_
 intros
 obtain ⟨y0, j9⟩ := eX b5 i
 obtain ⟨y1, w7, t6, u9⟩ := b5.atB j9
 refine g3 ?_
 refine sB 42 ?_ ?_ <;> intro s0
 refine g12 ?_
 refine g1 ?_
 refine sq rfl (bS [.int .i64 (i : Int)] fun w0 => ?_)
 refine sq rfl (aR 1 fun A7 c44 => ?_)
 refine g5 ?_
 rw [imap_snoc]
 exact nK e4 ⟨i + 1, bl ++ [(i : Int)], ol, kb + 1, ko, A7, c44, Ao, co, rfl, oM, (by simp [j6]), k6, oM, (in_snoc e9 oM), j5, rfl, rfl, rfl⟩
 refine g5 ?_
 obtain ⟨w3, k8⟩ := eX b6 i
 obtain ⟨w1, v7, t3, u2⟩ := b6.atB k8
 refine g4 ?_
 refine cN ?_ ?_ <;> intro u4
 refine g3 ?_
 refine sq rfl (bS [.int .i64 (i : Int)] fun y3 => ?_)
 refine sq rfl (aR 1 fun A8 c54 => ?_)
 refine g5 ?_
 rw [imap_snoc]
 exact nK e4 ⟨i + 1, bl ++ [(i : Int)], ol, kb + 1, ko, A8, c54, Ao, co, rfl, oM, (by simp [j6]), k6, oM, (in_snoc e9 oM), j5, rfl, rfl, rfl⟩
 refine g3 ?_
 refine sq rfl (bS [.int .i64 (i : Int)] fun y2 => ?_)
 refine sq rfl (aR 2 fun t7 c57 => ?_)
 refine g5 ?_
 rw [imap_snoc]
 exact nK e4 ⟨i + 1, bl, ol ++ [(i : Int)], kb, ko + 1, Ab, cb, t7, c57, rfl, oM, j6, (by simp [k6]), oM, e9, (in_snoc j5 oM), rfl, rfl, rfl⟩
 refine g8b ?_
 intros
 refine cD ?_ ?_ <;> intro t2
 refine g3a ?_
 intros
 refine sG 2 ?_
 refine g2 ?_
 refine rD 2 [] results108 ?_
 exact ⟨rfl, _, _, rfl, .zero ⟨_, _, _, _, rfl⟩ dC⟩
 refine g3a ?_
 intros
 refine tR 0 (r := rInt) (ys := bl) (repsI _) fun H6 f9 h6 => ?_
 have ⟨h5, h1, h2, h3, h4, hR, c0, b7, c1, b5, b6⟩ := mo11 f9 h5 h1 h2 h3 h4 hR c0 b7 c1 b5 b6
 refine tR 0 (r := rInt) (ys := ol) (repsI _) fun H7 i9 d3 => ?_
 have ⟨h5, h6, h1, h2, h3, h4, hR, c0, b7, c1, b5, b6⟩ := mo12 i9 h5 h6 h1 h2 h3 h4 hR c0 b7 c1 b5 b6
 refine g1 ?_
 refine sq rfl (TK.callSO hD (Oc := []) (.refl _) rfl rfl (ent call49 rfl) (c49 h6 oM) ?_)
 rintro y5 O3 ⟨v5, c70, s4, rfl, k0, rfl⟩
 obtain rfl := repsI_eq k0
 refine g11c ?_
 intros
 refine sq rfl (fO hD [] [0, 1, 2] rfl call155 rfl (c155 (f := 166) (caps := [.pointer (ad u3)]) (g := fun a b => at2 RM a.toNat b.toNat) d3 oM call166 (cl166 hR h5 (fun x hx => j5 x hx))) ?_)
 rintro w2 H8 O2 ⟨o6, w8, n8, c82, u7, rfl, rfl, i7, d2, l9, o7⟩ f8
 have ⟨h5, h6, d3, h1, h2, h3, h4, hR, c0, b7, c1, b5, b6⟩ := mo13 f8 h5 h6 d3 h1 h2 h3 h4 hR c0 b7 c1 b5 b6
 have r9 := d2.flat
 have k7 := d2.ok (k := n1) j5 oM
 refine tR 0 i7 fun H0 j3 b4 => ?_
 have ⟨h5, h6, d3, h1, h2, h3, h4, hR, c0, b7, c1, b5, b6⟩ := mo13 j3 h5 h6 d3 h1 h2 h3 h4 hR c0 b7 c1 b5 b6
 refine g4 ?_
 refine newRow 50 1 ?_
 refine lp2 (fun D f f1 E H O m => ∃ (u : Nat) (pl : List LI) (fl : LI) (kp kf : Nat) (Ap : OA) (cp : Nat) (ps : LV) (Af : OA) (cf : Nat), H0 = H ∧ (u ≤ n8) ∧ (pl.length = kp) ∧ (kp ≤ u) ∧ (∀ cl ∈ pl, okCl n1 cl) ∧ (fl ≠ []) ∧ (∀ x ∈ fl, 0 ≤ x ∧ x < (n1 : Int)) ∧ (fl.length = kf ∧ kf ≤ 40 + 40 * u) ∧ (Reps (rSl rInt) H0 pl ps) ∧ m = n8 - u ∧ O = [.row 50 1 (.slice Ap kp cp) kp ps, .row 3 1 (.slice Af kf cf) kf (fl.map fun x => Value.int .i64 x), f, f1] ∧ E = (9, .slice Af kf cf) :: (10, .slice Ap kp cp) :: (70, .int .i64 (u : Int)) :: D) [2, 4, 6, 68, 69] [0, 1, 2, 3] ⟨0, [], bl, 0, kb, none, 0, [], v5, c70, rfl, Nat.zero_le _, rfl, Nat.le_refl _, (fun cl h => by simp at h), (fun e => by simp [e] at j6; omega), e9, ⟨by omega, by omega⟩, .nil, rfl, rfl, rfl⟩ ?_
 rintro _ _ _ _ ⟨u, pl, fl, kp, kf, Ap, cp, ps, Af, cf, rfl, hu, l8, t8, j7, k5, k9, t1, j0, rfl, rfl, rfl⟩ _ e5
 refine g5b ?_
 intros
 refine cD ?_ ?_ <;> intro l5
 refine g5b ?_
 intros
 obtain ⟨e1, d4⟩ := eX b4 u
 obtain ⟨v4, s2, l4, l2, j4, r1⟩ := b4.at_ d4
 obtain ⟨A0, n0, c116, rfl, d1⟩ := j4
 refine g11c ?_
 intros
 have e2 := k7 _ (mG d4)
 have s6 : e1.length ≤ 40 := by have := d2.clen _ (mG d4); omega
 have w6 := d1.len
 refine g5 ?_
 refine lp4 (fun D f f1 f2 f3 E H O m => ∃ (v : Nat) (o5 : Bool), H0 = H ∧ (v ≤ n0) ∧ m = n0 - v ∧ O = [f, f1, f2, f3] ∧ E = (13, .bool o5) :: (76, .int .i64 (v : Int)) :: D) [2, 4, 6, 9, 10, 12, 68, 69, 70, 74, 75] [0, 1, 2, 3] ⟨0, true, rfl, Nat.zero_le _, rfl, rfl, rfl⟩ ?_
 rintro _ _ _ _ ⟨v, o5, rfl, hv, rfl, rfl, rfl⟩ _ j1
 refine g5b ?_
 intros
 refine cD ?_ ?_ <;> intro l7
 refine g5b ?_
 intros
 obtain ⟨s3, d6⟩ := eX d1 v
 obtain ⟨s7, v6, l3, o9⟩ := d1.atI d6
 refine g11a ?_
 intros
 refine lp4 (fun D f f1 f2 f3 E H O m => ∃ (w : Nat) (o4 : Bool), H0 = H ∧ (w ≤ kb) ∧ m = kb - w ∧ O = [f, f1, f2, f3] ∧ E = (13, .bool o4) :: (82, .int .i64 (w : Int)) :: D) [2, 4, 6, 9, 10, 12, 15, 68, 69, 70, 74, 75, 76, 80, 81] [0, 1, 2, 3] ⟨0, o5, rfl, Nat.zero_le _, rfl, rfl, rfl⟩ ?_
 rintro _ _ _ _ ⟨w, o4, rfl, hw, rfl, rfl, rfl⟩ _ d8
 refine g5b ?_
 intros
 refine cD ?_ ?_ <;> intro n9
 refine g5b ?_
 intros
 obtain ⟨t5, d7⟩ := eX h6 w
 obtain ⟨u6, s9, l1, n7⟩ := h6.atI d7
 refine g7 ?_
 refine sB 87 ?_ ?_ <;> intro o8
 refine g3 ?_
 have ha := e9 _ (mG d7)
 have hb := e2.2.2 _ (mG d6)
 refine sqY rfl rfl rfl rfl (fS hD rfl call167 rfl (c167 hR ha.1 ha.2 hb.1 hb.2 oM) ?_)
 rintro v0 ⟨r0, rfl⟩
 refine g6 ?_
 exact nK d8 ⟨w + 1, r0, rfl, oM, rfl, rfl, rfl⟩
 refine g10 ?_
 exact nK d8 ⟨w + 1, false, rfl, oM, rfl, rfl, rfl⟩
 refine g4 ?_
 exact nK j1 ⟨v + 1, o4, rfl, oM, rfl, rfl, rfl⟩
 refine g5a ?_
 intros
 refine cN ?_ ?_ <;> intro r3
 refine g3 ?_
 refine sq rfl (bS [.slice A0 n0 c116] fun r4 => ?_)
 refine sq rfl (aR 1 fun A5 c163 => ?_)
 refine g5 ?_
 exact nK e5 ⟨u + 1, pl ++ [e1], fl, kp + 1, kf, A5, c163, ps ++ [.slice A0 n0 c116], Af, cf, rfl, oM, (by simp [l8]), oM, (ok_snoc j7 e2), k5, k9, oM, (j0.append (.single ⟨_, _, _, rfl, d1⟩)), rfl, rfl, rfl⟩
 refine g3 ?_
 refine sL hD 1 d1 fun A6 c165 n5 i5 => ?_
 refine g5 ?_
 obtain rfl := repsI_eq i5
 rw [imap_app]
 exact nK e5 ⟨u + 1, pl, fl ++ e1, kp, kf + n0, Ap, cp, ps, A6, c165, rfl, oM, l8, oM, j7, (fun e => k5 (List.append_eq_nil_iff.1 e).1), (fun y hy => (List.mem_append.1 hy).elim (k9 y) (e2.2.2 y)), (by simp; omega), j0, rfl, rfl, rfl⟩
 refine g4a ?_
 intros
 refine sq rfl (fT hD [1] [0, 2, 3] rfl call139 rfl (c139 (xs := fl) oM t1.1) ?_)
 rintro v3 O1 rfl
 refine g2a ?_
 intros
 refine tss (.cons _ (.cons _ (.cons_cons _ (.cons_cons _ (List.nil_sublist _))))) 8 fun e0 => ?_
 refine tj 0 ?_
 refine g1 ?_
 refine tj 3 ?_
 refine tR 0 (r := rInt) (ys := (fl.mergeSort fun x y => decide (x ≤ y))) (repsI _) fun H3 h8 h9 => ?_
 have ⟨h5, h6, b4, c0, j0, h1, h2, h3, h4, hR, b7, c1, b5, b6⟩ := mo14 h8 h5 h6 b4 c0 j0 h1 h2 h3 h4 hR b7 c1 b5 b6
 refine tR 0 j0 fun H2 h7 d0 => ?_
 have ⟨h5, h6, h9, b4, c0, h1, h2, h3, h4, hR, b7, c1, b5, b6⟩ := mo14 h7 h5 h6 h9 b4 c0 h1 h2 h3 h4 hR b7 c1 b5 b6
 refine oI 2 rfl kR (bS [.slice Af kf cf] fun t4 => ?_)
 refine ta_next (kG (h8.trans h7)) ?_
 refine oI 4 rfl kR (tAppendSl hD (i := 0) rfl uC In50 rfl dC rfl rfl d0 oM oM dC fun v2 c181 n6 e8 => ?_)
 refine ta_next (kG (h8.trans h7)) ?_
 have e3 : ∀ cl ∈ [fl.mergeSort fun x y => decide (x ≤ y)] ++ pl, okCl n1 cl := fun cl r6 => (List.mem_append.1 r6).elim (fun h => by simp at h; subst h; exact ok_sort ⟨k5, by omega, k9⟩) (j7 cl)
 refine tR 0 (r := (rSl rInt)) (ys := ([fl.mergeSort fun x y => decide (x ≤ y)] ++ pl)) (Reps.append (.single (x := fl.mergeSort fun x y => decide (x ≤ y)) ⟨_, _, _, rfl, h9⟩) e8) fun H1 b9 d5 => ?_
 have ⟨h5, h6, h9, d0, b4, c0, h1, h2, h3, h4, hR, b7, c1, b5, b6⟩ := mo15 b9 h5 h6 h9 d0 b4 c0 h1 h2 h3 h4 hR b7 c1 b5 b6
 refine oI 5 rfl kR (fP hD rfl call154 rfl (c154 hR d5 (ok_len e3 oM) (ok_in e3)) ?_)
 rintro v1 H5 ⟨l6, t9, rfl, d9, i8⟩ b8
 have ⟨h5, h6, h9, d0, b4, c0, d5, h1, h2, h3, h4, hR, b7, c1, b5, b6⟩ := mo16 b8 h5 h6 h9 d0 b4 c0 d5 h1 h2 h3 h4 hR b7 c1 b5 b6
 have hC := made_res dC u1 (ok_in e3) d9 i8
 obtain ⟨u0, A9, r5, c197, rfl⟩ := d9
 refine ta_next (keeps [0, 1] dC rfl (((h8.trans h7).trans b9).trans b8)) ?_
 refine tk 6 rfl kR e0 (np_then np_fin) (keeps [0, 1] dC rfl (((h8.trans h7).trans b9).trans b8)) (yExtract rfl rfl) rfl rfl rfl ?_
 refine tk 7 rfl kR e0 (np_then np_fin) (keeps [0, 1] dC rfl (((h8.trans h7).trans b9).trans b8)) (yExtract rfl rfl) rfl rfl rfl ?_
 refine g1 ?_
 refine sG 0 ?_
 refine g2 ?_
 refine rD 0 [] results108 ?_
 exact ⟨rfl, _, _, rfl, hC⟩
theorem c65 {g : Dfg} (h1 : Sl rCnt H g.acts A1 n1 k1) (h2 : Sl rCnt H g.starts A2 n2 k2) (h3 : Sl rCnt H g.ends A3 n3 k3) (h4 : Sl rFlw H g.follows A4 n4 k4) (b1 : n1 ≤ 1000000) (b2 : n2 ≤ 1000000) (b3 : n3 ≤ 1000000) {names : LB} (hnm : g.acts.map (·.name) = names) : Ct PP 65 #[.agg #[.slice A1 n1 k1, .slice A2 n2 k2, .slice A3 n3 k3, .slice A4 n4 k4]] H [] fun v H' O' => O' = [] ∧ ∃ cs e, v = .tuple #[.agg cs.toArray, .int .i64 e] ∧ CutR names H' cs e := by
 have b7 := b1
 have b9 := b2
 have b8 := b3
 have d9 := b1
 have d7 := b2
 have d6 := b3
 refine cB func65 ntmps65 fun I hD hI d8 => ?_
 refine g2a ?_
 intros
 refine bG fun b2 => ?_
 refine aL fun b3 => ?_
 refine g5b ?_
 intros
 refine sq rfl (tBSlice (k := 1) (out := [.func (.func 105) #[] #[], .func (.func 106) #[] #[], .func (.func 107) #[] #[]]) uC sC nC rfl (fun zs hz => fillAll [.func (.func 105) #[] #[], .func (.func 106) #[] #[], .func (.func 107) #[] #[]] zs hz) rfl dC dC dC dC fun b6 => ?_)
 refine g4 ?_
 refine lp3 (fun D f f1 f2 E H' O m => ∃ (i : Nat), Ghost.le H H' ∧ (i ≤ 3) ∧ m = 3 - i ∧ O = [f, f1, f2] ∧ E = (10, .int .i64 (i : Int)) :: D) [1, 2, 8, 9] [0, 1, 2] ⟨0, Ghost.le.refl _, Nat.zero_le _, rfl, rfl, rfl⟩ ?_
 rintro _ H7 _ _ ⟨i, h6, hi, rfl, rfl, rfl⟩ _ c0
 have ⟨h1, h2, h3, h4⟩ := mo4 h6 h1 h2 h3 h4
 refine g5b ?_
 intros
 refine cD ?_ ?_ <;> intro d0
 refine g6b ?_
 intros
 obtain ⟨f8, b5, h7⟩ : ∃ f : Nat, [Value.func (.func 105) #[] #[], Value.func (.func 106) #[] #[], Value.func (.func 107) #[] #[]][0 + i * 1]? = some (Value.func (.func f) #[] #[]) ∧ (f = 105 ∨ f = 106 ∨ f = 107) := by (have : i = 0 ∨ i = 1 ∨ i = 2 := by omega); rcases this with rfl | rfl | rfl; exact ⟨105, rfl, by simp⟩; exact ⟨106, rfl, by simp⟩; exact ⟨107, rfl, by simp⟩
 refine q (yLoad1 aC rfl (Mem.row1 (i := 0) rfl b5)) rfl rfl rfl ?_
 refine g6a ?_
 intros
 have d1 : ∀ (args : Array Value) (w : World), (callFunc f8 args).run PP w = .ok (.enter f8 args) w := by rcases h7 with rfl | rfl | rfl; exact call105; exact call106; exact call107
 have d4 : Ct PP f8 #[.agg #[.slice A1 n1 k1, .slice A2 n2 k2, .slice A3 n3 k3, .slice A4 n4 k4]] H7 [] fun v H' O' => O' = [] ∧ ∃ cs e, v = .tuple #[.agg cs.toArray, .int .i64 e] ∧ CutR names H' cs e := by rcases h7 with rfl | rfl | rfl; exact c105 h1 h2 h3 h4 b7 b9 b8 hnm; exact c106 h1 h2 h3 h4 b7 b9 b8 hnm; exact c107 h1 h2 h3 h4 b7 b9 b8 hnm
 refine sq rfl (TK.callP hD rfl rfl (entV (cs := []) d1 rfl rfl) (d4) ?_)
 rintro v0 H1 ⟨d3, e1, rfl, h9⟩ h5
 have ⟨h1, h2, h3, h4⟩ := mo4 h5 h1 h2 h3 h4
 obtain ⟨u1, A0, n5, c28, rfl⟩ := h9.1
 refine g3 ?_
 refine aL fun d5 => ?_
 refine sG 0 ?_
 refine g7a ?_
 intros
 refine cN ?_ ?_ <;> intro d2
 refine g4a ?_
 intros
 refine sG 2 ?_
 refine g2 ?_
 refine rD 2 [] results65 ?_
 exact ⟨rfl, _, _, rfl, h9⟩
 refine g4 ?_
 exact nK c0 ⟨i + 1, (h6.trans h5), oM, rfl, rfl, rfl⟩
 refine g4a ?_
 intros
 refine sq rfl (fP hD rfl call108 rfl (c108 h1 h2 h3 h4 b7 b9 b8 hnm) ?_)
 rintro v1 H0 ⟨c1, e0, rfl, b4⟩ h8
 have ⟨h1, h2, h3, h4⟩ := mo4 h8 h1 h2 h3 h4
 obtain ⟨u0, A5, n0, c43, rfl⟩ := b4.1
 refine g2 ?_
 refine sG 1 ?_
 refine g2 ?_
 refine rD 1 [] results65 ?_
 exact ⟨rfl, _, _, rfl, b4⟩
end
section
open Go.Proofs.Tryz Go.Lib
attribute [local irreducible] TK Yl OpK AnyT wpList Code.wp
theorem info158 : (PP.info? 158).map (·.size) = some 2 := by kernel_rfl
theorem lies158 : liesAt PP PP.depth 158 (2 / PP.cellsOf 158) 0 158 1 = true := by kernel_rfl
theorem cells5 : PP.cellsOf 5 = 1 := by kernel_rfl
theorem ext190 : (Tryz.f190.name == "runtime.NumGoroutine") = false ∧ Tryz.f190.body.isNone = true ∧ Extern.findNext Tryz.f190 = none ∧ Extern.find Tryz.f190 = some Extern.AbiNoEscape.same := ⟨by kernel_rfl, by kernel_rfl, by kernel_rfl, by kernel_rfl⟩
section
variable {n : Nat} {E : Env} {H : Ghost} {O : List HL} {dst : Option Nat} {ty : TypeId} {pos : String} {af : Array Edge} {gd : Option (Nat × Bool)}
theorem yNeq158 {t' : Nat} (hx : ev E x = some (.pointer (some p))) (hy : ev E y = some (.pointer (some p))) : Yl PP n E H O ⟨dst, .binOp .neq 155 x y t', ty, pos, af, gd⟩ (.bool false) := by
 obtain ⟨j, hj, _⟩ := Option.map_eq_some_iff.1 info158
 exact yNeqPtrSame uC hj hx hy
theorem yToU158 {i b : Nat} {u v : Value} (hO : O[i]? = some (.blk b 158 [u, v])) (hx : ev E x = some (.pointer (ad b))) : Yl PP n E H O ⟨dst, .convert 155 258 x, ty, pos, af, gd⟩ (.pointer (ad b)) := by
 obtain ⟨j, hj, hs⟩ := Option.map_eq_some_iff.1 info158
 exact yToUnsafe hO uC uC hj (by rw [hs]; decide) (by simp) hx
theorem yFromU158 {i b : Nat} {u v : Value} (hO : O[i]? = some (.blk b 158 [u, v])) (hx : ev E x = some (.pointer (ad b))) : Yl PP n E H O ⟨dst, .convert 258 155 x, ty, pos, af, gd⟩ (.pointer (ad b)) := by
 obtain ⟨j, hj, hs⟩ := Option.map_eq_some_iff.1 info158
 exact yFromUnsafe hO uC uC hj lies158 hx
end
def bAddr (b : Nat) (p : OA) : Prop := p = none ∨ p = some ⟨b, 0, none⟩
theorem c141f {A : OA} {n c : Nat} : Ct PP 141 #[.pointer (ad b)] H [.blk b 158 [.pointer none, .slice A n c]] fun v H' O' => O' = [.blk b 158 [.pointer (ad b), .slice A n c]] := by
 refine cB func141 ntmps141 fun I hD hI h4 => ?_
 refine g6a ?_
 intros
 refine q (yEqlPtrNil uC rfl rfl) rfl rfl rfl ?_
 refine g5 ?_
 refine q (yToU158 (i := 0) rfl rfl) rfl rfl rfl ?_
 refine q (yNoEscape func190 ext190.1 ext190.2.1 ext190.2.2.1 ext190.2.2.2 rfl) rfl rfl rfl ?_
 refine q (yFromU158 (i := 0) rfl rfl) rfl rfl rfl ?_
 refine g2 ?_
 refine sU 0 ?_
 refine TK.nil (TK.keep [0] dC rfl (TK.end0 results141 ?_))
 exact rfl
theorem c141u {A : OA} {n c : Nat} : Ct PP 141 #[.pointer (ad b)] H [.blk b 158 [.pointer (ad b), .slice A n c]] fun v H' O' => O' = [.blk b 158 [.pointer (ad b), .slice A n c]] := by
 refine cB func141 ntmps141 fun I hD hI h4 => ?_
 refine g6a ?_
 intros
 refine q (yEqlPtrNil uC rfl rfl) rfl rfl rfl ?_
 refine g9a ?_
 intros
 refine q (yNeq158 rfl rfl) rfl rfl rfl ?_
 refine g2 ?_
 refine TK.skip (TK.keep [0] dC rfl (TK.end0 results141 ?_))
 exact rfl
theorem c141 {A : OA} {n c : Nat} (hp : bAddr b p) : Ct PP 141 #[.pointer (ad b)] H [.blk b 158 [.pointer p, .slice A n c]] fun v H' O' => O' = [.blk b 158 [.pointer (ad b), .slice A n c]] := by
 rcases hp with rfl | rfl
 ·exact c141f
 ·exact c141u
theorem byte_snoc {l : List UInt8} {y : Int} (hy : ((UInt8.ofNat y.toNat).toNat : Int) = y) : byteCells l ++ [.int .u8 y] = byteCells (l ++ [UInt8.ofNat y.toNat]) := by rw [byteCells_append, show byteCells [UInt8.ofNat y.toNat] = [.int .u8 ((UInt8.ofNat y.toNat).toNat : Int)] from rfl, hy]
theorem u8_of {y : Int} (h0 : 0 ≤ y) (h1 : y ≤ 255) : ((UInt8.ofNat y.toNat).toNat : Int) = y := by
 have : (UInt8.ofNat y.toNat).toNat = y.toNat := by rw [UInt8.toNat_ofNat']; omega
 omega
theorem c91 {n c : Nat} {A : OA} {l : List UInt8} (hp : bAddr b p) {y : Int} (h0 : 0 ≤ y) (h1 : y ≤ 255) (hn : n ≤ 1000000) : Ct PP 91 #[.pointer (ad b), .int .u8 y] H [.blk b 158 [.pointer p, .slice A n c], .row 5 1 (.slice A n c) n (byteCells l)] fun v H' O' => v = .nilIface ∧ ∃ A' c', O' = [.blk b 158 [.pointer (ad b), .slice A' (n + 1) c'], .row 5 1 (.slice A' (n + 1) c') (n + 1) (byteCells (l ++ [UInt8.ofNat y.toNat]))] := by
 have hy := u8_of h0 h1
 refine cB func91 ntmps91 fun I hD hI h4 => ?_
 refine g7b ?_
 intros
 refine sq rfl (fT hD [0] [1] rfl call141 rfl (c141 hp) ?_)
 rintro v3 O4 rfl
 refine g9a ?_
 intros
 refine sq rfl (bS [.int .u8 y] fun b6 => ?_)
 refine sq rfl (aR 2 fun A7 c8 => ?_)
 refine g2 ?_
 refine sU 1 ?_
 refine g5a ?_
 intros
 refine kP [1, 2] ?_
 refine rT results91 ?_
 exact ⟨rfl, A7, c8, by rw [← byte_snoc hy]; rfl⟩
theorem c170 {n c : Nat} {A : OA} {l : List UInt8} (hp : bAddr b p) {s : BA} (hn : n + s.size ≤ 1000000) : Ct PP 170 #[.pointer (ad b), .string s] H [.blk b 158 [.pointer p, .slice A n c], .row 5 1 (.slice A n c) n (byteCells l)] fun v H' O' => v = .tuple #[.int .i64 (s.size : Int), .nilIface] ∧ ∃ A' c', O' = [.blk b 158 [.pointer (ad b), .slice A' (n + s.size) c'], .row 5 1 (.slice A' (n + s.size) c') (n + s.size) (byteCells (l ++ s.data.toList))] := by
 refine cB func170 ntmps170 fun I hD hI h4 => ?_
 refine g8b ?_
 intros
 refine sq rfl (fT hD [0] [1] rfl call141 rfl (c141 hp) ?_)
 rintro v3 O4 rfl
 refine g9a ?_
 intros
 refine sq rfl (tAppendS hD (i := 1) (l := l) rfl uC uC iC rfl rfl oM dC fun A6 c7 => ?_)
 refine g2 ?_
 refine sU 0 ?_
 refine g8a ?_
 intros
 refine r2 results170 ?_
 exact ⟨rfl, _, _, rfl⟩
theorem c92 {n c : Nat} {A p : OA} {l : List UInt8} (hn : n ≤ 1000000) : Ct PP 92 #[.pointer (ad b)] H [.blk b 158 [.pointer p, .slice A n c], .row 5 1 (.slice A n c) n (byteCells l)] fun v H' O' => O' = [.blk b 158 [.pointer p, .slice A n c]] ∧ v = .string ⟨l.toArray⟩ := by
 refine cB func92 ntmps92 fun I hD hI h5 => ?_
 refine g5b ?_
 intros
 refine ts 10 fun _ => ?_
 refine tj 0 ?_
 refine g3 ?_
 refine tj 5 ?_
 refine g4 ?_
 refine oI 4 rfl kR (tSliceData (i := 1) rfl uC rfl dC fun b4 h4 => ?_)
 refine g2 ?_
 refine sq rfl (tUnsafeString (i := 1) (l := l) rfl uC cells5 rfl h4 rfl dC oM ?_)
 refine g2 ?_
 refine rT results92 ?_
 exact ⟨rfl, rfl⟩
theorem ext253 : (Tryz.f253.name == "runtime.NumGoroutine") = false ∧ Tryz.f253.body.isNone = true ∧ Extern.findNext Tryz.f253 = none ∧ Extern.find Tryz.f253 = some (Extern.BytealgMakeNoZero.makeNoZero #[3] #[156]) := ⟨by kernel_rfl, by kernel_rfl, by kernel_rfl, by kernel_rfl⟩
theorem info5 : (PP.info? 5).map (·.size) = some 1 := by kernel_rfl
def joinT (l : LB) : List UInt8 := l.flatMap fun s => 32 :: s.data.toList
def joinB : LB → BA
 | [] => ⟨#[]⟩
 | x :: r => ⟨(x.data.toList ++ joinT r).toArray⟩
theorem joinB_one {x : BA} : joinB [x] = x := by
 have : joinB [x] = ⟨(x.data.toList ++ []).toArray⟩ := rfl
 rw [this]; simp
theorem joinT_next {l : LB} {i : Nat} (h : l[i]? = some x) : joinT (l.take (i + 1)) = joinT (l.take i) ++ [32] ++ x.data.toList := by
 rw [List.take_add_one, h]; simp [joinT]
theorem name_no32 (h : isName s = true) : s.data.toList ≠ [] ∧ ∀ c ∈ s.data.toList, c ≠ 32 := by
 unfold isName at h
 cases hs : s.data.toList with
 | nil => rw [hs] at h; cases h
 | cons c r =>
  rw [hs] at h
  simp only [Bool.and_eq_true, List.all_eq_true] at h
  refine ⟨by simp, fun d hd he => ?_⟩
  have := h.2.2 d hd
  rw [he] at this
  revert this
  decide
theorem app_inj : ∀ {x y : List UInt8} {r q : LB}, (∀ c ∈ x, c ≠ 32) → (∀ c ∈ y, c ≠ 32) → x ++ joinT r = y ++ joinT q → x = y ∧ joinT r = joinT q
 | [], [], r, q, _, _, h => ⟨rfl, h⟩
 | [], b :: y, [], q, _, hy, h => by simp [joinT] at h
 | [], b :: y, s :: r, q, _, hy, h => by
  have e : joinT (s :: r) = 32 :: (s.data.toList ++ joinT r) := rfl
  rw [e] at h
  injection h with h1 h2
  exact absurd h1.symm (hy b (by simp))
 | a :: x, [], r, [], hx, _, h => by simp [joinT] at h
 | a :: x, [], r, s :: q, hx, _, h => by
  have e : joinT (s :: q) = 32 :: (s.data.toList ++ joinT q) := rfl
  rw [e] at h
  injection h with h1 h2
  exact absurd h1 (hx a (by simp))
 | a :: x, b :: y, r, q, hx, hy, h => by
  injection h with h1 h2
  obtain ⟨h3, h4⟩ := app_inj (fun c hc => hx c (by simp [hc])) (fun c hc => hy c (by simp [hc])) h2
  exact ⟨by rw [h1, h3], h4⟩
theorem joinT_inj : ∀ {r q : LB}, (∀ s ∈ r, isName s = true) → (∀ s ∈ q, isName s = true) → joinT r = joinT q → r = q
 | [], [], _, _, _ => rfl
 | [], s :: q, _, _, h => by simp [joinT] at h
 | s :: r, [], _, _, h => by simp [joinT] at h
 | s :: r, t :: q, h1, h2, h => by
  have e : ∀ (s : BA) (r : LB), joinT (s :: r) = 32 :: (s.data.toList ++ joinT r) := fun s r => rfl
  rw [e, e] at h
  injection h with _ h
  obtain ⟨h3, h4⟩ := app_inj (name_no32 (h1 s (by simp))).2 (name_no32 (h2 t (by simp))).2 h
  have h5 : s = t := by
   obtain ⟨⟨a⟩⟩ := s; obtain ⟨⟨b⟩⟩ := t
   simp only at h3; rw [h3]
  rw [h5, joinT_inj (fun x hx => h1 x (by simp [hx])) (fun x hx => h2 x (by simp [hx])) h4]
theorem joinB_inj {l q : LB} (h1 : ∀ s ∈ l, isName s = true) (h2 : ∀ s ∈ q, isName s = true) (h : joinB l = joinB q) : l = q := by
 have hd : ∀ {a b : List UInt8}, (⟨a.toArray⟩ : BA) = ⟨b.toArray⟩ → a = b := fun {a b} h => by
  injection h with h
  simpa using congrArg Array.toList h
 cases l with
 | nil => cases q with
  | nil => rfl
  | cons y q =>
   have := hd (a := []) (b := y.data.toList ++ joinT q) h
   have h3 := (name_no32 (h2 y (by simp))).1
   exact absurd (List.append_eq_nil_iff.1 this.symm).1 h3
 | cons x l => cases q with
  | nil =>
   have := hd (a := x.data.toList ++ joinT l) (b := []) h
   have h3 := (name_no32 (h1 x (by simp))).1
   exact absurd (List.append_eq_nil_iff.1 this).1 h3
  | cons y q =>
   have := hd (a := x.data.toList ++ joinT l) (b := y.data.toList ++ joinT q) h
   obtain ⟨h3, h4⟩ := app_inj (name_no32 (h1 x (by simp))).2 (name_no32 (h2 y (by simp))).2 this
   have h5 : x = y := by
    obtain ⟨⟨a⟩⟩ := x; obtain ⟨⟨b⟩⟩ := y
    simp only at h3; rw [h3]
   rw [h5, joinT_inj (fun x hx => h1 x (by simp [hx])) (fun x hx => h2 x (by simp [hx])) h4]
theorem c200 {p : OA} {k : Nat} (hk : k ≤ 100000) : Ct PP 200 #[.pointer (ad b), .int .i64 (k : Int)] H [.blk b 158 [.pointer p, .slice none 0 0], .row 5 1 (.slice none 0 0) 0 []] fun v H' O' => ∃ A' c', O' = [.row 5 1 (.slice A' 0 c') 0 [], .blk b 158 [.pointer p, .slice A' 0 c']] := by
 refine cB func200 ntmps200 fun I hD hI h4 => ?_
 refine g1a ?_
 intros
 refine ts 16 fun _ => ?_
 refine tj 0 ?_
 refine g3 ?_
 refine tk 4 rfl kR aS nP kS (yCap uC rfl) rfl rfl rfl ?_
 refine g3 ?_
 refine tj 9 ?_
 refine g4 ?_
 refine oI 8 rfl kR (tMakeNoZero (k := ((0 : Int) + (k : Int) : Int).toNat) hD func253 ext253.1 ext253.2.1 ext253.2.2.1 ext253.2.2.2 uC rfl oM dC fun b3 c4 h5 => ?_)
 refine g1 ?_
 refine tj 14 ?_
 refine g10a ?_
 intros
 refine q (yCopy0 uC info5 rfl rfl rfl) rfl rfl rfl ?_
 refine g6 ?_
 refine sU 1 ?_
 refine TK.nil (TK.keep [0, 1] dC rfl (TK.end0 results200 ?_))
 exact ⟨_, _, by rw [cutA_zero]; rfl⟩
theorem c169 {k : Nat} (hk : k ≤ 100000) : Ct PP 169 #[.pointer (ad b), .int .i64 (k : Int)] H [.blk b 158 [.pointer none, .slice none 0 0], .row 5 1 (.slice none 0 0) 0 []] fun v H' O' => ∃ A' c', O'.Perm [.row 5 1 (.slice A' 0 c') 0 [], .blk b 158 [.pointer (ad b), .slice A' 0 c']] := by
 refine cB func169 ntmps169 fun I hD hI h4 => ?_
 refine g3a ?_
 intros
 refine sq rfl (fT hD [0] [1] rfl call141 rfl (c141 (.inl rfl)) ?_)
 rintro v2 O3 rfl
 refine g7b ?_
 intros
 refine cD ?_ ?_ <;> intro h5
 refine g1 ?_
 exfalso; omega
 refine g2a ?_
 intros
 refine ts 13 fun _ => ?_
 refine tj 0 ?_
 refine g3 ?_
 refine tk 4 rfl kR aS nP kS (yCap uC rfl) rfl rfl rfl ?_
 refine g10 ?_
 refine cD ?_ ?_ <;> intro h6
 refine g3 ?_
 refine sq rfl (fT hD [0, 1] [] rfl call200 rfl (c200 oM) ?_)
 rintro v0 O1 ⟨A0, c11, rfl⟩
 refine TK.nil (TK.keep [0, 1] dC rfl (TK.end0 results169 ?_))
 exact ⟨_, _, .refl _⟩
 refine TK.skip (TK.keep [0, 1] dC rfl (TK.end0 results169 ?_))
 exact ⟨_, _, .swap _ _ _⟩
theorem CtG.permO {D : Prop} {H : Ghost} {O : List HL} {α β : Type} {Of : α → β → List HL} (h : CtG D P f args H O fun v H' O' => ∃ a b, O'.Perm (Of a b)) : CtG D P f args H O fun v H' O' => ∃ a b, O' = Of a b :=
 fun w hs => (h w hs).mono fun e w' ⟨v, H', O', he, ⟨a, b, hp⟩, h4⟩ => ⟨v, H', _, he, ⟨a, b, rfl⟩, h4.permR hp⟩
section
variable {P : Program} {n : Nat} {E : Env} {H : Ghost} {O : List HL} {dst : Option Nat} {ty : TypeId} {pos : String} {af : Array Edge} {gd : Option (Nat × Bool)}
attribute [local semireducible] TK Yl OpK AnyT wpList Code.wp in
theorem yQuo {t t' : Nat} {p q : Int} (hx : ev E x = some (.int .i64 p)) (hy : ev E y = some (.int .i64 q)) (h0 : 0 ≤ p ∧ p ≤ 9223372036854775807) (h1 : 0 < q) : Yl P n E H O ⟨dst, .binOp .quo t x y t', ty, pos, af, gd⟩ (.int .i64 (p / q)) := by
 intro a w ha _
 have hg : (eqGuard .quo t x y (.int .i64 p) (.int .i64 q)).run P w = .ok () w := by unfold eqGuard; rfl
 have hq : ¬ q = 0 := by omega
 have h4 : p.tdiv q = p / q := Int.tdiv_eq_ediv_of_nonneg h0.1
 have hd0 : 0 ≤ p / q := Int.ediv_nonneg h0.1 oM
 have h5 : p / q ≤ p := Int.ediv_le_self _ h0.1
 have hw : IntKind.i64.wrap (p / q) = p / q := by simp [IntKind.wrap, IntKind.bits, IntKind.signed]; omega
 simp [execOp, ha.eval hx, ha.eval hy, Sem.run_bind, hg, Result.andThen_ok, binOp, Op.intDiv, hq, h4, hw]
end
theorem big_quo {n : Nat} (h1 : 1 < n) (h2 : n ≤ 1000) : 1000 < (9223372036854775807 : Int) / ((n : Int) - 1) := by
 rw [Int.lt_iff_add_one_le, Int.le_ediv_iff_mul_le oM]; omega
theorem join_all {l : LB} {i : Nat} (h : l[0]? = some x) (hi : (l.drop 1).length ≤ i) : (⟨(x.data.toList ++ joinT ((l.drop 1).take i)).toArray⟩ : BA) = joinB l := by
 cases l with
 | nil => simp at h
 | cons y r => simp at h; subst h; rw [List.take_of_length_le hi]; rfl
theorem list_one {α : Type} {l : List α} {x : α} (h : l.length = 1) (hx : l[0]? = some x) : l = [x] := by
 match l, h with
 | [a], _ => simp at hx; subst hx; rfl
theorem c111 {l : LB} {sep : BA} (hl : Sl rStr H l A n c) (hs1 : sep.size = 1) (hs2 : sep.data.toList = [32]) (hsz : ∀ s ∈ l, s.size ≤ 40) (hn : n ≤ 1000) : Ct PP 111 #[.slice A n c, .string sep] H [] fun v H' O' => O' = [] ∧ v = .string (joinB l) := by
 have k3 := hl.len
 refine cB func111 ntmps111 fun I hD hI l2 => ?_
 refine g16d ?_
 intros
 refine cD ?_ ?_ <;> intro k2
 refine g4a ?_
 intros
 refine rT results111 ?_
 exact ⟨rfl, by rw [List.eq_nil_of_length_eq_zero (show l.length = 0 by omega)]; rfl⟩
 refine g5a ?_
 intros
 refine cD ?_ ?_ <;> intro k7
 refine g3a ?_
 intros
 obtain ⟨j5, d0⟩ := eX hl 0
 obtain ⟨k9, o7, i8, j3⟩ := hl.atS d0
 refine g4 ?_
 refine rT results111 ?_
 exact ⟨rfl, by rw [show l = [j5] from list_one oM d0, joinB_one]⟩
 refine g12c ?_
 intros
 refine cD ?_ ?_ <;> intro k1
 have k4 := big_quo (n := n) oM oM
 refine g7b ?_
 intros
 refine q (ySub rfl rfl (by first | omega | (rw [hs1]; omega)) (by first | omega | (rw [hs1]; omega))) rfl rfl rfl ?_
 refine q (yQuo rfl rfl ⟨by decide, by decide⟩ oM) rfl rfl rfl ?_
 refine g2 ?_
 refine cD ?_ ?_ <;> intro j6
 refine g1 ?_
 exfalso; omega
 refine g7 ?_
 refine q (ySub rfl rfl (by first | omega | (rw [hs1]; omega)) (by first | omega | (rw [hs1]; omega))) rfl rfl rfl ?_
 refine q (yMul rfl rfl (by first | omega | (rw [hs1]; omega)) (by first | omega | (rw [hs1]; omega))) rfl rfl rfl ?_
 refine q (yAdd rfl rfl (by first | omega | (rw [hs1]; omega)) (by first | omega | (rw [hs1]; omega))) rfl rfl rfl ?_
 refine g10b ?_
 intros
 refine lp0 (fun D E H' O m => ∃ (i : Nat) (t : Int), H = H' ∧ (i ≤ n) ∧ (0 ≤ t ∧ t ≤ 1000 + 40 * i) ∧ m = n - i ∧ O = [] ∧ E = (5, .int .i64 t) :: (41, .int .i64 (i : Int)) :: D) [0, 1, 39, 40] [] ⟨0, (0 : Int) + ((sep.size : Int) * ((n : Int) - 1)), rfl, Nat.zero_le _, (by rw [hs1]; omega), rfl, rfl, rfl⟩ ?_
 rintro _ _ _ _ ⟨i, t, rfl, hi, ht, rfl, rfl, rfl⟩ _ d2
 refine g5b ?_
 intros
 refine cD ?_ ?_ <;> intro i4
 refine g5b ?_
 intros
 obtain ⟨i6, c1⟩ := eX hl i
 obtain ⟨k8, o8, k0, i9⟩ := hl.atS c1
 refine g7b ?_
 intros
 have e8 := hsz _ (mG c1)
 refine g3 ?_
 refine q (ySub rfl rfl (by first | omega | (rw [hs1]; omega)) (by first | omega | (rw [hs1]; omega))) rfl rfl rfl ?_
 refine g2 ?_
 refine cD ?_ ?_ <;> intro j9
 refine g1 ?_
 exfalso; omega
 refine g5 ?_
 refine q (yAdd rfl rfl (by first | omega | (rw [hs1]; omega)) (by first | omega | (rw [hs1]; omega))) rfl rfl rfl ?_
 refine g3 ?_
 refine q (yAdd rfl rfl (by first | omega | (rw [hs1]; omega)) (by first | omega | (rw [hs1]; omega))) rfl rfl rfl ?_
 refine g1 ?_
 exact nK d2 ⟨i + 1, t + (i6.size : Int), rfl, oM, oM, rfl, rfl, rfl⟩
 refine g3a ?_
 intros
 refine aL fun e0 => ?_
 refine g3a ?_
 intros
 refine newRow 5 1 ?_
 obtain ⟨tk, rfl⟩ : ∃ tk : Nat, t = (tk : Int) := ⟨t.toNat, by omega⟩
 refine g1 ?_
 refine sq rfl (fT hD [1, 0] [] rfl call169 rfl (CtG.permO (c169 (k := tk) oM)) ?_)
 rintro v9 l0 ⟨A6, c49, rfl⟩
 refine g4a ?_
 intros
 obtain ⟨b5, c0⟩ := eX hl 0
 obtain ⟨l1, o9, f9, f8⟩ := hl.atS c0
 refine g2 ?_
 have b8 := c0
 have d5 := hsz _ (mG b8)
 refine sq rfl (fT hD [1, 0] [] rfl call170 rfl (c170 (s := b5) (l := []) (n := 0) (.inr rfl) oM) ?_)
 rintro v5 O9 ⟨rfl, A5, i7, rfl⟩
 refine g5b ?_
 intros
 have h9 := hl.cut (l := 1) oM
 refine g5 ?_
 have d6 := h9.len
 rw [show [] ++ b5.data.toList = b5.data.toList ++ joinT ((l.drop 1).take 0) by simp [joinT]]
 refine lp0 (fun D E H' O m => ∃ (i kk : Nat) (Aw : OA) (cw : Nat), H = H' ∧ (i ≤ n - 1) ∧ (kk ≤ 40 + 41 * i) ∧ m = n - 1 - i ∧ O = [.blk e0 158 [.pointer (ad e0), .slice Aw kk cw], .row 5 1 (.slice Aw kk cw) kk (byteCells (b5.data.toList ++ joinT ((l.drop 1).take i)))] ∧ E = (65, .int .i64 (i : Int)) :: D) [1, 8, 63, 64] [0, 1] ⟨0, 0 + b5.size, A5, i7, rfl, Nat.zero_le _, oM, rfl, rfl, rfl⟩ ?_
 rintro _ _ _ _ ⟨i, kk, Aw, cw, rfl, hi, j2, rfl, rfl, rfl⟩ _ d3
 refine g5b ?_
 intros
 refine cD ?_ ?_ <;> intro e9
 refine g5b ?_
 intros
 obtain ⟨d4, h6⟩ := eX h9 i
 obtain ⟨k5, k6, j7, j1⟩ := h9.atS h6
 refine g7a ?_
 intros
 refine sq rfl (fT hD [0, 1] [] rfl call170 rfl (c170 (s := sep) (l := b5.data.toList ++ joinT ((l.drop 1).take i)) (n := kk) (.inr rfl) oM) ?_)
 rintro v6 O8 ⟨rfl, A7, c85, rfl⟩
 refine g3 ?_
 refine sq rfl (fT hD [0, 1] [] rfl call170 rfl (c170 (s := d4) (l := b5.data.toList ++ joinT ((l.drop 1).take i) ++ sep.data.toList) (n := kk + sep.size) (.inr rfl) (by have := hsz _ (List.mem_of_mem_drop (mG h6)); omega)) ?_)
 rintro v8 O6 ⟨rfl, A4, c89, rfl⟩
 refine g2 ?_
 refine q (yAdd rfl rfl (by first | omega | (rw [hs1]; omega)) (by first | omega | (rw [hs1]; omega))) rfl rfl rfl ?_
 refine g1 ?_
 rw [show b5.data.toList ++ joinT ((l.drop 1).take i) ++ sep.data.toList ++ d4.data.toList = b5.data.toList ++ joinT ((l.drop 1).take (i + 1)) by rw [joinT_next h6, hs2]; simp only [List.append_assoc]]
 exact nK d3 ⟨i + 1, kk + sep.size + d4.size, A4, c89, rfl, oM, (by have := hsz _ (List.mem_of_mem_drop (mG h6)); omega), rfl, rfl, rfl⟩
 refine g3a ?_
 intros
 refine sq rfl (fT hD [0, 1] [] rfl call92 rfl (c92 (l := b5.data.toList ++ joinT ((l.drop 1).take i)) oM) ?_)
 rintro v7 O7 ⟨rfl, rfl⟩
 refine g2 ?_
 refine kP [] ?_
 refine rT results111 ?_
 exact ⟨rfl, congrArg Value.string (join_all b8 (by rw [d6]; omega))⟩
 refine g9b ?_
 intros
 refine lp0 (fun D E H' O m => ∃ (i : Nat) (t : Int), H = H' ∧ (i ≤ n) ∧ (0 ≤ t ∧ t ≤ 1000 + 40 * i) ∧ m = n - i ∧ O = [] ∧ E = (5, .int .i64 t) :: (41, .int .i64 (i : Int)) :: D) [0, 1, 39, 40] [] ⟨0, 0, rfl, Nat.zero_le _, oM, rfl, rfl, rfl⟩ ?_
 rintro _ _ _ _ ⟨i, t, rfl, hi, ht, rfl, rfl, rfl⟩ _ b7
 refine g5b ?_
 intros
 refine cD ?_ ?_ <;> intro e7
 refine g5b ?_
 intros
 obtain ⟨d7, h7⟩ := eX hl i
 obtain ⟨j0, o6, d9, e3⟩ := hl.atS h7
 refine g7b ?_
 intros
 have e8 := hsz _ (mG h7)
 refine g3 ?_
 refine q (ySub rfl rfl (by first | omega | (rw [hs1]; omega)) (by first | omega | (rw [hs1]; omega))) rfl rfl rfl ?_
 refine g2 ?_
 refine cD ?_ ?_ <;> intro e6
 refine g1 ?_
 exfalso; omega
 refine g5 ?_
 refine q (yAdd rfl rfl (by first | omega | (rw [hs1]; omega)) (by first | omega | (rw [hs1]; omega))) rfl rfl rfl ?_
 refine g3 ?_
 refine q (yAdd rfl rfl (by first | omega | (rw [hs1]; omega)) (by first | omega | (rw [hs1]; omega))) rfl rfl rfl ?_
 refine g1 ?_
 exact nK b7 ⟨i + 1, t + (d7.size : Int), rfl, oM, oM, rfl, rfl, rfl⟩
 refine g3a ?_
 intros
 refine aL fun d1 => ?_
 refine g3a ?_
 intros
 refine newRow 5 1 ?_
 obtain ⟨tk, rfl⟩ : ∃ tk : Nat, t = (tk : Int) := ⟨t.toNat, by omega⟩
 refine g1 ?_
 refine sq rfl (fT hD [1, 0] [] rfl call169 rfl (CtG.permO (c169 (k := tk) oM)) ?_)
 rintro v4 O3 ⟨A2, i5, rfl⟩
 refine g4a ?_
 intros
 obtain ⟨b4, h8⟩ := eX hl 0
 obtain ⟨j4, o5, d8, e2⟩ := hl.atS h8
 refine g2 ?_
 have b8 := h8
 have d5 := hsz _ (mG b8)
 refine sq rfl (fT hD [1, 0] [] rfl call170 rfl (c170 (s := b4) (l := []) (n := 0) (.inr rfl) oM) ?_)
 rintro v1 O2 ⟨rfl, A1, c132, rfl⟩
 refine g5b ?_
 intros
 have h5 := hl.cut (l := 1) oM
 refine g5 ?_
 have d6 := h5.len
 rw [show [] ++ b4.data.toList = b4.data.toList ++ joinT ((l.drop 1).take 0) by simp [joinT]]
 refine lp0 (fun D E H' O m => ∃ (i kk : Nat) (Aw : OA) (cw : Nat), H = H' ∧ (i ≤ n - 1) ∧ (kk ≤ 40 + 41 * i) ∧ m = n - 1 - i ∧ O = [.blk d1 158 [.pointer (ad d1), .slice Aw kk cw], .row 5 1 (.slice Aw kk cw) kk (byteCells (b4.data.toList ++ joinT ((l.drop 1).take i)))] ∧ E = (65, .int .i64 (i : Int)) :: D) [1, 8, 63, 64] [0, 1] ⟨0, 0 + b4.size, A1, c132, rfl, Nat.zero_le _, oM, rfl, rfl, rfl⟩ ?_
 rintro _ _ _ _ ⟨i, kk, Aw, cw, rfl, hi, j2, rfl, rfl, rfl⟩ _ b9
 refine g5b ?_
 intros
 refine cD ?_ ?_ <;> intro e1
 refine g5b ?_
 intros
 obtain ⟨b6, h4⟩ := eX h5 i
 obtain ⟨j8, o4, e4, e5⟩ := h5.atS h4
 refine g7a ?_
 intros
 refine sq rfl (fT hD [0, 1] [] rfl call170 rfl (c170 (s := sep) (l := b4.data.toList ++ joinT ((l.drop 1).take i)) (n := kk) (.inr rfl) oM) ?_)
 rintro v2 O5 ⟨rfl, A3, c157, rfl⟩
 refine g3 ?_
 refine sq rfl (fT hD [0, 1] [] rfl call170 rfl (c170 (s := b6) (l := b4.data.toList ++ joinT ((l.drop 1).take i) ++ sep.data.toList) (n := kk + sep.size) (.inr rfl) (by have := hsz _ (List.mem_of_mem_drop (mG h4)); omega)) ?_)
 rintro v0 O4 ⟨rfl, A0, c161, rfl⟩
 refine g2 ?_
 refine q (yAdd rfl rfl (by first | omega | (rw [hs1]; omega)) (by first | omega | (rw [hs1]; omega))) rfl rfl rfl ?_
 refine g1 ?_
 rw [show b4.data.toList ++ joinT ((l.drop 1).take i) ++ sep.data.toList ++ b6.data.toList = b4.data.toList ++ joinT ((l.drop 1).take (i + 1)) by rw [joinT_next h4, hs2]; simp only [List.append_assoc]]
 exact nK b9 ⟨i + 1, kk + sep.size + b6.size, A0, c161, rfl, oM, (by have := hsz _ (List.mem_of_mem_drop (mG h4)); omega), rfl, rfl, rfl⟩
 refine g3a ?_
 intros
 refine sq rfl (fT hD [0, 1] [] rfl call92 rfl (c92 (l := b4.data.toList ++ joinT ((l.drop 1).take i)) oM) ?_)
 rintro v3 O1 ⟨rfl, rfl⟩
 refine g2 ?_
 refine kP [] ?_
 refine rT results111 ?_
 exact ⟨rfl, congrArg Value.string (join_all b8 (by rw [d6]; omega))⟩
end
end Go.Proofs.YtookcfeogbeooaaGreatDoor
