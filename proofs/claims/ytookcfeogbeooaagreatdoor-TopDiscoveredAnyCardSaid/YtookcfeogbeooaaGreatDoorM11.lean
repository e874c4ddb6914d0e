/-
Graphs of what follows what. The graph of variants. The graph of variants, 2. The graph of variants, 3: dfg.Make. Relations of graphs. Relations of graphs as they lie in sealed memory. Relations of graphs, 2.
Conditions: those that each theorem states.
-/
import Derived.Test.YtookcfeogbeooaaGreatDoorM10
set_option linter.all false
set_option maxRecDepth 100000
set_option maxHeartbeats 8000000
set_option autoImplicit true
set_option relaxedAutoImplicit true
namespace Go.Proofs.YtookcfeogbeooaaGreatDoor
open Go Go.Proofs
section
open Go.Proofs.Tryz
attribute [local irreducible] TK Yl OpK AnyT wpList Code.wp
theorem cmpN_swo (x y z : Cnt) : ¬ cmpS x.name x.name < 0 ∧ (cmpS x.name y.name < 0 → cmpS y.name z.name < 0 → cmpS x.name z.name < 0) ∧ (¬ cmpS x.name y.name < 0 → ¬ cmpS y.name z.name < 0 → ¬ cmpS x.name z.name < 0) := cmpS_lin.swo _ _ _
def cmpF (x y : Flw) : Int := lexC cmpS cmpS (x.src, x.dst) (y.src, y.dst)
theorem cmpF_swo (x y z : Flw) : ¬ cmpF x x < 0 ∧ (cmpF x y < 0 → cmpF y z < 0 → cmpF x z < 0) ∧ (¬ cmpF x y < 0 → ¬ cmpF y z < 0 → ¬ cmpF x z < 0) := (cmpS_lin.lex cmpS_lin).swo _ _ _
def firstI : LI → Int
 | [] => 0
 | x :: r => if x = 0 then firstI r else x
theorem firstI_next {l : LI} {i : Nat} (hx : l[i]? = some x) : firstI (l.drop i) = if x = 0 then firstI (l.drop (i + 1)) else x := by
 obtain ⟨h, rfl⟩ := gE hx
 rw [List.drop_eq_getElem_cons h, firstI]
theorem firstI_end {l : LI} {i : Nat} (h : l.length ≤ i) : firstI (l.drop i) = 0 := by rw [List.drop_of_length_le h]; rfl
theorem c193 {x y : Cnt} : CtD PP 193 #[.agg #[.string x.name, .int .i64 x.n], .agg #[.string y.name, .int .i64 y.n]] H [] fun v H' O' => O' = [] ∧ v = .int .i64 (cmpS x.name y.name) := by
 refine cB func193 ntmps193 fun I hD hI h4 => ?_
 refine g2a ?_
 intros
 refine bG fun b2 => ?_
 refine bG fun b3 => ?_
 refine g8a ?_
 intros
 refine sq rfl (fS hD rfl call100 rfl c100 ?_)
 rintro v5 rfl
 refine g2 ?_
 refine kP [] ?_
 refine rT results193 ?_
 exact ⟨rfl, rfl⟩
theorem c187 (hl : Sl rInt H xs A n c) : CtD PP 187 #[.slice A n c] H [] fun v H' O' => O' = [] ∧ v = .int .i64 (firstI xs) := by
 have hn := hl.2.2.1
 refine cB func187 ntmps187 fun I hD hI b6 => ?_
 refine g16d ?_
 intros
 refine lp0 (fun D E H' O m => ∃ (i : Nat), H = H' ∧ (i ≤ n) ∧ (firstI xs = firstI (xs.drop i)) ∧ m = n - i ∧ O = [] ∧ E = (8, .int .i64 (i : Int)) :: D) [3, 6, 7] [] ⟨0, rfl, Nat.zero_le _, rfl, rfl, rfl, rfl⟩ ?_
 rintro _ _ _ _ ⟨i, rfl, hi, hp, rfl, rfl, rfl⟩ _ h6
 refine g5b ?_
 intros
 refine cD ?_ ?_ <;> intro h9
 refine g5b ?_
 intros
 obtain ⟨b4, h4⟩ := eX hl i
 obtain ⟨b5, o4, h8, h7⟩ := hl.atI h4
 refine g10a ?_
 intros
 refine cN ?_ ?_ <;> intro h5
 refine g5a ?_
 intros
 refine rT results187 ?_
 exact ⟨rfl, congrArg (Value.int .i64) (show _ = _ by rw [hp, firstI_next h4, if_neg (by simpa using h5)])⟩
 refine g4 ?_
 exact nK h6 ⟨i + 1, rfl, oM, (by rw [hp, firstI_next h4, if_pos (by simpa using h5)]), rfl, rfl, rfl⟩
 refine g6a ?_
 intros
 refine rT results187 ?_
 exact ⟨rfl, congrArg (Value.int .i64) (show _ = _ by rw [hp, firstI_end (by have := hl.len; omega)])⟩
theorem c152 {x y : Flw} : CtD PP 152 #[.agg #[.string x.src, .string x.dst, .int .i64 x.n], .agg #[.string y.src, .string y.dst, .int .i64 y.n]] H [] fun v H' O' => O' = [] ∧ v = .int .i64 (cmpF x y) := by
 refine cB func152 ntmps152 fun I hD hI h6 => ?_
 refine g2a ?_
 intros
 refine bG fun b2 => ?_
 refine bG fun b3 => ?_
 refine g3a ?_
 intros
 refine ts 9 fun _ => ?_
 refine tj 0 ?_
 refine g3 ?_
 refine tj 5 ?_
 refine g3 ?_
 refine oI 4 rfl kR (fS hD rfl call100 rfl c100 ?_)
 rintro v6 rfl
 refine g2 ?_
 refine sq rfl (fS hD rfl call100 rfl c100 ?_)
 rintro v7 rfl
 refine sq rfl (tBSlice (k := 1) (out := [.int .i64 (cmpS x.src y.src), .int .i64 (cmpS x.dst y.dst)]) uC sC nC rfl (fun zs hz => fillAll [.int .i64 (cmpS x.src y.src), .int .i64 (cmpS x.dst y.dst)] zs hz) rfl dC dC dC dC fun b8 => ?_)
 refine tR 0 (repsI [cmpS x.src y.src, cmpS x.dst y.dst]) fun H9 h5 h4 => ?_
 refine sq rfl (fS hD rfl call187 rfl (c187 h4) ?_)
 rintro v0 rfl
 refine g2 ?_
 refine kP [] ?_
 refine rT results152 ?_
 exact ⟨rfl, congrArg (Value.int .i64) (by simp only [firstI, cmpF, lexC]; split <;> (try split) <;> simp_all)⟩
theorem map_take {α β : Type} (f : α → β) {l : List α} {i : Nat} {x : α} (hx : l[i]? = some x) : (l.take (i + 1)).map f = (l.take i).map f ++ [f x] := by rw [List.take_add_one, hx]; simp
theorem c237 (hl : Sl rCnt H xs A n c) (hb : n ≤ 1000000) : Ct PP 237 #[.slice A n c] H [] fun v H' O' => O' = [] ∧ ∃ B d, v = .slice B xs.length d ∧ Sl rStr H' (xs.map (·.name)) B xs.length d := by
 have hn := hl.2.2.1
 have b7 := hl.len
 refine cB func237 ntmps237 fun I hD hI c0 => ?_
 refine g16d ?_
 intros
 refine newRow 9 1 ?_
 refine lp0 (fun D E H' O m => ∃ (i : Nat) (A3 : OA) (c3 : Nat), H = H' ∧ (i ≤ n) ∧ m = n - i ∧ O = [.row 9 1 (.slice A3 i c3) i ((xs.take i).map fun x => Value.string x.name)] ∧ E = (3, .slice A3 i c3) :: (8, .int .i64 (i : Int)) :: D) [6, 7] [0] ⟨0, none, 0, rfl, Nat.zero_le _, rfl, rfl, rfl⟩ ?_
 rintro _ _ _ _ ⟨i, A3, c3, rfl, hi, rfl, rfl, rfl⟩ _ h7
 refine g5b ?_
 intros
 refine cD ?_ ?_ <;> intro b5
 refine g5b ?_
 intros
 obtain ⟨b4, h5⟩ := eX hl i
 obtain ⟨b8, o4, _, h9, rfl, h8⟩ := hl.at_ h5
 refine g2 ?_
 refine aL fun b9 => ?_
 refine sG 0 ?_
 refine g5 ?_
 refine sq rfl (bS [.string b4.name] fun b6 => ?_)
 refine sq rfl (aR 2 fun A0 c27 => ?_)
 refine g5 ?_
 rw [← map_take (fun x : Cnt => Value.string x.name) h5]
 exact nK h7 ⟨i + 1, A0, c27, rfl, oM, rfl, rfl, rfl⟩
 refine g6a ?_
 intros
 obtain rfl : i = xs.length := by omega
 refine tSealRow (r := rStr) (ys := xs.map (·.name)) (i := 0) rfl (by have := repsS (H := H) (xs.map (·.name)); rw [List.take_of_length_le (Nat.le_refl _)]; simpa [List.map_map, Function.comp_def] using this) dC oM fun H0 h4 h6 => ?_
 have hl := hl.mono h4
 refine rT results237 ?_
 exact ⟨rfl, _, _, rfl, h6⟩
theorem c242 {k : Int} : Ct PP 242 #[.int .i64 k] H [] fun v H' O' => O' = [] ∧ v = .bool (decide (1 ≤ k ∧ k ≤ 4503599627370496)) := by
 refine cB func242 ntmps242 fun I hD hI h4 => ?_
 refine g9b ?_
 intros
 refine sD 5 ?_ ?_ <;> intro h5
 refine g5 ?_
 refine rT results242 ?_
 exact ⟨rfl, byAll (by simp_all; try omega)⟩
 refine g5 ?_
 refine rT results242 ?_
 exact ⟨rfl, byAll (by simp_all; try omega)⟩
theorem c241 {x : Cnt} : Ct PP 241 #[.agg #[.string x.name, .int .i64 x.n]] H [] fun v H' O' => O' = [] ∧ v = .bool (!decide (1 ≤ x.n ∧ x.n ≤ 4503599627370496)) := by
 refine cB func241 ntmps241 fun I hD hI h4 => ?_
 refine g2a ?_
 intros
 refine bG fun b2 => ?_
 refine g6a ?_
 intros
 refine sq rfl (fS hD rfl call242 rfl c242 ?_)
 rintro v4 rfl
 refine g3 ?_
 refine kP [] ?_
 refine rT results241 ?_
 exact ⟨rfl, rfl⟩
theorem c238 (hl : Sl rStr H xs A n c) : Ct PP 238 #[.slice A n c] H [] fun v H' O' => O' = [] ∧ ∃ r, v = .bool r ∧ (r = true → n ≤ 40) := by
 have hn := hl.2.2.1
 refine cB func238 ntmps238 fun I hD hI d1 => ?_
 refine g11c ?_
 intros
 refine cD ?_ ?_ <;> intro c0
 refine g4a ?_
 intros
 refine rT results238 ?_
 exact ⟨rfl, _, rfl, by simp⟩
 refine g9b ?_
 intros
 refine lp0 (fun D E H' O m => ∃ (i : Nat), H = H' ∧ (i ≤ n) ∧ m = n - i ∧ O = [] ∧ E = (10, .int .i64 (i : Int)) :: D) [0, 8, 9] [] ⟨0, rfl, Nat.zero_le _, rfl, rfl, rfl⟩ ?_
 rintro _ _ _ _ ⟨i, rfl, hi, rfl, rfl, rfl⟩ _ h4
 refine g5b ?_
 intros
 refine cD ?_ ?_ <;> intro h9
 refine g6b ?_
 intros
 obtain ⟨c1, h5⟩ := eX hl i
 obtain ⟨d2, o4, b7, b5⟩ := hl.atS h5
 refine g8a ?_
 intros
 refine sq rfl (fS hD rfl call51 rfl c51 ?_)
 rintro v0 rfl
 refine g2 ?_
 refine sB 18 ?_ ?_ <;> intro h8
 refine g18a ?_
 intros
 refine rT results238 ?_
 exact ⟨rfl, _, rfl, by simp⟩
 refine g3 ?_
 refine sD 21 ?_ ?_ <;> intro b6
 refine g3 ?_
 obtain ⟨d0, h6⟩ := Sl.ex hl (i := ((i : Int) - 1 : Int).toNat) oM
 obtain ⟨b9, o5, b8, b4⟩ := hl.atS h6
 refine g7 ?_
 refine cN ?_ ?_ <;> intro h7
 refine g4a ?_
 intros
 refine rT results238 ?_
 exact ⟨rfl, _, rfl, by simp⟩
 refine g4 ?_
 exact nK h4 ⟨i + 1, rfl, oM, rfl, rfl, rfl⟩
 refine g15 ?_
 exact nK h4 ⟨i + 1, rfl, oM, rfl, rfl, rfl⟩
 refine g5a ?_
 intros
 refine rT results238 ?_
 exact ⟨rfl, _, rfl, fun _ => by omega⟩
theorem c239 (hl : Sl rStr H xs A n c) (hk : Sl rStr H ys B m d) : Ct PP 239 #[.slice A n c, .slice B m d] H [] fun v H' O' => O' = [] ∧ ∃ r, v = .bool r ∧ (r = true → ∀ s ∈ xs, s ∈ ys) := by
 have hn := hl.2.2.1
 refine cB func239 ntmps239 fun I hD hI d2 => ?_
 refine g12c ?_
 intros
 refine lp0 (fun D E H' O m' => ∃ (i : Nat), H = H' ∧ (i ≤ n) ∧ (∀ (j : Nat) (s : BA), j < i → xs[j]? = some s → s ∈ ys) ∧ m' = n - i ∧ O = [] ∧ E = (9, .int .i64 (i : Int)) :: D) [0, 1, 7, 8] [] ⟨0, rfl, Nat.zero_le _, upto_zero, rfl, rfl, rfl⟩ ?_
 rintro _ _ _ _ ⟨i, rfl, hi, hp, rfl, rfl, rfl⟩ _ h6
 refine g5b ?_
 intros
 refine cD ?_ ?_ <;> intro h9
 refine g6b ?_
 intros
 obtain ⟨c1, h4⟩ := eX hl i
 obtain ⟨d1, o5, b9, b5⟩ := hl.atS h4
 refine g10a ?_
 intros
 refine sD 16 ?_ ?_ <;> intro b7
 refine g3 ?_
 obtain ⟨d0, h5⟩ := Sl.ex hl (i := ((i : Int) - 1 : Int).toNat) oM
 obtain ⟨c0, o4, b4, h8⟩ := hl.atS h5
 refine g6 ?_
 refine sB 25 ?_ ?_ <;> intro b6
 refine g11a ?_
 intros
 refine rT results239 ?_
 exact ⟨rfl, _, rfl, by simp⟩
 refine g2 ?_
 refine sqY rfl rfl rfl rfl (fS hD rfl call243 rfl (c243 hk hk.2.2.1) ?_)
 rintro v0 rfl
 refine g3 ?_
 refine cN ?_ ?_ <;> intro b8
 refine g4a ?_
 intros
 refine rT results239 ?_
 exact ⟨rfl, _, rfl, by simp⟩
 refine g4 ?_
 exact nK h6 ⟨i + 1, rfl, oM, (upto_succ hp h4 (memB_iff.1 (by simp_all))), rfl, rfl, rfl⟩
 refine g11 ?_
 refine sqY rfl rfl rfl rfl (fS hD rfl call243 rfl (c243 hk hk.2.2.1) ?_)
 rintro v1 rfl
 refine g3 ?_
 refine cN ?_ ?_ <;> intro h7
 refine g4a ?_
 intros
 refine rT results239 ?_
 exact ⟨rfl, _, rfl, by simp⟩
 refine g4 ?_
 exact nK h6 ⟨i + 1, rfl, oM, (upto_succ hp h4 (memB_iff.1 (by simp_all))), rfl, rfl, rfl⟩
 refine g5a ?_
 intros
 refine rT results239 ?_
 exact ⟨rfl, _, rfl, fun _ s hs => by obtain ⟨j, hj⟩ := List.getElem?_of_mem hs; exact hp j s (by have := (gE hj).1; have := hl.len; omega) hj⟩
def okG (g : Dfg) : Prop := g.acts.length ≤ 40 ∧ (∀ x ∈ g.starts, x.name ∈ g.acts.map (·.name)) ∧ (∀ x ∈ g.ends, x.name ∈ g.acts.map (·.name)) ∧ ∀ x ∈ g.follows, x.src ∈ g.acts.map (·.name) ∧ x.dst ∈ g.acts.map (·.name)
theorem c195 {g : Dfg} (h1 : Sl rCnt H g.acts A1 n1 k1) (h2 : Sl rCnt H g.starts A2 n2 k2) (h3 : Sl rCnt H g.ends A3 n3 k3) (h4 : Sl rFlw H g.follows A4 n4 k4) (b1 : n1 ≤ 1000000) (b2 : n2 ≤ 1000000) (b3 : n3 ≤ 1000000) : Ct PP 195 #[.agg #[.slice A1 n1 k1, .slice A2 n2 k2, .slice A3 n3 k3, .slice A4 n4 k4]] H [] fun v H' O' => O' = [] ∧ ∃ r, v = .bool r ∧ (r = true → okG g) := by
 have j8 := h4.2.2.1
 have j3 := h1.len
 have j6 := h2.len
 have j4 := h3.len
 refine cB func195 ntmps195 fun I hD hI k8 => ?_
 refine g2a ?_
 intros
 refine bG fun b2 => ?_
 refine g6a ?_
 intros
 refine sq rfl (fP hD rfl call237 rfl (c237 h1 oM) ?_)
 rintro v9 H7 ⟨B4, d5, rfl, h5⟩ d6
 have ⟨h1, h2, h3, h4⟩ := mo4 d6 h1 h2 h3 h4
 refine g6b ?_
 intros
 refine sq rfl (fS hD rfl call238 rfl (c238 h5) ?_)
 rintro v7 ⟨r3, rfl, d0⟩
 refine g2 ?_
 refine sB 14 ?_ ?_ <;> intro i4
 refine g18a ?_
 intros
 refine g3 ?_
 refine kP [] ?_
 refine rT results195 ?_
 exact ⟨rfl, _, rfl, by simp⟩
 refine g2 ?_
 refine sqY rfl rfl rfl rfl (fP hD rfl call237 rfl (c237 h2 oM) ?_)
 rintro v5 H2 ⟨B0, k9, rfl, h7⟩ c0
 have ⟨h1, h2, h3, h4, h5⟩ := mo5 c0 h1 h2 h3 h4 h5
 refine g1 ?_
 refine sqY rfl rfl rfl rfl (fS hD rfl call239 rfl (c239 h7 h5) ?_)
 rintro k7 ⟨r0, rfl, d1⟩
 refine g3 ?_
 refine sB 22 ?_ ?_ <;> intro i9
 refine g12a ?_
 intros
 refine g1 ?_
 refine kP [] ?_
 refine rT results195 ?_
 exact ⟨rfl, _, rfl, by simp⟩
 refine g2 ?_
 refine sqY rfl rfl rfl rfl (fP hD rfl call237 rfl (c237 h3 oM) ?_)
 rintro v8 H1 ⟨B1, k0, rfl, h8⟩ b7
 have ⟨h1, h2, h3, h4, h5, h7⟩ := mo6 b7 h1 h2 h3 h4 h5 h7
 refine g1 ?_
 refine sqY rfl rfl rfl rfl (fS hD rfl call239 rfl (c239 h8 h5) ?_)
 rintro l0 ⟨r1, rfl, c1⟩
 refine g3 ?_
 refine cN ?_ ?_ <;> intro i7
 refine g4a ?_
 intros
 refine kP [] ?_
 refine rT results195 ?_
 exact ⟨rfl, _, rfl, by simp⟩
 refine g4b ?_
 intros
 have h6 : g.acts.length ≤ 40 ∧ (∀ s ∈ g.starts.map (·.name), s ∈ g.acts.map (·.name)) ∧ (∀ s ∈ g.ends.map (·.name), s ∈ g.acts.map (·.name)) := ⟨d0 (by simp_all), d1 (by simp_all), c1 (by simp_all)⟩
 refine g6 ?_
 refine sq rfl (tBSlice (k := 1) (out := [.slice A1 n1 k1, .slice A2 n2 k2, .slice A3 n3 k3]) uC sC nC rfl (fun zs hz => fillAll [.slice A1 n1 k1, .slice A2 n2 k2, .slice A3 n3 k3] zs hz) rfl dC dC dC dC fun k6 => ?_)
 refine tR 0 (r := (rSl rCnt)) (ys := [g.acts, g.starts, g.ends]) (Reps.cons (r := rSl rCnt) (c := [_]) ⟨_, _, _, rfl, h1⟩ (Reps.cons (c := [_]) ⟨_, _, _, rfl, h2⟩ (Reps.single ⟨_, _, _, rfl, h3⟩))) (hlen := dC) fun H0 b8 b6 => ?_
 have ⟨h1, h2, h3, h4, h5, h7, h8⟩ := mo7 b8 h1 h2 h3 h4 h5 h7 h8
 refine g4 ?_
 refine lp1 (fun D f E H O m => ∃ (i : Nat), H0 = H ∧ (i ≤ 3) ∧ m = 3 - i ∧ O = [f] ∧ E = (38, .int .i64 (i : Int)) :: D) [1, 3, 36, 37] [0] ⟨0, rfl, Nat.zero_le _, rfl, rfl, rfl⟩ ?_
 rintro _ _ _ _ ⟨i, rfl, hi, rfl, rfl, rfl⟩ _ d3
 refine g5b ?_
 intros
 refine cD ?_ ?_ <;> intro i6
 refine g5b ?_
 intros
 obtain ⟨j9, d2⟩ := eX b6 i
 obtain ⟨j7, o5, i5, i8, d4, e7⟩ := b6.at_ d2
 obtain ⟨A0, n0, c66, rfl, b9⟩ := d4
 refine g7a ?_
 intros
 refine sq rfl (fS hD rfl call240 rfl (c240 (p := fun x => !decide (1 ≤ x.n ∧ x.n ≤ 4503599627370496)) (caps := []) b9 b9.2.2.1 call241 (fun x hx cs hr => by cases hr; exact c241)) ?_)
 rintro v6 rfl
 refine g1 ?_
 refine cN ?_ ?_ <;> intro e4
 refine g4a ?_
 intros
 refine kP [] ?_
 refine rT results195 ?_
 exact ⟨rfl, _, rfl, by simp⟩
 refine g4 ?_
 exact nK d3 ⟨i + 1, rfl, oM, rfl, rfl, rfl⟩
 refine g10b ?_
 intros
 refine lp1 (fun D f E H O m => ∃ (j : Nat), H0 = H ∧ (j ≤ n4) ∧ (∀ (q : Nat) (x : Flw), q < j → g.follows[q]? = some x → x.src ∈ g.acts.map (·.name) ∧ x.dst ∈ g.acts.map (·.name)) ∧ m = n4 - j ∧ O = [f] ∧ E = (48, .int .i64 (j : Int)) :: D) [1, 3, 46, 47] [0] ⟨0, rfl, Nat.zero_le _, upto_zero, rfl, rfl, rfl⟩ ?_
 rintro _ _ _ _ ⟨j, rfl, hj, hp, rfl, rfl, rfl⟩ _ b4
 refine g5b ?_
 intros
 refine cD ?_ ?_ <;> intro e9
 refine g6b ?_
 intros
 obtain ⟨j1, h9⟩ := eX h4 j
 obtain ⟨j5, o6, _, e8, rfl, e6⟩ := h4.at_ h9
 refine g2 ?_
 refine aL fun j2 => ?_
 refine g1 ?_
 refine sG 0 ?_
 refine g2a ?_
 intros
 refine ts 30 fun _ => ?_
 refine tj 0 ?_
 refine g1 ?_
 refine oI 2 rfl kR (fS hD rfl call242 rfl c242 ?_)
 rintro k5 rfl
 refine g3 ?_
 refine sB 57 ?_ ?_ <;> intro f8
 refine tjN 5 ?_
 refine g18 ?_
 refine g12 ?_
 refine g4a ?_
 intros
 refine kP [] ?_
 refine rT results195 ?_
 exact ⟨rfl, _, rfl, by simp⟩
 refine tjY 5 ?_
 refine g2 ?_
 refine sD 60 ?_ ?_ <;> intro f9
 refine tjY 8 ?_
 refine g3 ?_
 obtain ⟨e5, b5⟩ := Sl.ex h4 (i := ((j : Int) - 1 : Int).toNat) oM
 obtain ⟨j0, o4, _, e1, rfl, e2⟩ := h4.at_ b5
 refine tjY 12 ?_
 refine g2 ?_
 refine oY 15 rfl kR rfl rfl rfl rfl (TK.callS (fun _ => trivial) rfl rfl (ent call152 rfl) (c152) ?_)
 rintro v0 rfl
 refine g1 ?_
 refine tjY 16 ?_
 refine g3 ?_
 refine sD 72 ?_ ?_ <;> intro d7
 refine tjN 20 ?_
 refine g18a ?_
 intros
 refine g1 ?_
 refine kP [] ?_
 refine rT results195 ?_
 exact ⟨rfl, _, rfl, by simp⟩
 refine tjY 20 ?_
 refine g2 ?_
 refine oY 23 rfl kR rfl rfl rfl rfl (fS hD rfl call243 rfl (c243 h5 h5.2.2.1) ?_)
 rintro v3 rfl
 refine g1 ?_
 refine tjY 24 ?_
 refine g2 ?_
 refine sB 79 ?_ ?_ <;> intro d9
 refine tjN 27 ?_
 refine g12a ?_
 intros
 refine kP [] ?_
 refine rT results195 ?_
 exact ⟨rfl, _, rfl, by simp⟩
 refine tjY 27 ?_
 refine g3 ?_
 refine sqY rfl rfl rfl rfl (fS hD rfl call243 rfl (c243 h5 h5.2.2.1) ?_)
 rintro v2 rfl
 refine g3 ?_
 refine cN ?_ ?_ <;> intro d8
 refine g4a ?_
 intros
 refine kP [] ?_
 refine rT results195 ?_
 exact ⟨rfl, _, rfl, by simp⟩
 refine g4 ?_
 exact nK b4 ⟨j + 1, rfl, oM, (upto_succ hp h9 ⟨memB_iff.1 (by simp_all), memB_iff.1 (by simp_all)⟩), rfl, rfl, rfl⟩
 refine tjN 8 ?_
 refine g12 ?_
 refine g2 ?_
 refine oY 23 rfl kR rfl rfl rfl rfl (fS hD rfl call243 rfl (c243 h5 h5.2.2.1) ?_)
 rintro v1 rfl
 refine g1 ?_
 refine tjY 24 ?_
 refine g2 ?_
 refine sB 79 ?_ ?_ <;> intro e3
 refine tjN 27 ?_
 refine g12a ?_
 intros
 refine kP [] ?_
 refine rT results195 ?_
 exact ⟨rfl, _, rfl, by simp⟩
 refine tjY 27 ?_
 refine g3 ?_
 refine sqY rfl rfl rfl rfl (fS hD rfl call243 rfl (c243 h5 h5.2.2.1) ?_)
 rintro v4 rfl
 refine g3 ?_
 refine cN ?_ ?_ <;> intro e0
 refine g4a ?_
 intros
 refine kP [] ?_
 refine rT results195 ?_
 exact ⟨rfl, _, rfl, by simp⟩
 refine g4 ?_
 exact nK b4 ⟨j + 1, rfl, oM, (upto_succ hp h9 ⟨memB_iff.1 (by simp_all), memB_iff.1 (by simp_all)⟩), rfl, rfl, rfl⟩
 refine g5a ?_
 intros
 refine kP [] ?_
 refine rT results195 ?_
 exact ⟨rfl, _, rfl, fun _ => ⟨h6.1, fun x hx => h6.2.1 _ (List.mem_map.2 ⟨x, hx, rfl⟩), fun x hx => h6.2.2 _ (List.mem_map.2 ⟨x, hx, rfl⟩), fun x hx => by obtain ⟨j, hj⟩ := List.getElem?_of_mem hx; exact hp j x (by have := (gE hj).1; have := h4.len; omega) hj⟩⟩
abbrev CO (b b1 b2 b3 b4 : Nat) (m1 m2 m3 : List (BA × Int)) (m4 : List ((BA × BA) × Int)) : List HL :=
 [.blk b 176 [.map (some b1), .map (some b2), .map (some b3), .map (some b4)], .map b1 (mapL Value.string (Value.int .i64) m1), .map b2 (mapL Value.string (Value.int .i64) m2), .map b3 (mapL Value.string (Value.int .i64) m3), .map b4 (mapL embP (Value.int .i64) m4)]
attribute [local semireducible] TK Yl OpK AnyT wpList Code.wp in
theorem TK.permO {n : Nat} {K : Act → World → Prop} {H : Ghost} {O O' : List HL} (l m : List Nat) (k : Nat) (hk : O.length = k) (hlm : (l ++ m).isPerm (List.range k) = true) (hO : pick O l = O') (h : TK n I K E H O') : TK n I K E H O := by
 intro a w ha hs
 exact h a w ha ((hs.permR (perm_of_pick l m k hk hlm hO rfl).symm).forget)
theorem c103 : Ct PP 103 #[] H [] fun v H' O' => ∃ b b1 b2 b3 b4, O' = CO b b1 b2 b3 b4 [] [] [] [] ∧ v = .pointer (ad b) := by
 refine cB func103 ntmps103 fun I hD hI h4 => ?_
 refine g6b ?_
 intros
 refine sq rfl (tMakeMap dC fun b3 => ?_)
 refine sq rfl (tMakeMap dC fun b4 => ?_)
 refine sq rfl (tMakeMap dC fun b5 => ?_)
 refine sq rfl (tMakeMap dC fun b6 => ?_)
 refine g1 ?_
 refine bG fun b7 => ?_
 refine g2 ?_
 refine TK.permO [0, 4, 3, 2, 1] [] 5 rfl rfl rfl ?_
 refine rT results103 ?_
 exact ⟨_, _, _, _, _, rfl, rfl⟩
def cntC (y : Cnt) : LV := [.string y.name, .int .i64 y.n]
theorem cnt_snoc {ys : List Cnt} {a : BA} {k : Int} : ys.flatMap cntC ++ [.string a, .int .i64 k] = (ys ++ [(⟨a, k⟩ : Cnt)]).flatMap cntC := by simp [cntC]
theorem cnt_reps (ys : List Cnt) : Reps rCnt H ys (ys.flatMap cntC) := by
 induction ys with
 | nil => exact .nil
 | cons y ys ih => rw [List.flatMap_cons]; exact .cons (r := rCnt) rfl ih
def flwC (y : Flw) : LV := [.string y.src, .string y.dst, .int .i64 y.n]
theorem flw_snoc {ys : List Flw} {a b : BA} {k : Int} : ys.flatMap flwC ++ [.string a, .string b, .int .i64 k] = (ys ++ [(⟨a, b, k⟩ : Flw)]).flatMap flwC := by simp [flwC]
theorem flw_reps (ys : List Flw) : Reps rFlw H ys (ys.flatMap flwC) := by
 induction ys with
 | nil => exact .nil
 | cons y ys ih => rw [List.flatMap_cons]; exact .cons (r := rFlw) rfl ih
theorem nodup_snoc {dn : List Nat} {q : Nat} (h : dn.Nodup) (hq : q ∉ dn) : (dn ++ [q]).Nodup := by
 rw [List.nodup_append]
 exact ⟨h, by simp, fun a ha b hb h4 => by simp only [List.mem_singleton] at hb; subst hb h4; exact hq ha⟩
theorem bnd_snoc {α : Type} {m : List α} {dn : List Nat} {q : Nat} {p : α} (h : ∀ x ∈ dn, x < m.length) (hq : m[q]? = some p) : ∀ x ∈ dn ++ [q], x < m.length := by
 intro x hx
 rcases List.mem_append.1 hx with hx | hx
 ·exact h x hx
 ·simp only [List.mem_singleton] at hx; subst hx; exact (gE hq).1
theorem fm_snoc {α : Type} {m : List α} {dn : List Nat} {q : Nat} {p : α} (hq : m[q]? = some p) : (dn ++ [q]).filterMap (m[·]?) = dn.filterMap (m[·]?) ++ [p] := by simp [hq]
theorem nodup_len {dn : List Nat} {k : Nat} (h : dn.Nodup) (hb : ∀ q ∈ dn, q < k) : dn.length ≤ k := by
 have k0 : ∀ (l m : List Nat), l.Nodup → (∀ x ∈ l, x ∈ m) → l.length ≤ m.length := by
  intro l
  induction l with
  | nil => intro m _ _; simp
  | cons a l ih =>
   intro m hn hs
   rw [List.nodup_cons] at hn
   have h1 := ih (m.erase a) hn.2 fun x hx => (List.mem_erase_of_ne (fun e => hn.1 (by rw [← e]; exact hx))).2 (hs x (by simp [hx]))
   rw [List.length_erase_of_mem (hs a (by simp))] at h1
   have : 0 < m.length := List.length_pos_of_mem (hs a (by simp))
   rw [List.length_cons]; omega
 have := k0 dn (List.range k) h fun x hx => List.mem_range.2 (hb x hx)
 simpa using this
theorem c150 {m : List (BA × Int)} (hm : m.length ≤ 1000000) : Ct PP 150 #[.map (some b)] H [.map b (mapL Value.string (Value.int .i64) m)] fun v H' O' => ∃ A c ys cs, O' = [.row 128 2 (.slice A ys.length c) ys.length cs] ∧ v = .slice A ys.length c ∧ Reps rCnt H ys cs ∧ (ys.map fun y => (y.name, y.n)).Perm m := by
 refine cB func150 ntmps150 fun I hD hI d5 => ?_
 refine g8b ?_
 intros
 refine g4b ?_
 intros
 refine mapOpen (i := 0) rfl fun e0 c1 d1 => ?_
 refine sq rfl (tRange (i := 0) uC rfl rfl dC fun r8 => ?_)
 refine g2 ?_
 refine newRow 128 2 ?_
 refine lp1 (fun D f E H' O m' => ∃ (dn : List Nat) (ys : List Cnt) (A3 : OA) (c3 : Nat), H = H' ∧ (dn.Nodup) ∧ (∀ q ∈ dn, q < (mapL Value.string (Value.int .i64) m).length) ∧ (ys.map (fun y => (y.name, y.n)) = dn.filterMap (m[·]?)) ∧ m' = m.length - dn.length ∧ O = [.row 128 2 (.slice A3 ys.length c3) ys.length (ys.flatMap cntC), .obj r8 (itObj b e0 c1 dn), f] ∧ E = (3, .slice A3 ys.length c3) :: D) [7] [0, 1, 2] ⟨[], [], none, 0, rfl, (by simp), (by simp), rfl, rfl, rfl, rfl⟩ ?_
 rintro _ _ _ _ ⟨dn, ys, A3, c3, rfl, b6, h8, b7, rfl, rfl, rfl⟩ _ b9
 refine g2a ?_
 intros
 refine sq rfl (tNext (i := 1) (j := 2) rfl rfl d1 rfl dC h8 (fun h6 => ?_) (fun q17 k0 v1 b5 h4 => ?_))
 refine g8b ?_
 intros
 have d2 : ∀ q ∈ dn, q < m.length := fun x hx => by have := h8 x hx; simpa [mapL] using this
 have b8 := all_done b6 d2 (fun q hq => h6 q (by simpa [mapL] using hq))
 rw [← b7] at b8
 have d3 := b8.length_eq
 rw [List.length_map] at d3
 refine sq rfl (fT hD [0] [1, 2] rfl call192 rfl (sortAll (r := rCnt) (caps := []) law192 (fun {_ _ _ _} => c192z) rfl dC (cnt_reps ys) oM (fun x y => cmpS x.name y.name) (fun x _ y _ z _ => cmpN_swo x y z) call193 (fun x _ y _ cx cy hx hy => by cases hx; cases hy; exact c193)) ?_)
 rintro v0 O1 ⟨z0, c0, rfl, d0, h9, d4⟩
 refine g6a ?_
 intros
 refine kP [0] ?_
 refine rT results150 ?_
 have hl : z0.length = ys.length := h9.length_eq
 refine ⟨_, _, z0, c0, by rw [hl]; rfl, by rw [hl], d0, (h9.map _).trans b8⟩
 obtain ⟨b4, h7, rfl, rfl⟩ := mapL_at b5
 refine g8b ?_
 intros
 refine q (yEntry (i := 1) (j := 2) rfl rfl d1 b5 rfl) rfl rfl rfl ?_
 refine g10 ?_
 refine sq rfl (bS [.string b4.1, .int .i64 b4.2] fun d6 => ?_)
 refine sq rfl (tAppend hD (i := 1) (news := [.string b4.1, .int .i64 b4.2]) rfl uC iC rfl dC rfl rfl (Mem.row (i := 0) rfl rfl) rfl oC (by have := nodup_len b6 h8; have h5 := congrArg List.length b7; have := List.length_filterMap_le (m[·]?) dn; simp only [List.length_map, mapL] at *; omega) (by have := nodup_len b6 h8; have h5 := congrArg List.length b7; have := List.length_filterMap_le (m[·]?) dn; simp only [List.length_map, mapL] at *; omega) dC fun A0 c38 => ?_)
 refine g1 ?_
 rw [cnt_snoc, show ys.length + 1 = (ys ++ [(⟨b4.1, b4.2⟩ : Cnt)]).length by simp]
 exact nK b9 ⟨dn ++ [q17], ys ++ [⟨b4.1, b4.2⟩], A0, c38, rfl, (nodup_snoc b6 h4), (by have := bnd_snoc (m := m) (fun x hx => by have := h8 x hx; simpa [mapL] using this) h7; simpa [mapL] using this), (by rw [fm_snoc h7, List.map_append, b7]; rfl), rfl, rfl, rfl⟩ (hm := by have h1 := nodup_len (nodup_snoc b6 h4) (bnd_snoc (m := m) (fun x hx => by have := h8 x hx; simpa [mapL] using this) h7); simp only [List.length_append, List.length_singleton] at h1 ⊢; omega)
theorem c104 {m1 m2 m3 : List (BA × Int)} {m4 : List ((BA × BA) × Int)} (l1 : m1.length ≤ 1000000) (l2 : m2.length ≤ 1000000) (l3 : m3.length ≤ 1000000) (l4 : m4.length ≤ 1000000) : Ct PP 104 #[.pointer (ad bb)] H (CO bb mb1 mb2 mb3 mb4 m1 m2 m3 m4) fun v H' O' => O' = [] ∧ ∃ g cs, v = .agg cs.toArray ∧ rDfg.rel H' g cs ∧ (g.acts.map fun y => (y.name, y.n)).Perm m1 ∧ g.starts.length ≤ 1000000 ∧ g.ends.length ≤ 1000000 := by
 refine cB func104 ntmps104 fun I hD hI k7 => ?_
 refine g2a ?_
 intros
 refine aL fun b2 => ?_
 refine g2a ?_
 intros
 refine tss (.cons_cons _ (.cons_cons _ (.cons _ (.cons _ (.cons _ (.cons_cons _ (List.nil_sublist _))))))) 17 fun _ => ?_
 refine tj 0 ?_
 refine g3 ?_
 refine tj 5 ?_
 refine g3 ?_
 refine tj 10 ?_
 refine g3 ?_
 refine tm2 4 16 ?_ ?_
 refine fT hD [2] [0, 1, 3, 4, 5] rfl call150 rfl (c150 (m := m1) oM) ?_
 rintro v9 O8 ⟨A5, c6, y2, k2, rfl, rfl, k1, d1⟩
 have hlen := d1.length_eq
 rw [List.length_map] at hlen
 refine tR 0 k1 fun H4 h4 h5 => ?_
 refine ta_next (kG h4) ?_
 refine tm2 9 16 ?_ ?_
 refine fT hD [2] [0, 1, 3, 4] rfl call150 rfl (c150 (m := m2) oM) ?_
 rintro v7 O7 ⟨A1, c18, y1, j2, rfl, rfl, e8, b9⟩
 have hlen := b9.length_eq
 rw [List.length_map] at hlen
 refine tR 0 e8 fun H6 h7 h6 => ?_
 have h5 := h5.mono h7
 refine ta_next (kG (h4.trans h7)) ?_
 refine tm2 14 16 ?_ ?_
 refine fT hD [2] [0, 1, 3] rfl call150 rfl (c150 (m := m3) oM) ?_
 rintro k8 k5 ⟨A0, c30, y0, j8, rfl, rfl, f8, b5⟩
 have hlen := b5.length_eq
 rw [List.length_map] at hlen
 refine tR 0 f8 fun H0 b8 c0 => ?_
 have ⟨h5, h6⟩ := mo2 b8 h5 h6
 refine ta_next (kG ((h4.trans h7).trans b8)) ?_
 refine tk 15 rfl kR aS nP (kG ((h4.trans h7).trans b8)) (yBuild bC rfl rfl) rfl rfl rfl ?_
 refine oI 16 rfl kR (tAlloc zC dC fun e6 => ?_)
 refine ta_next (kG ((h4.trans h7).trans b8)) ?_
 refine g1 ?_
 rotate_left
 refine tAlloc zC dC fun e6 => ?_
 refine ta_next (kG (h4.trans h7)) ?_
 refine oI 14 rfl kR (fT hD [3] [0, 1, 2, 4] rfl call150 rfl (c150 (m := m3) oM) ?_)
 rintro v6 O6 ⟨A0, c30, y0, k0, rfl, rfl, i4, b5⟩
 have hlen := b5.length_eq
 rw [List.length_map] at hlen
 refine tR 0 i4 fun H0 d0 c0 => ?_
 have ⟨h5, h6⟩ := mo2 d0 h5 h6
 refine ta_next (kG ((h4.trans h7).trans d0)) ?_
 refine tk 15 rfl kR aS nP (kG ((h4.trans h7).trans d0)) (yBuild bC rfl rfl) rfl rfl rfl ?_
 refine g1 ?_
 rotate_left
 refine tAlloc zC dC fun e6 => ?_
 refine ta_next (kG h4) ?_
 refine oI 9 rfl kR (fT hD [3] [0, 1, 2, 4, 5] rfl call150 rfl (c150 (m := m2) oM) ?_)
 rintro v4 O3 ⟨A1, c18, y1, i8, rfl, rfl, d6, b9⟩
 have hlen := b9.length_eq
 rw [List.length_map] at hlen
 refine tR 0 d6 fun H3 b4 h6 => ?_
 have h5 := h5.mono b4
 refine ta_next (kG (h4.trans b4)) ?_
 refine oI 14 rfl kR (fT hD [3] [0, 1, 2, 4] rfl call150 rfl (c150 (m := m3) oM) ?_)
 rintro v2 O5 ⟨A0, c30, y0, i9, rfl, rfl, e2, b5⟩
 have hlen := b5.length_eq
 rw [List.length_map] at hlen
 refine tR 0 e2 fun H0 b6 c0 => ?_
 have ⟨h5, h6⟩ := mo2 b6 h5 h6
 refine ta_next (kG ((h4.trans b4).trans b6)) ?_
 refine tk 15 rfl kR aS nP (kG ((h4.trans b4).trans b6)) (yBuild bC rfl rfl) rfl rfl rfl ?_
 refine g1 ?_
 rotate_left
 refine tAlloc zC dC fun e6 => ?_
 refine g1 ?_
 refine oI 4 rfl kR (fT hD [3] [0, 1, 2, 4, 5, 6] rfl call150 rfl (c150 (m := m1) oM) ?_)
 rintro v3 O4 ⟨A5, c6, y2, j1, rfl, rfl, d8, d1⟩
 have hlen := d1.length_eq
 rw [List.length_map] at hlen
 refine tR 0 d8 fun H2 h9 h5 => ?_
 refine ta_next (kG h9) ?_
 refine oI 9 rfl kR (fT hD [3] [0, 1, 2, 4, 5] rfl call150 rfl (c150 (m := m2) oM) ?_)
 rintro v1 O2 ⟨A1, c18, y1, i7, rfl, rfl, d7, b9⟩
 have hlen := b9.length_eq
 rw [List.length_map] at hlen
 refine tR 0 d7 fun H1 h8 h6 => ?_
 have h5 := h5.mono h8
 refine ta_next (kG (h9.trans h8)) ?_
 refine oI 14 rfl kR (fT hD [3] [0, 1, 2, 4] rfl call150 rfl (c150 (m := m3) oM) ?_)
 rintro v0 O1 ⟨A0, c30, y0, j0, rfl, rfl, d5, b5⟩
 have hlen := b5.length_eq
 rw [List.length_map] at hlen
 refine tR 0 d5 fun H0 b7 c0 => ?_
 have ⟨h5, h6⟩ := mo2 b7 h5 h6
 refine ta_next (kG ((h9.trans h8).trans b7)) ?_
 refine tk 15 rfl kR aS nP (kG ((h9.trans h8).trans b7)) (yBuild bC rfl rfl) rfl rfl rfl ?_
 refine g1 ?_
 rotate_left
 all_goals
  refine sG 0 ?_
  refine g8b ?_
  intros
  refine mapOpen (i := 3) rfl fun e0 e5 d9 => ?_
  refine sq rfl (tRange (i := 3) uC rfl rfl dC fun r0 => ?_)
  refine g2 ?_
  refine newRow 222 3 ?_
  refine lp3 (fun D f f1 f2 E H O m => ∃ (dn : List Nat) (ys : List Flw) (A3 : OA) (c3 : Nat), H0 = H ∧ (dn.Nodup) ∧ (∀ q ∈ dn, q < (mapL embP (Value.int .i64) m4).length) ∧ (ys.length = dn.length) ∧ m = m4.length - dn.length ∧ O = [.row 222 3 (.slice A3 ys.length c3) ys.length (ys.flatMap flwC), .obj r0 (itObj mb4 e0 e5 dn), .blk e6 119 [.slice A5 y2.length c6, .slice A1 y1.length c18, .slice A0 y0.length c30, .slice A3 ys.length c3], f, f1, f2] ∧ E = D) [2, 3, 26] [0, 1, 2, 3, 4, 5] ⟨[], [], none, 0, rfl, (by simp), (by simp), rfl, rfl, rfl, rfl⟩ ?_
  rintro _ _ _ _ ⟨dn, ys, A3, c3, rfl, e4, d3, j3, rfl, rfl, rfl⟩ _ e9
  refine g2a ?_
  intros
  refine sq rfl (tNext (i := 1) (j := 5) rfl rfl d9 rfl dC d3 (fun e7 => ?_) (fun j9 k6 v5 e1 d2 => ?_))
  refine g9b ?_
  intros
  have j7 := nodup_len e4 d3
  simp only [List.length_map, mapL] at j7
  refine sq rfl (fT hD [0] [1, 2, 3, 4, 5] rfl call151 rfl (sortAll (r := rFlw) (caps := []) law151 (fun {_ _ _ _} => c151z) rfl dC (flw_reps ys) oM cmpF (fun x _ y _ z _ => cmpF_swo x y z) call152 (fun x _ y _ cx cy hx hy => by cases hx; cases hy; exact c152)) ?_)
  rintro v8 O9 ⟨z0, j6, rfl, f9, i5, j4⟩
  refine g3a ?_
  intros
  have j5 : z0.length = ys.length := i5.length_eq
  rw [← j5]
  refine tR 0 f9 fun H5 d4 i6 => ?_
  have ⟨h5, h6, c0⟩ := mo3 d4 h5 h6 c0
  refine g1 ?_
  refine sG 2 ?_
  refine g1 ?_
  refine rC 2 [] results104 ?_
  exact ⟨rfl, ⟨y2, y1, y0, z0⟩, _, rfl, ⟨_, _, _, _, _, _, _, _, _, _, _, _, rfl, h5, h6, c0, i6⟩, d1, by have := b9.length_eq; rw [List.length_map] at this; show y1.length ≤ _; omega, by have := b5.length_eq; rw [List.length_map] at this; show y0.length ≤ _; omega⟩
  obtain ⟨c1, e3, rfl, rfl⟩ := mapL_at e1
  refine g8b ?_
  intros
  refine q (yEntry (i := 1) (j := 5) rfl rfl d9 e1 rfl) rfl rfl rfl ?_
  refine g2 ?_
  refine aL fun k4 => ?_
  refine sG 0 ?_
  refine g5 ?_
  refine q (yIndexArr uC sC rfl rfl dC dC dC) rfl rfl rfl ?_
  refine g1 ?_
  refine q (yIndexArr uC sC rfl rfl dC dC dC) rfl rfl rfl ?_
  refine g3 ?_
  refine sq rfl (bS [.string c1.1.1, .string c1.1.2, .int .i64 c1.2] fun k3 => ?_)
  refine sq rfl (tAppend hD (i := 2) (news := [.string c1.1.1, .string c1.1.2, .int .i64 c1.2]) rfl uC iC rfl dC rfl rfl (Mem.row (i := 0) rfl rfl) rfl oC (by have := nodup_len e4 d3; simp only [List.length_map, mapL] at this; omega) (by have := nodup_len e4 d3; simp only [List.length_map, mapL] at this; omega) dC fun A2 c81 => ?_)
  refine g1 ?_
  refine sU 4 ?_
  rw [flw_snoc, show ys.length + 1 = (ys ++ [(⟨c1.1.1, c1.1.2, c1.2⟩ : Flw)]).length by simp]
  exact nK e9 ⟨dn ++ [j9], ys ++ [(⟨c1.1.1, c1.1.2, c1.2⟩ : Flw)], A2, c81, rfl, (nodup_snoc e4 d2), (by have := bnd_snoc (m := m4) (fun x hx => by have := d3 x hx; simpa [mapL] using this) e3; simpa [mapL] using this), (by simp [j3]), rfl, rfl, rfl⟩ (hm := by have h1 := nodup_len (nodup_snoc e4 d2) (bnd_snoc (m := m4) (fun x hx => by have := d3 x hx; simpa [mapL] using this) e3); simp only [List.length_append, List.length_singleton] at h1 ⊢; omega)
def MakeR (l : List Variant) (g : Dfg) (e : Int) : Prop := e = 5 ∨ (e = 0 ∧ (∀ s, s ∈ g.acts.map (·.name) ↔ ∃ v ∈ l, s ∈ v.acts) ∧ g.acts.length ≤ 40 ∧ g.starts.length ≤ 1000000 ∧ g.ends.length ≤ 1000000)
theorem okV_len (h : okV v = true) : v.acts.length ≤ 200 := by
 rcases Nat.lt_or_ge 200 v.acts.length with h1 | h1
 ·rw [okV_big h1] at h; cases h
 ·exact h1
theorem c64 {l : List Variant} (hl : Sl rVariant H l A n c) (hv : validVs l = true) : Ct PP 64 #[.slice A n c] H [] fun v H' O' => O' = [] ∧ ∃ g cs e, v = .tuple #[.agg cs.toArray, .int .i64 e] ∧ rDfg.rel H' g cs ∧ MakeR l g e := by
 have hn := hl.2.2.1
 have l1 := hl.len
 have i6 := (validVs_iff.1 hv).1
 refine cB func64 ntmps64 fun I hD hI n7 => ?_
 refine g2a ?_
 intros
 refine aL fun b2 => ?_
 refine g6b ?_
 intros
 refine sq rfl (fS hD rfl call9 rfl (c9 hl) ?_)
 rintro v5 rfl
 rw [hv]
 refine g6a ?_
 intros
 refine sq rfl (fT hD [] [0] rfl call103 rfl c103 ?_)
 rintro v1 O2 ⟨j5, e3, f8, d3, b9, rfl, rfl⟩
 refine g10b ?_
 intros
 refine lp2 (fun D f f1 E H' O m => ∃ (i : Nat) (m1 m2 m3 : List (BA × Int)) (m4 : List ((BA × BA) × Int)), H = H' ∧ (i ≤ n) ∧ (∀ t, t ∈ m1.map (·.1) ↔ seenV l i [] 0 t) ∧ (m1.length ≤ 200 * i) ∧ (m2.length ≤ i) ∧ (m3.length ≤ i) ∧ (m4.length ≤ 200 * i) ∧ m = n - i ∧ O = [f, .map e3 (mapL Value.string (Value.int .i64) m1), .map f8 (mapL Value.string (Value.int .i64) m2), .map d3 (mapL Value.string (Value.int .i64) m3), .map b9 (mapL embP (Value.int .i64) m4), f1] ∧ E = (17, .int .i64 (i : Int)) :: D) [2, 4, 15, 16] [0, 1, 2, 3, 4, 5] ⟨0, [], [], [], [], rfl, (Nat.zero_le _), (fun t => by simp [seenV]), (by simp), (by simp), (by simp), (by simp), rfl, rfl, rfl⟩ ?_
 rintro _ _ _ _ ⟨i, m1, m2, m3, m4, rfl, hi, i8, q1, q2, q3, q4, rfl, rfl, rfl⟩ _ e0
 refine g5b ?_
 intros
 refine cD ?_ ?_ <;> intro k9
 refine g5b ?_
 intros
 obtain ⟨b6, h9⟩ := eX hl i
 obtain ⟨l2, o6, k8, j9, e9, k7⟩ := hl.at_ h9
 obtain ⟨A2, n0, c37, rfl, h6⟩ := e9
 refine g2 ?_
 refine aL fun j8 => ?_
 refine sG 0 ?_
 refine g10b ?_
 intros
 have l8 := h6.2.2.1
 have l7 := h6.len
 have i7 := okV_len ((validVs_iff.1 hv).2.1 _ (mG h9))
 refine lp5 (fun D f f1 f2 f3 f4 E H' O m => ∃ (k : Nat) (b7 : List (BA × Int)) (b8 : List ((BA × BA) × Int)), H = H' ∧ ((k : Int) ≤ (n0 : Int)) ∧ (∀ t, t ∈ b7.map (·.1) ↔ seenV l i b6.acts k t) ∧ (b7.length ≤ 200 * i + k) ∧ (b8.length ≤ 200 * i + k) ∧ m = b6.acts.length - k ∧ O = [f, f1, .map e3 (mapL Value.string (Value.int .i64) b7), f2, f3, .map b9 (mapL embP (Value.int .i64) b8), f4] ∧ E = (24, .int .i64 (k : Int)) :: D) [2, 4, 6, 15, 16, 17, 22, 23] [0, 1, 2, 3, 4, 5, 6] ⟨0, m1, m4, rfl, oM, (fun t => (i8 t).trans (seen_start t)), oM, oM, rfl, rfl, rfl⟩ ?_
 rintro _ _ _ _ ⟨k, b7, b8, rfl, hk, h8, l9, n6, rfl, rfl, rfl⟩ _ e1
 refine g5b ?_
 intros
 refine cD ?_ ?_ <;> intro k6
 refine g6b ?_
 intros
 obtain ⟨b4, d0⟩ := eX h6 k
 obtain ⟨n5, o5, i9, j0⟩ := h6.atS d0
 refine g6a ?_
 intros
 refine ts 8 fun _ => ?_
 refine tj 0 ?_
 refine g4 ?_
 refine tk 5 rfl kR aS nP kS (yLookup (k := b4) (g := (Value.int .i64)) (z := 0) (i := 2) uC (keyStr uC) nC rfl rfl rfl) rfl rfl rfl ?_
 refine g4 ?_
 refine sq rfl (tMapUpd (k := b4) (g := (Value.int .i64)) (v := IntKind.i64.wrap (((mget b7 b4).getD 0) + b6.count)) (i := 2) uC (keyStr uC) rfl rfl rfl rfl ?_)
 refine g6a ?_
 intros
 refine cD ?_ ?_ <;> intro k0
 obtain ⟨b5, e8⟩ := Sl.ex h6 (i := ((k : Int) - 1 : Int).toNat) oM
 obtain ⟨l4, o9, e5, f9⟩ := h6.atS e8
 refine tStart H [.blk j8 26 [.slice A2 n0 c37, .int .i64 b6.count], .blk j5 176 [.map (some e3), .map (some f8), .map (some d3), .map (some b9)], .map e3 (mapL Value.string (Value.int .i64) (mput b7 b4 (IntKind.i64.wrap (((mget b7 b4).getD 0) + b6.count)))), .map f8 (mapL Value.string (Value.int .i64) m2), .map d3 (mapL Value.string (Value.int .i64) m3), .pred b9 (lookIs PP 174 b9 (embP (b5, b4)) (.int .i64 ((mget b8 (b5, b4)).getD 0))), .blk b2 119 [.slice none 0 0, .slice none 0 0, .slice none 0 0, .slice none 0 0]] 18 hmix rfl kR fun h4 => ?_
 refine tk 0 rfl kR h4 (np_block (np_then (np_then (np_block (np_then (np_block (np_then (np_then (np_block (np_then np_fin)))))))))) (keepsMap (j := 5) [0, 1, 2, 3, 4, 5, 6] dC rfl (Ghost.le.refl _) rfl (fun o h5 => (lookIs_of (k := (b5, b4)) (g := (Value.int .i64)) (z := 0) uC (keyPair) nC h5)) rfl) (yMove rfl) rfl rfl rfl ?_
 refine tk 1 rfl kR h4 (np_block (np_then (np_then (np_block (np_then (np_block (np_then (np_then (np_block (np_then np_fin)))))))))) (keepsMap (j := 5) [0, 1, 2, 3, 4, 5, 6] dC rfl (Ghost.le.refl _) rfl (fun o h5 => (lookIs_of (k := (b5, b4)) (g := (Value.int .i64)) (z := 0) uC (keyPair) nC h5)) rfl) (yNilCheck rfl) rfl rfl rfl ?_
 refine tk 2 rfl kR h4 (np_block (np_then (np_then (np_block (np_then (np_block (np_then (np_then (np_block (np_then np_fin)))))))))) (keepsMap (j := 5) [0, 1, 2, 3, 4, 5, 6] dC rfl (Ghost.le.refl _) rfl (fun o h5 => (lookIs_of (k := (b5, b4)) (g := (Value.int .i64)) (z := 0) uC (keyPair) nC h5)) rfl) (yFieldAddr fC rfl) rfl rfl rfl ?_
 refine tk 3 rfl kR h4 (np_block (np_then (np_then (np_block (np_then (np_block (np_then (np_then (np_block (np_then np_fin)))))))))) (keepsMap (j := 5) [0, 1, 2, 3, 4, 5, 6] dC rfl (Ghost.le.refl _) rfl (fun o h5 => (lookIs_of (k := (b5, b4)) (g := (Value.int .i64)) (z := 0) uC (keyPair) nC h5)) rfl) (yLoad1 aC rfl (Mem.blk1 (i := 1) rfl rfl)) rfl rfl rfl ?_
 refine tk 4 rfl kR h4 (np_block (np_then (np_then (np_block (np_then (np_block (np_then (np_then (np_block (np_then np_fin)))))))))) (keepsMap (j := 5) [0, 1, 2, 3, 4, 5, 6] dC rfl (Ghost.le.refl _) rfl (fun o h5 => (lookIs_of (k := (b5, b4)) (g := (Value.int .i64)) (z := 0) uC (keyPair) nC h5)) rfl) (yFieldAddr fC rfl) rfl rfl rfl ?_
 refine tk 5 rfl kR h4 (np_block (np_then (np_then (np_block (np_then (np_block (np_then (np_then (np_block (np_then np_fin)))))))))) (keepsMap (j := 5) [0, 1, 2, 3, 4, 5, 6] dC rfl (Ghost.le.refl _) rfl (fun o h5 => (lookIs_of (k := (b5, b4)) (g := (Value.int .i64)) (z := 0) uC (keyPair) nC h5)) rfl) (yLoad1 aC rfl (Mem.blk1 (i := 0) rfl rfl)) rfl rfl rfl ?_
 refine tk 6 rfl kR h4 (np_block (np_then (np_then (np_block (np_then (np_block (np_then (np_then (np_block (np_then np_fin)))))))))) (keepsMap (j := 5) [0, 1, 2, 3, 4, 5, 6] dC rfl (Ghost.le.refl _) rfl (fun o h5 => (lookIs_of (k := (b5, b4)) (g := (Value.int .i64)) (z := 0) uC (keyPair) nC h5)) rfl) (yMove rfl) rfl rfl rfl ?_
 refine tk 7 rfl kR h4 (np_block (np_then (np_then (np_block (np_then (np_block (np_then (np_then (np_block (np_then np_fin)))))))))) (keepsMap (j := 5) [0, 1, 2, 3, 4, 5, 6] dC rfl (Ghost.le.refl _) rfl (fun o h5 => (lookIs_of (k := (b5, b4)) (g := (Value.int .i64)) (z := 0) uC (keyPair) nC h5)) rfl) (ySub rfl rfl oM oM) rfl rfl rfl ?_
 refine tk 8 rfl kR h4 (np_block (np_then (np_then (np_block (np_then (np_block (np_then (np_then (np_block (np_then np_fin)))))))))) (keepsMap (j := 5) [0, 1, 2, 3, 4, 5, 6] dC rfl (Ghost.le.refl _) rfl (fun o h5 => (lookIs_of (k := (b5, b4)) (g := (Value.int .i64)) (z := 0) uC (keyPair) nC h5)) rfl) (yIndexAddrE uC sC rfl e5 rfl oM oM) rfl rfl rfl ?_
 refine tk 9 rfl kR h4 (np_block (np_then (np_then (np_block (np_then (np_block (np_then (np_then (np_block (np_then np_fin)))))))))) (keepsMap (j := 5) [0, 1, 2, 3, 4, 5, 6] dC rfl (Ghost.le.refl _) rfl (fun o h5 => (lookIs_of (k := (b5, b4)) (g := (Value.int .i64)) (z := 0) uC (keyPair) nC h5)) rfl) (yLoad1 aC rfl (f9.mem)) rfl rfl rfl ?_
 refine tk 10 rfl kR h4 (np_block (np_then (np_then (np_block (np_then (np_block (np_then (np_then (np_block (np_then np_fin)))))))))) (keepsMap (j := 5) [0, 1, 2, 3, 4, 5, 6] dC rfl (Ghost.le.refl _) rfl (fun o h5 => (lookIs_of (k := (b5, b4)) (g := (Value.int .i64)) (z := 0) uC (keyPair) nC h5)) rfl) (yMove rfl) rfl rfl rfl ?_
 refine tk 11 rfl kR h4 (np_block (np_then (np_then (np_block (np_then (np_block (np_then (np_then (np_block (np_then np_fin)))))))))) (keepsMap (j := 5) [0, 1, 2, 3, 4, 5, 6] dC rfl (Ghost.le.refl _) rfl (fun o h5 => (lookIs_of (k := (b5, b4)) (g := (Value.int .i64)) (z := 0) uC (keyPair) nC h5)) rfl) (yBuildArr uC sC zC rfl rfl) rfl rfl rfl ?_
 refine tk 12 rfl kR h4 (np_block (np_then (np_then (np_block (np_then (np_block (np_then (np_then (np_block (np_then np_fin)))))))))) (keepsMap (j := 5) [0, 1, 2, 3, 4, 5, 6] dC rfl (Ghost.le.refl _) rfl (fun o h5 => (lookIs_of (k := (b5, b4)) (g := (Value.int .i64)) (z := 0) uC (keyPair) nC h5)) rfl) (yLookupP (i := 5) rfl rfl rfl) rfl rfl rfl ?_
 refine tk 13 rfl kR h4 (np_block (np_then (np_then (np_block (np_then (np_block (np_then (np_then (np_block (np_then np_fin)))))))))) (keepsMap (j := 5) [0, 1, 2, 3, 4, 5, 6] dC rfl (Ghost.le.refl _) rfl (fun o h5 => (lookIs_of (k := (b5, b4)) (g := (Value.int .i64)) (z := 0) uC (keyPair) nC h5)) rfl) (yFieldAddr fC rfl) rfl rfl rfl ?_
 refine tk 14 rfl kR h4 (np_block (np_then (np_then (np_block (np_then (np_block (np_then (np_then (np_block (np_then np_fin)))))))))) (keepsMap (j := 5) [0, 1, 2, 3, 4, 5, 6] dC rfl (Ghost.le.refl _) rfl (fun o h5 => (lookIs_of (k := (b5, b4)) (g := (Value.int .i64)) (z := 0) uC (keyPair) nC h5)) rfl) (yLoad1 aC rfl (Mem.blk1 (i := 0) rfl rfl)) rfl rfl rfl ?_
 refine tk 15 rfl kR h4 (np_block (np_then (np_then (np_block (np_then (np_block (np_then (np_then (np_block (np_then np_fin)))))))))) (keepsMap (j := 5) [0, 1, 2, 3, 4, 5, 6] dC rfl (Ghost.le.refl _) rfl (fun o h5 => (lookIs_of (k := (b5, b4)) (g := (Value.int .i64)) (z := 0) uC (keyPair) nC h5)) rfl) (yAddW rfl rfl) rfl rfl rfl ?_
 refine oI 16 rfl kR (tMapEntry (k := (b5, b4)) (g := (Value.int .i64)) (z := 0) (i := 5) uC (keyPair) nC rfl rfl rfl dC fun u0 s0 o4 h7 => ?_)
 refine ta_next (keepsObj (j := 5) [0, 1, 2, 3, 4, 5, 6] dC rfl (Ghost.le.refl _) rfl h7.1 rfl) ?_
 refine tk 17 rfl kR h4 (np_block (np_then (np_then (np_block (np_then (np_block (np_then (np_then (np_block (np_then np_fin)))))))))) (keepsObj (j := 5) [0, 1, 2, 3, 4, 5, 6] dC rfl (Ghost.le.refl _) rfl h7.1 rfl) (yExtract rfl rfl) rfl rfl rfl ?_
 refine g1 ?_
 refine sq rfl (tEntryStore (k := (b5, b4)) (g := (Value.int .i64)) (v := IntKind.i64.wrap (((mget b8 (b5, b4)).getD 0) + b6.count)) (i := 5) h7 rfl rfl rfl rfl ?_)
 refine g4 ?_
 have e7 := mput_len b7 b4 (IntKind.i64.wrap (((mget b7 b4).getD 0) + b6.count))
 have k1 := mput_len b8 (b5, b4) (IntKind.i64.wrap (((mget b8 (b5, b4)).getD 0) + b6.count))
 exact nK e1 ⟨k + 1, mput b7 b4 (IntKind.i64.wrap (((mget b7 b4).getD 0) + b6.count)), mput b8 (b5, b4) (IntKind.i64.wrap (((mget b8 (b5, b4)).getD 0) + b6.count)), rfl, oM, (seen_put h8 d0), oM, oM, rfl, rfl, rfl⟩
 refine g4 ?_
 have e7 := mput_len b7 b4 (IntKind.i64.wrap (((mget b7 b4).getD 0) + b6.count))
 exact nK e1 ⟨k + 1, mput b7 b4 (IntKind.i64.wrap (((mget b7 b4).getD 0) + b6.count)), b8, rfl, oM, (seen_put h8 d0), oM, oM, rfl, rfl, rfl⟩
 refine g12b ?_
 intros
 refine g1 ?_
 refine cD ?_ ?_ <;> intro k2
 refine g1a ?_
 intros
 refine ts 11 fun _ => ?_
 refine tj 0 ?_
 refine g5 ?_
 obtain ⟨c1, i4⟩ := eX h6 0
 obtain ⟨l3, o7, k4, j1⟩ := h6.atS i4
 refine g2 ?_
 refine tk 8 rfl kR aS nP kS (yLookup (k := c1) (g := (Value.int .i64)) (z := 0) (i := 3) uC (keyStr uC) nC rfl rfl rfl) rfl rfl rfl ?_
 refine g4 ?_
 refine sq rfl (tMapUpd (k := c1) (g := (Value.int .i64)) (v := IntKind.i64.wrap (((mget m2 c1).getD 0) + b6.count)) (i := 3) uC (keyStr uC) rfl rfl rfl rfl ?_)
 refine g1 ?_
 refine ts 13 fun _ => ?_
 refine tj 0 ?_
 refine g7 ?_
 obtain ⟨d1, e6⟩ := Sl.ex h6 (i := ((n0 : Int) - 1 : Int).toNat) oM
 obtain ⟨l5, o8, j4, k5⟩ := h6.atS e6
 refine g2 ?_
 refine tk 10 rfl kR aS nP kS (yLookup (k := d1) (g := (Value.int .i64)) (z := 0) (i := 4) uC (keyStr uC) nC rfl rfl rfl) rfl rfl rfl ?_
 refine g4 ?_
 refine sq rfl (tMapUpd (k := d1) (g := (Value.int .i64)) (v := IntKind.i64.wrap (((mget m3 d1).getD 0) + b6.count)) (i := 4) uC (keyStr uC) rfl rfl rfl rfl ?_)
 refine g4 ?_
 have j3 := mput_len m2 c1 (IntKind.i64.wrap (((mget m2 c1).getD 0) + b6.count))
 have j6 := mput_len m3 d1 (IntKind.i64.wrap (((mget m3 d1).getD 0) + b6.count))
 exact nK e0 ⟨i + 1, b7, mput m2 c1 (IntKind.i64.wrap (((mget m2 c1).getD 0) + b6.count)), mput m3 d1 (IntKind.i64.wrap (((mget m3 d1).getD 0) + b6.count)), b8, rfl, oM, (fun t => (h8 t).trans (seen_next h9 (by have := h6.len; omega) t)), oM, oM, oM, oM, rfl, rfl, rfl⟩
 refine g4 ?_
 exact nK e0 ⟨i + 1, b7, m2, m3, b8, rfl, oM, (fun t => (h8 t).trans (seen_next h9 (by have := h6.len; omega) t)), oM, oM, oM, oM, rfl, rfl, rfl⟩
 refine g11b ?_
 intros
 refine cD ?_ ?_ <;> intro k3
 refine g3a ?_
 intros
 refine sG 5 ?_
 refine g2 ?_
 refine rD 5 [] results64 ?_
 exact ⟨rfl, ⟨[], [], [], []⟩, _, _, rfl, ⟨_, _, _, _, _, _, _, _, _, _, _, _, rfl, Sl.nil _ _, Sl.nil _ _, Sl.nil _ _, Sl.nil _ _⟩, .inl rfl⟩
 refine g4a ?_
 intros
 refine sq rfl (fO hD [0, 1, 2, 3, 4] [5] rfl call104 rfl (c104 (m1 := m1) (m2 := m2) (m3 := m3) (m4 := m4) oM oM oM oM) ?_)
 rintro v0 H0 O1 ⟨rfl, i5, j7, rfl, e4, c0, d7, d5⟩ d2
 have hl := hl.mono d2
 obtain ⟨A0, n3, c109, A4, n4, c113, A1, n1, c117, A3, n2, j2, rfl, e2, d4, d8, d6⟩ := e4
 refine sG 0 ?_
 refine g2 ?_
 refine rD 0 [] results64 ?_
 have d9 : ∀ t, t ∈ m1.map (·.1) ↔ ∃ v ∈ l, t ∈ v.acts := fun t => (i8 t).trans (seen_all (by have := hl.len; omega) t)
 have l0 : ∀ t, t ∈ i5.acts.map (·.name) ↔ t ∈ m1.map (·.1) := fun t => by have := (c0.map (·.1)).mem_iff (a := t); simpa [List.map_map, Function.comp_def] using this
 have l6 : i5.acts.length = m1.length := by have := c0.length_eq; simpa using this
 exact ⟨rfl, _, _, _, rfl, ⟨_, _, _, _, _, _, _, _, _, _, _, _, rfl, e2, d4, d8, d6⟩, .inr ⟨rfl, fun t => (l0 t).trans (d9 t), by simp [mapL] at *; omega, d7, d5⟩⟩
theorem mat_put {k i : Nat} {bs : List Nat} (hb : bs.length = i) (hi : i < k) : (matO k bs ++ List.replicate (k - i) (Value.slice none 0 0)).set (0 + i * 1) (.slice (ad b) k k) = matO k (bs ++ [b]) ++ List.replicate (k - (i + 1)) (Value.slice none 0 0) := by
 have h1 : (matO k bs).length = i := by simp [matO, hb]
 rw [Nat.zero_add, Nat.mul_one, List.set_append_right _ _ oM, h1, Nat.sub_self, show k - i = (k - (i + 1)) + 1 by omega, List.replicate_succ, List.set_cons_zero]
 simp [matO]
theorem rows_snoc {i : Nat} {bs : List Nat} (hb : bs.length = i) : matL k bs (List.replicate i (List.replicate k false)) ++ [((.slice (ad b) k k, k, List.replicate k (.bool false)) : RowT)] = matL k (bs ++ [b]) (List.replicate (i + 1) (List.replicate k false)) := by
 subst hb
 rw [List.replicate_succ', matL, matL, List.zipWith_append (by simp)]
 simp
theorem c197 {k : Nat} (hk : k ≤ 1000000) : Ct PP 197 #[.int .i64 (k : Int)] H [] fun v H' O' => ∃ b bs, O' = [.row 78 1 (.slice (ad b) k k) k (matO k bs), .rows 4 1 (matL k bs (List.replicate k (List.replicate k false)))] ∧ bs.length = k ∧ v = .slice (ad b) k k := by
 refine cB func197 ntmps197 fun I hD hI h7 => ?_
 refine g7b ?_
 intros
 refine sq rfl (tMake uC iC rfl rfl rfl oM oM oM dC fun b3 => ?_)
 refine g10b ?_
 intros
 refine newRows 4 1 ?_
 refine lp0 (fun D E H' O m => ∃ (i : Nat) (bs : List Nat), H = H' ∧ (i ≤ k) ∧ (bs.length = i) ∧ m = k - i ∧ O = [.rows 4 1 (matL k bs (List.replicate i (List.replicate k false))), .row 78 1 (.slice (ad b3) k k) k (matO k bs ++ List.replicate (k - i) (Value.slice none 0 0))] ∧ E = (9, .int .i64 (i : Int)) :: D) [0, 3, 8] [0, 1] ⟨0, [], rfl, (Nat.zero_le _), rfl, rfl, rfl, rfl⟩ ?_
 rintro _ _ _ _ ⟨i, bs, rfl, hi, h4, rfl, rfl, rfl⟩ _ h5
 refine g5b ?_
 intros
 refine cD ?_ ?_ <;> intro h6
 refine g12b ?_
 intros
 refine sq rfl (tMake uC iC rfl rfl rfl oM oM oM dC fun b4 => ?_)
 refine g1 ?_
 refine sq rfl (rS 2 ?_ (ho := by simp [matO]; omega))
 refine g4 ?_
 refine rowsAdd (q := 0) (x := (.slice (ad b4) k k, k, List.replicate k (.bool false))) rfl rfl ?_
 simp only [Int.toNat_natCast]
 rw [mat_put h4 oM, rows_snoc h4]
 exact nK h5 ⟨i + 1, bs ++ [b4], rfl, oM, (by simp [h4]), rfl, rfl, rfl⟩
 refine g6a ?_
 intros
 obtain rfl : i = k := by omega
 rw [Nat.sub_self, List.replicate_zero, List.append_nil]
 refine TK.permO [1, 0] [] 2 rfl rfl rfl ?_
 refine rT results197 ?_
 exact ⟨_, _, rfl, h4, rfl⟩
theorem c244 {x1 x2 x3 : Value} {y : BA} (hl : Sl rStr H xs A n c) : Ct PP 244 #[.pointer (ad b), .string y] H [.blk b 233 [.slice A n c, x1, x2, x3]] fun v H' O' => O' = [.blk b 233 [.slice A n c, x1, x2, x3]] ∧ v = .int .i64 (idxOf (fun x => decide (y = x)) xs) := by
 refine cB func244 ntmps244 fun I hD hI h4 => ?_
 refine g11b ?_
 intros
 refine sq rfl (fS hD rfl call82 rfl (c82 hl hl.2.2.1) ?_)
 rintro v3 rfl
 refine g2 ?_
 refine rT results244 ?_
 exact ⟨rfl, rfl⟩
end
structure RelAt (H : Ghost) (b : Nat) (A B S F : OA) (c d e f k : Nat) (names : LB) (M : List (List Bool)) (st en : List Bool) : Prop where
 cells : HC H b 0 [.slice A k c, .slice B k d, .slice S k e, .slice F k f]
 names : Sl rStr H names A k c
 edge : Sl (rSl rBool) H M B k d
 square : ∀ r ∈ M, r.length = k
 start : Sl rBool H st S k e
 fin : Sl rBool H en F k f
theorem RelAt.mono {H : Ghost} {A : OA} {c k : Nat} {names : LB} {st : List Bool} (h : RelAt H b A B S F c d e f k names M st en) (hle : Ghost.le H H') : RelAt H' b A B S F c d e f k names M st en :=
 ⟨h.cells.mono hle, h.names.mono hle, h.edge.mono hle, h.square, h.start.mono hle, h.fin.mono hle⟩
theorem idxOf_mem {α : Type} [DecidableEq α] {y : α} {xs : List α} (h : y ∈ xs) : ∃ i : Nat, idxOf (fun x => decide (y = x)) xs = (i : Int) ∧ i < xs.length := by
 unfold idxOf
 cases hf : xs.findIdx? (fun x => decide (y = x)) with
 | some i =>
  rw [List.findIdx?_eq_some_iff_getElem] at hf
  exact ⟨i, rfl, hf.1⟩
 | none =>
  rw [List.findIdx?_eq_none_iff] at hf
  have := hf y h
  simp at this
theorem bset_map {r : List Bool} {j : Nat} {v : Bool} : (r.map Value.bool).set (0 + j * 1) (.bool v) = (r.set j v).map Value.bool := by rw [Nat.zero_add, Nat.mul_one, List.map_set]
theorem rows_len {k : Nat} {M : List (List Bool)} {r : List Bool} (h : ∀ r ∈ M, r.length = k) (hr : r.length = k) : ∀ x ∈ M.set i r, x.length = k := by
 intro x hx
 rcases List.mem_or_eq_of_mem_set hx with hx | rfl
 ·exact h x hx
 ·exact hr
theorem ex_at {α : Type} {l : List α} {i : Nat} (h : i < l.length) : ∃ x, l[i]? = some x := ⟨l[i], List.getElem?_eq_getElem h⟩
instance : Mo (RelAt H b A B S F c d e f k names M st en) H H' (RelAt H' b A B S F c d e f k names M st en) := ⟨fun h e => h.mono e⟩
section
open Go.Proofs.Tryz
attribute [local irreducible] TK Yl OpK AnyT wpList Code.wp
theorem c196 {g : Dfg} (h1 : Sl rCnt H g.acts A1 n1 k1) (h2 : Sl rCnt H g.starts A2 n2 k2) (h3 : Sl rCnt H g.ends A3 n3 k3) (h4 : Sl rFlw H g.follows A4 n4 k4) (b1 : n1 ≤ 1000000) (b2 : n2 ≤ 1000000) (b3 : n3 ≤ 1000000) (hg : okG g) : Ct PP 196 #[.agg #[.slice A1 n1 k1, .slice A2 n2 k2, .slice A3 n3 k3, .slice A4 n4 k4]] H [] fun v H' O' => O' = [] ∧ ∃ b A B S F c d e f M st en, v = .pointer (ad b) ∧ RelAt H' b A B S F c d e f n1 (g.acts.map (·.name)) M st en := by
 have r6 := h1.2.2.1
 have n5 := h2.2.2.1
 have r3 := h3.2.2.1
 have o8 := h4.2.2.1
 have l9 := h1.len
 have n8 := h2.len
 have n7 := h3.len
 have n6 := h4.len
 have e1 := b1
 refine cB func196 ntmps196 fun I hD hI r7 => ?_
 refine g2a ?_
 intros
 refine bG fun b2 => ?_
 refine g10b ?_
 intros
 refine ts 6 fun _ => ?_
 refine tj 0 ?_
 refine tj 2 ?_
 refine tj 4 ?_
 refine tm3 1 3 5 ?_ ?_ ?_
 refine fT hD [] [0] rfl call197 rfl (c197 (k := n1) e1) ?_
 rintro v9 O1 ⟨d9, b7, rfl, h9, rfl⟩
 refine g1 ?_
 refine tm2 3 5 ?_ ?_
 refine tMake uC iC rfl rfl rfl oM oM oM dC fun d5 => ?_
 refine g1 ?_
 refine oI 5 rfl kR (tMake uC iC rfl rfl rfl oM oM oM dC fun d3 => ?_)
 refine g3 ?_
 refine bG fun d8 => ?_
 refine g11b ?_
 intros
 rotate_left
 refine tMake uC iC rfl rfl rfl oM oM oM dC fun d3 => ?_
 refine g1 ?_
 refine oI 3 rfl kR (tMake uC iC rfl rfl rfl oM oM oM dC fun d5 => ?_)
 refine g3 ?_
 refine bG fun d8 => ?_
 refine g11b ?_
 intros
 refine pM [0, 2, 1, 3, 4, 5] ?_
 rotate_left
 refine tMake uC iC rfl rfl rfl oM oM oM dC fun d5 => ?_
 refine g1 ?_
 refine tm2 1 5 ?_ ?_
 refine fT hD [] [0, 1] rfl call197 rfl (c197 (k := n1) e1) ?_
 rintro v9 O1 ⟨d9, b7, rfl, h9, rfl⟩
 refine g1 ?_
 refine oI 5 rfl kR (tMake uC iC rfl rfl rfl oM oM oM dC fun d3 => ?_)
 refine g3 ?_
 refine bG fun d8 => ?_
 refine g11b ?_
 intros
 refine pM [0, 1, 4, 2, 3, 5] ?_
 rotate_left
 refine tMake uC iC rfl rfl rfl oM oM oM dC fun d3 => ?_
 refine g1 ?_
 refine oI 1 rfl kR (fT hD [] [0, 1, 2] rfl call197 rfl (c197 (k := n1) e1) ?_)
 rintro v9 O1 ⟨d9, b7, rfl, h9, rfl⟩
 refine g3 ?_
 refine bG fun d8 => ?_
 refine g11b ?_
 intros
 refine pM [0, 3, 4, 1, 2, 5] ?_
 rotate_left
 refine tMake uC iC rfl rfl rfl oM oM oM dC fun d3 => ?_
 refine g1 ?_
 refine tm2 1 3 ?_ ?_
 refine fT hD [] [0, 1] rfl call197 rfl (c197 (k := n1) e1) ?_
 rintro v9 O1 ⟨d9, b7, rfl, h9, rfl⟩
 refine g1 ?_
 refine oI 3 rfl kR (tMake uC iC rfl rfl rfl oM oM oM dC fun d5 => ?_)
 refine g3 ?_
 refine bG fun d8 => ?_
 refine g11b ?_
 intros
 refine pM [0, 4, 1, 2, 3, 5] ?_
 rotate_left
 refine tMake uC iC rfl rfl rfl oM oM oM dC fun d5 => ?_
 refine g1 ?_
 refine oI 1 rfl kR (fT hD [] [0, 1, 2] rfl call197 rfl (c197 (k := n1) e1) ?_)
 rintro v9 O1 ⟨d9, b7, rfl, h9, rfl⟩
 refine g3 ?_
 refine bG fun d8 => ?_
 refine g11b ?_
 intros
 refine pM [0, 4, 3, 1, 2, 5] ?_
 rotate_left
 all_goals
  refine eO6 (fun e0 _ _ _ _ e5 => [e0, .row 4 1 (.slice (ad d3) n1 n1) n1 ((List.replicate n1 false).map Value.bool), .row 4 1 (.slice (ad d5) n1 n1) n1 ((List.replicate n1 false).map Value.bool), .row 78 1 (.slice (ad d9) n1 n1) n1 (matO n1 b7), .rows 4 1 (matL n1 b7 (List.replicate n1 (List.replicate n1 false))), e5]) ?_ (he := by simp only [List.map_replicate]; rfl)
  refine newRow 9 1 ?_
  refine lp5 (fun D f f1 f2 f3 f4 E H' O m => ∃ (i : Nat) (Ax : OA) (cx : Nat), H = H' ∧ (i ≤ n1) ∧ m = n1 - i ∧ O = [.row 9 1 (.slice Ax i cx) i ((g.acts.take i).map fun x => Value.string x.name), .blk d8 233 [.slice Ax i cx, .slice (ad d9) n1 n1, .slice (ad d5) n1 n1, .slice (ad d3) n1 n1], f, f1, f2, f3, f4] ∧ E = (27, .int .i64 (i : Int)) :: D) [1, 4, 25, 26] [0, 1, 2, 3, 4, 5, 6] ⟨0, none, 0, rfl, Nat.zero_le _, rfl, rfl, rfl⟩ ?_
  rintro _ _ _ _ ⟨i, Ax, cx, rfl, hi, rfl, rfl, rfl⟩ _ i9
  refine g5b ?_
  intros
  refine cD ?_ ?_ <;> intro l2
  refine g5b ?_
  intros
  obtain ⟨l0, i5⟩ := eX h1 i
  obtain ⟨l6, o6, _, j8, rfl, k9⟩ := h1.at_ i5
  refine g2 ?_
  refine aL fun r1 => ?_
  refine sG 0 ?_
  refine g1 ?_
  refine tss (.cons_cons _ (.cons _ (.cons_cons _ (.cons_cons _ (.cons_cons _ (.cons_cons _ (.cons_cons _ (.cons_cons _ (List.nil_sublist _))))))))) 9 fun _ => ?_
  refine tj 0 ?_
  refine g6 ?_
  refine oI 7 rfl kR (bS [.string l0.name] fun r5 => ?_)
  refine g1 ?_
  refine oI 8 rfl kR (aR 2 fun A0 c39 => ?_)
  refine g4 ?_
  refine sU 3 ?_
  refine g4 ?_
  rw [← map_take (fun x : Cnt => Value.string x.name) i5]
  exact nK i9 ⟨i + 1, A0, c39, rfl, oM, rfl, rfl, rfl⟩
  refine g10b ?_
  intros
  obtain rfl : n1 = i := by omega
  refine tSealRow (r := rStr) (ys := g.acts.map (·.name)) (i := 0) rfl (by have := repsS (H := H) (g.acts.map (·.name)); rw [List.take_of_length_le oM]; simpa [List.map_map, Function.comp_def] using this) dC oM fun H0 e8 h5 => ?_
  have ⟨h1, h4, h2, h3⟩ := mo4 e8 h1 h4 h2 h3
  refine lp5 (fun D f f1 f2 f3 f4 E H O m => ∃ (j : Nat) (M : List (List Bool)), H0 = H ∧ (j ≤ n4) ∧ (M.length = n1) ∧ (∀ r ∈ M, r.length = n1) ∧ m = n4 - j ∧ O = [f, f1, f2, f3, .rows 4 1 (matL n1 b7 M), f4] ∧ E = (46, .int .i64 (j : Int)) :: D) [1, 4, 44, 45] [0, 1, 2, 3, 4, 5] ⟨0, List.replicate n1 (List.replicate n1 false), rfl, Nat.zero_le _, (by simp), (fun r hr => by rw [List.eq_of_mem_replicate hr]; simp), rfl, rfl, rfl⟩ ?_
  rintro _ _ _ _ ⟨j, M, rfl, hj, j4, e7, rfl, rfl, rfl⟩ _ j1
  refine g5b ?_
  intros
  refine cD ?_ ?_ <;> intro l3
  refine g5b ?_
  intros
  obtain ⟨o9, d1⟩ := eX h4 j
  obtain ⟨n9, o7, _, l5, rfl, k5⟩ := h4.at_ d1
  refine g2 ?_
  refine aL fun n0 => ?_
  refine sG 0 ?_
  refine g1 ?_
  refine ts 14 fun _ => ?_
  refine tj 0 ?_
  refine g6 ?_
  refine tj 10 ?_
  refine g2 ?_
  refine oI 7 rfl kR (fR hD [1] [0, 2, 3, 4, 5, 6] rfl call244 rfl (c244 h5) ?_)
  rintro v3 rfl
  obtain ⟨b6, e2, f9⟩ := idxOf_mem (hg.2.2.2 _ (mG d1)).1
  rw [e2]
  rw [List.length_map] at f9
  refine g2 ?_
  obtain ⟨k7, b5⟩ := ex_at (l := b7) (i := b6) oM
  refine tk 9 rfl kR aS nP kS (yLoad1 aC rfl (Mem.row1 (i := 4) rfl (matO_at b5))) rfl rfl rfl ?_
  refine oI 13 rfl kR (fR hD [1] [0, 2, 3, 4, 5, 6] rfl call244 rfl (c244 h5) ?_)
  rintro v2 rfl
  obtain ⟨i7, f8, i4⟩ := idxOf_mem (hg.2.2.2 _ (mG d1)).2
  rw [f8]
  rw [List.length_map] at i4
  refine g3 ?_
  obtain ⟨r0, h8⟩ := ex_at (l := M) (i := b6) oM
  have r8 := e7 _ (mG h8)
  refine sq rfl (tStoreRows1 (q := 5) (i := b6) rfl (matL_at b5 h8) sC rfl rfl rfl (by simp; omega) ?_)
  rw [bset_map, matL_set b5 oM]
  refine g4 ?_
  exact nK j1 ⟨j + 1, M.set b6 (r0.set i7 true), rfl, oM, (by simp [j4]), (rows_len e7 (by rw [List.length_set]; exact e7 _ (mG h8))), rfl, rfl, rfl⟩
  refine g10b ?_
  intros
  refine lp5 (fun D f f1 f2 f3 f4 E H O m => ∃ (p : Nat) (sv : List Bool), H0 = H ∧ (p ≤ n2) ∧ (sv.length = n1) ∧ m = n2 - p ∧ O = [f, f1, .row 4 1 (.slice (ad d5) n1 n1) n1 (sv.map Value.bool), f2, f3, f4] ∧ E = (69, .int .i64 (p : Int)) :: D) [1, 4, 67, 68] [0, 1, 2, 3, 4, 5] ⟨0, List.replicate n1 false, rfl, Nat.zero_le _, (by simp), rfl, rfl, rfl⟩ ?_
  rintro _ _ _ _ ⟨p, sv, rfl, hp, j9, rfl, rfl, rfl⟩ _ i8
  refine g5b ?_
  intros
  refine cD ?_ ?_ <;> intro j7
  refine g5b ?_
  intros
  obtain ⟨l7, e9⟩ := eX h2 p
  obtain ⟨l8, o5, _, k8, rfl, l1⟩ := h2.at_ e9
  refine g2 ?_
  refine aL fun r4 => ?_
  refine sG 0 ?_
  refine g1 ?_
  refine ts 8 fun _ => ?_
  refine tj 0 ?_
  refine g6 ?_
  refine oI 7 rfl kR (fR hD [1] [0, 2, 3, 4, 5, 6] rfl call244 rfl (c244 h5) ?_)
  rintro v1 rfl
  obtain ⟨e6, d4, d7⟩ := idxOf_mem (hg.2.1 _ (mG e9))
  rw [d4]
  rw [List.length_map] at d7
  refine g3 ?_
  refine sq rfl (rS 3 ?_)
  rw [bset_map]
  refine g4 ?_
  exact nK i8 ⟨p + 1, (sv.set e6 true), rfl, oM, (by simp [j9]), rfl, rfl, rfl⟩
  refine g10b ?_
  intros
  refine lp5 (fun D f f1 f2 f3 f4 E H O m => ∃ (u : Nat) (ev : List Bool), H0 = H ∧ (u ≤ n3) ∧ (ev.length = n1) ∧ m = n3 - u ∧ O = [f, .row 4 1 (.slice (ad d3) n1 n1) n1 (ev.map Value.bool), f1, f2, f3, f4] ∧ E = (86, .int .i64 (u : Int)) :: D) [4, 84, 85] [0, 1, 2, 3, 4, 5] ⟨0, List.replicate n1 false, rfl, Nat.zero_le _, (by simp), rfl, rfl, rfl⟩ ?_
  rintro _ _ _ _ ⟨u, ev, rfl, hu, l4, rfl, rfl, rfl⟩ _ i6
  refine g5b ?_
  intros
  refine cD ?_ ?_ <;> intro j2
  refine g5b ?_
  intros
  obtain ⟨j6, b8⟩ := eX h3 u
  obtain ⟨k6, o4, _, j3, rfl, j5⟩ := h3.at_ b8
  refine g2 ?_
  refine aL fun k0 => ?_
  refine sG 0 ?_
  refine g1 ?_
  refine ts 8 fun _ => ?_
  refine tj 0 ?_
  refine g6 ?_
  refine oI 7 rfl kR (fR hD [1] [0, 2, 3, 4, 5, 6] rfl call244 rfl (c244 h5) ?_)
  rintro v0 rfl
  obtain ⟨e3, d2, c1⟩ := idxOf_mem (hg.2.2.1 _ (mG b8))
  rw [d2]
  rw [List.length_map] at c1
  refine g3 ?_
  refine sq rfl (rS 2 ?_)
  rw [bset_map]
  refine g4 ?_
  exact nK i6 ⟨u + 1, (ev.set e3 true), rfl, oM, (by simp [l4]), rfl, rfl, rfl⟩
  refine g6a ?_
  intros
  refine tSealMat (p := 3) (q := 4) dC rfl rfl h9 j4 e7 e1 fun H3 c0 h6 => ?_
  have ⟨h3, h5, h1, h2, h4⟩ := mo5 c0 h3 h5 h1 h2 h4
  refine tR 2 (r := rBool) (ys := sv) (repsB _) fun H2 b9 h7 => ?_
  have ⟨h3, h5, h1, h2, h4, h6⟩ := mo6 b9 h3 h5 h1 h2 h4 h6
  refine tR 1 (r := rBool) (ys := ev) (repsB _) fun H4 d6 b4 => ?_
  have ⟨h3, h5, h7, h1, h2, h4, h6⟩ := mo7 d6 h3 h5 h7 h1 h2 h4 h6
  refine tSeal (i := 0) rfl fun H1 d0 e4 => ?_
  have ⟨h3, h1, h2, h4, h5, h6, h7, b4⟩ := mo8 d0 h3 h1 h2 h4 h5 h6 h7 b4
  have j0 : RelAt H1 _ _ _ _ _ _ _ _ _ n1 (g.acts.map (·.name)) M sv ev := ⟨e4, h5, h6, e7, h7, b4⟩
  refine kP [] ?_
  refine rT results196 ?_
  exact ⟨rfl, _, _, _, _, _, _, _, _, _, _, _, _, rfl, j0⟩
end
end Go.Proofs.YtookcfeogbeooaaGreatDoor
