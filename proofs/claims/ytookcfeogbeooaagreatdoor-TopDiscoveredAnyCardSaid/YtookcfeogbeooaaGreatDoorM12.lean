/-
Relations of graphs, 3. Relations of graphs, 4. Classes of indices: what the classes of a list are, and how long they can be. Closures of the cuts. Classes of indices, as a loop makes them. Classes. The language of a tree, its activities, and what joining parts does to them.
Conditions: those that each theorem states.
-/
import Derived.Test.YtookcfeogbeooaaGreatDoorM11
set_option linter.all false
set_option maxRecDepth 100000
set_option maxHeartbeats 8000000
set_option autoImplicit true
set_option relaxedAutoImplicit true
namespace Go.Proofs.YtookcfeogbeooaaGreatDoor
open Go Go.Proofs
section
open Go.Proofs.Tryz
attribute [local irreducible] TK Yl OpK AnyT wpList Code.wp
theorem c153 {g : Dfg} (h1 : Sl rCnt H g.acts A1 n1 k1) (h2 : Sl rCnt H g.starts A2 n2 k2) (h3 : Sl rCnt H g.ends A3 n3 k3) (h4 : Sl rFlw H g.follows A4 n4 k4) (b1 : n1 ≤ 1000000) (b2 : n2 ≤ 1000000) (b3 : n3 ≤ 1000000) : Ct PP 153 #[.agg #[.slice A1 n1 k1, .slice A2 n2 k2, .slice A3 n3 k3, .slice A4 n4 k4]] H [] fun v H' O' => O' = [] ∧ (v = .tuple #[.pointer none, .int .i64 1] ∨ okG g ∧ ∃ b A B S F c d e f M st en, v = .tuple #[.pointer (ad b), .int .i64 0] ∧ RelAt H' b A B S F c d e f n1 (g.acts.map (·.name)) M st en) := by
 have h7 := b1
 have b4 := b2
 have h8 := b3
 refine cB func153 ntmps153 fun I hD hI b6 => ?_
 refine g2a ?_
 intros
 refine bG fun b2 => ?_
 refine g7b ?_
 intros
 refine sq rfl (fS hD rfl call195 rfl (c195 h1 h2 h3 h4 h7 b4 h8) ?_)
 rintro v7 ⟨r5, rfl, b5⟩
 refine g2 ?_
 refine cN ?_ ?_ <;> intro b7
 refine g5a ?_
 intros
 refine kP [] ?_
 refine r2 results153 ?_
 exact ⟨rfl, .inl rfl⟩
 refine g4a ?_
 intros
 have h9 := b5 (by simp_all)
 refine sq rfl (fP hD rfl call196 rfl (c196 h1 h2 h3 h4 h7 b4 h8 h9) ?_)
 rintro v0 H0 ⟨r0, _, _, _, _, _, _, _, _, _, _, _, rfl, h6⟩ h5
 have ⟨h1, h2, h3, h4⟩ := mo4 h5 h1 h2 h3 h4
 refine g3 ?_
 refine kP [] ?_
 refine r2 results153 ?_
 exact ⟨rfl, .inr ⟨h9, _, _, _, _, _, _, _, _, _, _, _, _, rfl, h6⟩⟩
def upTo (k : Nat) : LI := (List.range k).map fun j : Nat => (j : Int)
theorem upTo_snoc : ((upTo i).map fun x => Value.int .i64 x) ++ [Value.int .i64 (i : Int)] = (upTo (i + 1)).map fun x => Value.int .i64 x := by simp [upTo, List.range_succ]
theorem upTo_len : (upTo i).length = i := by simp [upTo]
theorem c156 (hR : RelAt H b A B S F c d e f k names M st en) (hk : k ≤ 1000000) : Ct PP 156 #[.pointer (ad b)] H [] fun v H' O' => O' = [] ∧ ∃ C m, v = .slice C k m ∧ Sl rInt H' (upTo k) C k m := by
 have h9 := hR.cells
 refine cB func156 ntmps156 fun I hD hI b4 => ?_
 refine g16d ?_
 intros
 refine g3 ?_
 refine newRow 3 1 ?_
 refine lp0 (fun D E H' O m => ∃ (i : Nat) (Ax : OA) (cx : Nat), H = H' ∧ (i ≤ k) ∧ m = k - i ∧ O = [.row 3 1 (.slice Ax i cx) i ((upTo i).map fun x => Value.int .i64 x)] ∧ E = (3, .slice Ax i cx) :: (10, .int .i64 (i : Int)) :: D) [9] [0] ⟨0, none, 0, rfl, Nat.zero_le _, rfl, rfl, rfl⟩ ?_
 rintro _ _ _ _ ⟨i, Ax, cx, rfl, hi, rfl, rfl, rfl⟩ _ h6
 refine g5b ?_
 intros
 refine cD ?_ ?_ <;> intro h8
 refine g11b ?_
 intros
 refine sq rfl (bS [.int .i64 (i : Int)] fun b5 => ?_)
 refine sq rfl (aR 1 fun A0 c18 => ?_)
 refine g5 ?_
 rw [upTo_snoc]
 exact nK h6 ⟨i + 1, A0, c18, rfl, oM, rfl, rfl, rfl⟩
 refine g6a ?_
 intros
 obtain rfl : k = i := by omega
 refine tR 0 (r := rInt) (ys := upTo k) (repsI _) fun H0 h5 h4 => ?_
 have h7 := h4
 refine rT results156 ?_
 exact ⟨rfl, _, _, rfl, h7⟩
def nameAt (names : LB) (i : Int) : BA := names.getD i.toNat ByteArray.empty
theorem nameAt_of {names : LB} {q : Nat} (h : names[q]? = some y) : nameAt names (q : Int) = y := by simp [nameAt, List.getD_eq_getElem?_getD, h]
theorem nameAt_mem {names : LB} {i : Int} (h0 : 0 ≤ i) (h1 : i < names.length) : nameAt names i ∈ names := by
 have hq : i.toNat < names.length := by omega
 simp [nameAt, List.getD_eq_getElem?_getD, List.getElem?_eq_getElem hq]
theorem c154 (hR : RelAt H b A B S F c d e f k names M st en) {l : List LI} {kind : Int} (hl : Sl (rSl rInt) H l L n cc) (hlen : n ≤ 1000000 ∧ ∀ cl ∈ l, cl.length ≤ 1000000) (hin : ∀ cl ∈ l, ∀ i ∈ cl, 0 ≤ i ∧ i < (k : Int)) : Ct PP 154 #[.pointer (ad b), .int .i64 kind, .slice L n cc] H [] fun v H' O' => O' = [] ∧ ∃ cs e, v = .tuple #[.agg cs.toArray, .int .i64 e] ∧ (∃ q P n p, cs = [.int .i64 q, .slice P n p]) ∧ (e = 10 ∨ e = 0 ∧ 2 ≤ n ∧ ∃ P p, cs = [.int .i64 kind, .slice P n p] ∧ Sl (rSl rStr) H' (l.map fun cl => cl.map (nameAt names)) P n p) := by
 have b6 := hR.cells
 have h6 := hR.names
 have i6 := hR.start
 have j4 := hR.fin
 have j2 := hlen.1
 refine cB func154 ntmps154 fun I hD hI j6 => ?_
 refine g2a ?_
 intros
 refine aL fun b2 => ?_
 refine g9b ?_
 intros
 refine cD ?_ ?_ <;> intro i5
 refine g3a ?_
 intros
 refine sG 0 ?_
 refine g2 ?_
 refine rD 0 [] results154 ?_
 exact ⟨rfl, _, _, rfl, ⟨_, _, _, _, rfl⟩, .inl rfl⟩
 refine g5a ?_
 intros
 refine aL fun b8 => ?_
 refine sG 0 ?_
 refine g9b ?_
 intros
 refine newRow 24 1 ?_
 refine lp1 (fun D f E H' O m => ∃ (i : Nat) (Ap : OA) (cp : Nat) (ps : LV), Ghost.le H H' ∧ (i ≤ n) ∧ (Reps (rSl rStr) H' ((l.take i).map (fun cl => cl.map (nameAt names))) ps) ∧ m = n - i ∧ O = [.row 24 1 (.slice Ap i cp) i ps, .blk b8 124 [.int .i64 kind, .slice Ap i cp], f] ∧ E = (22, .int .i64 (i : Int)) :: D) [0, 6, 8, 20, 21] [0, 1, 2] ⟨0, none, 0, [], Ghost.le.refl _, Nat.zero_le _, .nil, rfl, rfl, rfl⟩ ?_
 rintro _ H0 _ _ ⟨i, Ap, cp, ps, h7, hi, c0, rfl, rfl, rfl⟩ _ d3
 have ⟨b6, hl, h6⟩ := mo3 h7 b6 hl h6
 refine g5b ?_
 intros
 refine cD ?_ ?_ <;> intro e8
 refine g5b ?_
 intros
 obtain ⟨d1, h5⟩ := eX hl i
 obtain ⟨j1, o5, e0, d9, d5, e5⟩ := hl.at_ h5
 obtain ⟨A2, n0, c32, rfl, h4⟩ := d5
 refine g15c ?_
 intros
 refine g1 ?_
 have e9 := hlen.2 _ (mG h5)
 have i4 := h4.len
 refine newRow 9 1 ?_
 refine lp3 (fun D f f1 f2 E H O m => ∃ (j : Nat) (Aq : OA) (cq : Nat), H0 = H ∧ (j ≤ n0) ∧ m = n0 - j ∧ O = [.row 9 1 (.slice Aq j cq) j ((d1.take j).map fun x => Value.string (nameAt names x)), f, f1, f2] ∧ E = (11, .slice Aq j cq) :: (28, .int .i64 (j : Int)) :: D) [0, 6, 8, 20, 21, 22, 26, 27] [0, 1, 2, 3] ⟨0, none, 0, rfl, Nat.zero_le _, rfl, rfl, rfl⟩ ?_
 rintro _ _ _ _ ⟨j, Aq, cq, rfl, hj, rfl, rfl, rfl⟩ _ d2
 refine g5b ?_
 intros
 refine cD ?_ ?_ <;> intro e7
 refine g5b ?_
 intros
 obtain ⟨d8, h9⟩ := eX h4 j
 obtain ⟨f8, o4, e1, e4⟩ := h4.atI h9
 refine g5 ?_
 have j3 := hin _ (mG h5) _ (mG h9)
 obtain ⟨b5, b7⟩ : ∃ q : Nat, d8 = (q : Int) := ⟨d8.toNat, by omega⟩
 have d6 : b5 < k := by omega
 have b4 := h9
 rw [b7] at b4
 rw [b7]
 refine g6 ?_
 obtain ⟨d7, b9⟩ := eX h6 b5
 obtain ⟨f9, o6, e3, e6⟩ := h6.atS b9
 refine g2 ?_
 refine sq rfl (bS [.string d7] fun i7 => ?_)
 refine sq rfl (aR 1 fun A0 c66 => ?_)
 refine g5 ?_
 rw [show Value.string d7 = Value.string (nameAt names (b5 : Int)) by rw [nameAt_of b9], ← map_take (fun x => Value.string (nameAt names x)) b4]
 exact nK d2 ⟨j + 1, A0, c66, rfl, oM, rfl, rfl, rfl⟩
 refine g2 ?_
 have i9 := h4.len
 have j0 := h4.2.2.1
 rw [List.take_of_length_le oM]
 refine tSealRow (r := rStr) (ys := d1.map (nameAt names)) (i := 0) rfl (by have := repsS (H := H0) (d1.map (nameAt names)); simpa [List.map_map, Function.comp_def] using this) dC oM fun H2 h8 d0 => ?_
 have ⟨b6, hl, h4, c0, h6⟩ := mo5 h8 b6 hl h4 c0 h6
 refine g3 ?_
 refine sq rfl (bS [.slice Aq j cq] fun j5 => ?_)
 refine sq rfl (aR 1 fun A1 c72 => ?_)
 refine g1 ?_
 refine sU 2 ?_
 refine g4 ?_
 exact nK d3 ⟨i + 1, A1, c72, ps ++ [.slice Aq j cq], (h7.trans h8), oM, (by rw [map_take (fun cl : LI => cl.map (nameAt names)) h5]; exact c0.append (.single ⟨_, _, _, rfl, d0⟩)), rfl, rfl, rfl⟩
 refine g4a ?_
 intros
 refine sG 2 ?_
 refine g2 ?_
 obtain rfl : n = i := by omega
 have i8 := hl.len
 rw [List.take_of_length_le oM] at c0
 refine tR 0 c0 fun H1 c1 d4 => ?_
 have ⟨b6, hl, h6⟩ := mo3 c1 b6 hl h6
 have e2 := d4
 refine rD 1 [] results154 ?_
 exact ⟨rfl, _, _, rfl, ⟨_, _, _, _, rfl⟩, .inr ⟨rfl, by omega, _, _, rfl, e2⟩⟩
end
theorem nodup_sub {α : Type} [DecidableEq α] : ∀ {xs ys : List α}, xs.Nodup → (∀ x ∈ xs, x ∈ ys) → xs.length ≤ ys.length
 | [], _, _, _ => Nat.zero_le _
 | x :: xs, ys, hn, hs => by
  have hx := hs x (List.mem_cons_self)
  have h4 := List.nodup_cons.1 hn
  have ih := nodup_sub (xs := xs) (ys := ys.erase x) h4.2 (fun y hy => by
   have h5 : y ≠ x := fun e => h4.1 (e ▸ hy)
   exact (List.mem_erase_of_ne h5).2 (hs y (List.mem_cons_of_mem _ hy)))
  have := List.length_erase_of_mem hx
  have : 0 < ys.length := List.length_pos_of_mem hx
  simp only [List.length_cons]
  omega
structure ClsR (g : Int → Int → Bool) (l : LI) (out : List LI) : Prop where
 mem : ∀ c ∈ out, ∀ a ∈ c, a ∈ l
 ne : ∀ c ∈ out, c ≠ []
 nodup : out.flatten.Nodup
 sep : out.Pairwise fun c d => ∀ a ∈ c, ∀ b ∈ d, g a b = false ∧ g b a = false
theorem ne_len {α : Type} : ∀ {out : List (List α)}, (∀ c ∈ out, c ≠ []) → out.length ≤ out.flatten.length
 | [], _ => Nat.zero_le _
 | c :: out, h => by
  have h1 := ne_len (out := out) fun d hd => h d (List.mem_cons_of_mem _ hd)
  have h2 := List.length_pos_iff.2 (h c List.mem_cons_self)
  simp only [List.flatten_cons, List.length_cons, List.length_append]
  omega
theorem ClsR.flat {g : Int → Int → Bool} {l : LI} {out : List LI} (h : ClsR g l out) : out.flatten.length ≤ l.length :=
 nodup_sub h.nodup fun x hx => by obtain ⟨c, hc, hx⟩ := List.mem_flatten.1 hx; exact h.mem c hc x hx
theorem ClsR.len {g : Int → Int → Bool} {l : LI} {out : List LI} (h : ClsR g l out) : out.length ≤ l.length := Nat.le_trans (ne_len h.ne) h.flat
theorem ClsR.clen {g : Int → Int → Bool} {l : LI} {out : List LI} (h : ClsR g l out) : ∀ c ∈ out, c.length ≤ l.length := fun c hc =>
 nodup_sub ((List.pairwise_flatten.1 h.nodup).1 c hc) (h.mem c hc)
section
open Go.Proofs.Tryz
attribute [local irreducible] TK Yl OpK AnyT wpList Code.wp
theorem c157 (hR : RelAt H b A B S F c d e f k names M st en) {x y : Nat} (hq : HC H z 0 [.pointer (ad b)]) (hx : x < k) (hy : y < k) : Ct PP 157 #[.int .i64 (x : Int), .int .i64 (y : Int), .pointer (ad z)] H [] fun v H' O' => O' = [] ∧ ∃ r row, M[x]? = some row ∧ row[y]? = some r ∧ v = .bool r := by
 have d0 := hR.cells
 have b8 := hR.names
 have h8 := hR.edge
 have h9 := hR.square
 refine cB func157 ntmps157 fun I hD hI d2 => ?_
 refine g11b ?_
 intros
 obtain ⟨x4, h7⟩ := eX h8 x
 obtain ⟨b5, o6, c0, c1, h6, d3⟩ := h8.at_ h7
 obtain ⟨A0, n0, c13, rfl, h4⟩ := h6
 refine g3 ?_
 have d4 := h9 _ (mG h7)
 have b9 := h4.len
 obtain ⟨b7, h5⟩ := eX h4 y
 obtain ⟨d1, o4, b6, b4⟩ := h4.atB h5
 refine g4 ?_
 refine rT results157 ?_
 exact ⟨rfl, _, _, h7, h5, rfl⟩
theorem c166 (hR : RelAt H b A B S F c d e f k names M st en) {x y : Nat} (hq : HC H z 0 [.pointer (ad b)]) (hx : x < k) (hy : y < k) : Ct PP 166 #[.int .i64 (x : Int), .int .i64 (y : Int), .pointer (ad z)] H [] fun v H' O' => O' = [] ∧ ∃ r row, M[x]? = some row ∧ row[y]? = some r ∧ v = .bool r := by
 have d0 := hR.cells
 have b8 := hR.names
 have h8 := hR.edge
 have h9 := hR.square
 refine cB func166 ntmps166 fun I hD hI d2 => ?_
 refine g11b ?_
 intros
 obtain ⟨x4, h7⟩ := eX h8 x
 obtain ⟨b5, o6, c0, c1, h6, d3⟩ := h8.at_ h7
 obtain ⟨A0, n0, c13, rfl, h4⟩ := h6
 refine g3 ?_
 have d4 := h9 _ (mG h7)
 have b9 := h4.len
 obtain ⟨b7, h5⟩ := eX h4 y
 obtain ⟨d1, o4, b6, b4⟩ := h4.atB h5
 refine g4 ?_
 refine rT results166 ?_
 exact ⟨rfl, _, _, h7, h5, rfl⟩
end
section
def tkn (m : List (Int × Bool)) (a : Int) : Bool := (mget m a).getD false
theorem tkn_nil (a : Int) : tkn [] a = false := rfl
theorem tkn_put (m : List (Int × Bool)) (k a : Int) : tkn (mput m k true) a = true ↔ k = a ∨ tkn m a = true := by
 unfold tkn
 rw [mget_mput]
 by_cases h : k = a
 ·simp [h]
 ·simp [h]
structure OutC (g : Int → Int → Bool) (l : LI) (out : List LI) (m : List (Int × Bool)) : Prop where
 r : ClsR g l out
 tk : ∀ a, tkn m a = true ↔ a ∈ out.flatten
 clo : ∀ a ∈ out.flatten, ∀ b ∈ l, (g a b || g b a) = true → tkn m b = true
structure InC (g : Int → Int → Bool) (l F cl : LI) (m : List (Int × Bool)) (i q : Nat) : Prop where
 mem : ∀ a ∈ cl, a ∈ l
 ne : cl ≠ []
 nodup : cl.Nodup
 dis : ∀ a ∈ cl, a ∉ F
 tk : ∀ a, tkn m a = true ↔ a ∈ F ∨ a ∈ cl
 clo : ∀ (j : Nat) (a : Int), j < i → cl[j]? = some a → ∀ b ∈ l, (g a b || g b a) = true → tkn m b = true
 cur : ∀ a, cl[i]? = some a → ∀ (j : Nat) (b : Int), j < q → l[j]? = some b → (g a b || g b a) = true → tkn m b = true
theorem OutC.nil {g : Int → Int → Bool} {l : LI} : OutC g l [] [] where
 r := ⟨fun _ h => by simp at h, fun _ h => by simp at h, by simp, .nil⟩
 tk a := by simp [tkn_nil]
 clo a h := by simp at h
variable {g : Int → Int → Bool} {l F cl : LI} {m : List (Int × Bool)} {i q : Nat} {out : List LI}
theorem OutC.begin {a : Int} (h : OutC g l out m) (ha : a ∈ l) (ht : tkn m a = false) : InC g l out.flatten [a] (mput m a true) 0 0 where
 mem b hb := by simp at hb; exact hb ▸ ha
 ne := by simp
 nodup := by simp
 dis b hb := by simp at hb; subst hb; intro hf; have := (h.tk b).2 hf; rw [ht] at this; cases this
 tk b := by rw [tkn_put, h.tk]; simp only [List.mem_singleton]; constructor <;> (rintro (h | h) <;> simp [h])
 clo j _ hj := by omega
 cur _ _ j _ hj := by omega
theorem InC.len (h : InC g l F cl m i q) : cl.length ≤ l.length := nodup_sub h.nodup h.mem
theorem InC.skip {a : Int} (h : InC g l F cl m i q) (ha : cl[i]? = some a) (hb : l[q]? = some b) (hs : tkn m b = true ∨ (g a b = false ∧ g b a = false)) : InC g l F cl m i (q + 1) :=
 { h with
  cur := fun a' h5 j b' hj h4 hg => by
   rw [ha] at h5; cases h5
   rcases Nat.lt_or_ge j q with h1 | h1
   ·exact h.cur a ha j b' h1 h4 hg
   ·obtain rfl : j = q := by omega
    rw [hb] at h4; cases h4
    rcases hs with hs | ⟨h2, h3⟩
    ·exact hs
    ·rw [h2, h3] at hg; cases hg }
theorem InC.skipT (h : InC g l F cl m i q) (hb : l[q]? = some b) (hs : tkn m b = true) : InC g l F cl m i (q + 1) :=
 { h with
  cur := fun a' h5 j b' hj h4 hg => by
   rcases Nat.lt_or_ge j q with h1 | h1
   ·exact h.cur a' h5 j b' h1 h4 hg
   ·obtain rfl : j = q := by omega
    rw [hb] at h4; cases h4
    exact hs }
theorem InC.add {a : Int} (h : InC g l F cl m i q) (ha : cl[i]? = some a) (hb : l[q]? = some b) (hs : tkn m b = false) : InC g l F (cl ++ [b]) (mput m b true) i (q + 1) where
 mem c hc := by
  rcases List.mem_append.1 hc with hc | hc
  ·exact h.mem c hc
  ·simp at hc; subst hc; exact mG hb
 ne := by simp
 nodup := by
  refine List.nodup_append.2 ⟨h.nodup, by simp, fun x hx y hy e => ?_⟩
  simp at hy; subst hy; subst e
  have := (h.tk x).2 (.inr hx); rw [hs] at this; cases this
 dis c hc := by
  rcases List.mem_append.1 hc with hc | hc
  ·exact h.dis c hc
  ·simp at hc; subst hc; intro hf; have := (h.tk c).2 (.inl hf); rw [hs] at this; cases this
 tk c := by
  rw [tkn_put, h.tk, List.mem_append, List.mem_singleton]
  constructor
  ·rintro (h | h | h) <;> simp [h]
  ·rintro (h | h | h) <;> simp [h]
 clo j c hj hc d hd hg := by
  have hi := (gE ha).1
  rw [List.getElem?_append_left oM] at hc
  rw [tkn_put]; exact .inr (h.clo j c hj hc d hd hg)
 cur c hc j d hj hd hg := by
  have hi := (gE ha).1
  rw [List.getElem?_append_left hi] at hc
  rw [tkn_put]
  rcases Nat.lt_or_ge j q with h1 | h1
  ·exact .inr (h.cur c hc j d h1 hd hg)
  ·obtain rfl : j = q := by omega
   rw [hb] at hd; cases hd
   exact .inl rfl
theorem InC.next (h : InC g l F cl m i q) (hq : l.length ≤ q) (hi : i < cl.length) : InC g l F cl m (i + 1) 0 :=
 { h with
  clo := fun j a hj ha b hb hg => by
   rcases Nat.lt_or_ge j i with h1 | h1
   ·exact h.clo j a h1 ha b hb hg
   ·obtain rfl : j = i := by omega
    obtain ⟨k, hk, h4⟩ := List.getElem_of_mem hb
    exact h.cur a ha k b oM (by rw [List.getElem?_eq_getElem hk, h4]) hg
  cur := fun a ha j b hj => by omega }
theorem InC.done {cl' : LI} {m0 : List (Int × Bool)} (h : InC g l out.flatten cl m i q) (hi : cl.length ≤ i) (ho : OutC g l out m0) (hp : cl'.Perm cl) : OutC g l (out ++ [cl']) m := by
 have h4 : ∀ a, a ∈ (out ++ [cl']).flatten ↔ a ∈ out.flatten ∨ a ∈ cl := fun a => by
  rw [List.flatten_append, List.mem_append, List.flatten_cons, List.flatten_nil, List.append_nil, hp.mem_iff]
 refine ⟨⟨fun c hc a ha => ?_, fun c hc => ?_, ?_, ?_⟩, fun a => ?_, fun a ha b hb hg => ?_⟩
 ·rcases List.mem_append.1 hc with hc | hc
  ·exact ho.r.mem c hc a ha
  ·simp at hc; subst hc; exact h.mem a (hp.mem_iff.1 ha)
 ·rcases List.mem_append.1 hc with hc | hc
  ·exact ho.r.ne c hc
  ·simp at hc; subst hc; intro e; rw [e] at hp; exact h.ne hp.symm.eq_nil
 ·rw [List.flatten_append, List.flatten_cons, List.flatten_nil, List.append_nil]
  refine List.nodup_append.2 ⟨ho.r.nodup, hp.nodup_iff.2 h.nodup, fun x hx y hy e => ?_⟩
  subst e
  exact h.dis x (hp.mem_iff.1 hy) hx
 ·refine List.pairwise_append.2 ⟨ho.r.sep, List.pairwise_singleton .., fun c hc d hd a ha b hb => ?_⟩
  simp at hd; subst hd
  have h5 := hp.mem_iff.1 hb
  have h6 : a ∈ out.flatten := List.mem_flatten.2 ⟨c, hc, ha⟩
  have h7 : (g a b || g b a) = false := by
   cases hg : (g a b || g b a) with
   | false => rfl
   | true => exact absurd ((ho.tk b).1 (ho.clo a h6 b (h.mem b h5) hg)) (h.dis b h5)
  simpa using h7
 ·rw [h4, h.tk]
 ·rcases (h4 a).1 ha with ha | ha
  ·exact (h.tk b).2 (.inl ((ho.tk b).1 (ho.clo a ha b hb hg)))
  ·obtain ⟨k, hk, h8⟩ := List.getElem_of_mem ha
   exact h.clo k a oM (by rw [List.getElem?_eq_getElem hk, h8]) b hb hg
theorem sort_perm (cl : LI) : (cl.mergeSort fun x y => decide (x ≤ y)).Perm cl := List.mergeSort_perm ..
theorem imap_at {l : LI} {i : Nat} (h : l[i]? = some a) : (l.map fun x => Value.int .i64 x)[0 + i * 1]? = some (.int .i64 a) := by rw [Nat.zero_add, Nat.mul_one, List.getElem?_map, h]; rfl
theorem imap_snoc {l : LI} {a : Int} : (l.map fun x => Value.int .i64 x) ++ [.int .i64 a] = (l ++ [a]).map fun x => Value.int .i64 x := by simp
def at2 (M : List (List Bool)) (a b : Nat) : Bool := (M.getD a []).getD b false
theorem at2_set {M : List (List Bool)} {i j : Nat} (hi : M[i]? = some r) (hj : j < r.length) (a b : Nat) : at2 (M.set i (r.set j v)) a b = if a = i ∧ b = j then v else at2 M a b := by
 have hl := (gE hi).1
 unfold at2
 simp only [List.getD_eq_getElem?_getD, List.getElem?_set]
 by_cases h1 : i = a
 ·subst h1
  simp only [if_true, hl, Option.getD_some, List.getElem?_set, true_and]
  by_cases h2 : j = b
  ·subst h2; simp [hj]
  ·rw [if_neg h2, if_neg (fun e => h2 e.symm), hi]; rfl
 ·rw [if_neg h1, if_neg (fun e => h1 e.1.symm)]
theorem at2_of {M : List (List Bool)} {i j : Nat} (hi : M[i]? = some r) (hj : r[j]? = some v) : at2 M i j = v := by simp [at2, List.getD_eq_getElem?_getD, hi, hj]
def TrU (M : List (List Bool)) (k : Nat) : Prop := ∀ a b c, c < k → at2 M a c = true → at2 M c b = true → at2 M a b = true
def War (M0 M : List (List Bool)) (k i j : Nat) : Prop := ∀ a b, at2 M a b = if a < i ∨ (a = i ∧ b < j) then at2 M0 a b || (at2 M0 a k && at2 M0 k b) else at2 M0 a b
theorem TrU.zero (M : List (List Bool)) : TrU M 0 := fun _ _ _ h => by omega
theorem War.zero (M : List (List Bool)) (k : Nat) : War M M k 0 0 := fun a b => by simp
theorem War.row {k n : Nat} (h : War M0 M k i j) (hj : n ≤ j) (hM : ∀ a b, n ≤ b → at2 M0 a b = false) : War M0 M k (i + 1) 0 := fun a b => by
 rw [h a b]
 have e : (at2 M0 a b || (at2 M0 a k && at2 M0 k b)) = at2 M0 a b ∨ b < n := by
  rcases Nat.lt_or_ge b n with h1 | h1
  ·exact .inr h1
  ·left; rw [hM a b h1, hM k b h1]; simp
 by_cases h1 : a < i ∨ a = i ∧ b < j
 ·rw [if_pos h1, if_pos oM]
 ·rw [if_neg h1]
  by_cases h2 : a < i + 1 ∨ a = i + 1 ∧ b < 0
  ·rw [if_pos h2]
   rcases e with e | e
   ·exact e.symm
   ·omega
  ·rw [if_neg h2]
theorem War.cell {k : Nat} {r : List Bool} (h : War M0 M k i j) (hi : M[i]? = some r) (hj : j < r.length) {v : Bool} (hv : v = (at2 M i j || (at2 M i k && at2 M k j))) : War M0 (M.set i (r.set j v)) k i (j + 1) := fun a b => by
 rw [at2_set hi hj]
 by_cases h1 : a = i ∧ b = j
 ·obtain ⟨rfl, rfl⟩ := h1
  rw [if_pos ⟨rfl, rfl⟩, if_pos (.inr ⟨rfl, by omega⟩), hv, h a b, h a k, h k b]
  rw [if_neg oM]
  have e1 : (if a < a ∨ a = a ∧ k < b then at2 M0 a k || (at2 M0 a k && at2 M0 k k) else at2 M0 a k) = at2 M0 a k := by split <;> cases at2 M0 a k <;> simp
  have e2 : (if k < a ∨ k = a ∧ b < b then at2 M0 k b || (at2 M0 k k && at2 M0 k b) else at2 M0 k b) = at2 M0 k b := by split <;> cases at2 M0 k b <;> simp
  rw [e1, e2]
 ·rw [if_neg h1, h a b]
  by_cases h2 : a < i ∨ a = i ∧ b < j
  ·rw [if_pos h2, if_pos oM]
  ·rw [if_neg h2, if_neg oM]
theorem War.tr {k n : Nat} (h : War M0 M k i 0) (hi : n ≤ i) (hM : ∀ a b, n ≤ a → at2 M0 a b = false) (ht : TrU M0 k) : TrU M (k + 1) := by
 have hv : ∀ a b, at2 M a b = (at2 M0 a b || (at2 M0 a k && at2 M0 k b)) := fun a b => by
  rw [h a b]
  by_cases h1 : a < i
  ·rw [if_pos (.inl h1)]
  ·rw [if_neg oM, hM a b oM, hM a k oM]; rfl
 intro a b c hc h1 h2
 rw [hv] at h1 h2 ⊢
 simp only [Bool.or_eq_true, Bool.and_eq_true] at h1 h2 ⊢
 rcases Nat.lt_or_ge c k with hck | hck
 ·rcases h1 with h1 | ⟨h1, h1'⟩ <;> rcases h2 with h2 | ⟨h2, h2'⟩
  ·exact .inl (ht a b c hck h1 h2)
  ·exact .inr ⟨ht a k c hck h1 h2, h2'⟩
  ·exact .inr ⟨h1, ht k b c hck h1' h2⟩
  ·exact .inr ⟨h1, h2'⟩
 ·obtain rfl : c = k := by omega
  rcases h1 with h1 | ⟨h1, h1'⟩ <;> rcases h2 with h2 | ⟨h2, h2'⟩
  ·exact .inr ⟨h1, h2⟩
  ·exact .inr ⟨h1, h2'⟩
  ·exact .inr ⟨h1, h2⟩
  ·exact .inr ⟨h1, h2'⟩
theorem at2_out {M : List (List Bool)} {n : Nat} (hl : M.length = n) (hr : ∀ r ∈ M, r.length = n) (a b : Nat) (h : n ≤ a ∨ n ≤ b) : at2 M a b = false := by
 unfold at2
 simp only [List.getD_eq_getElem?_getD]
 rcases Nat.lt_or_ge a M.length with h1 | h1
 ·rw [List.getElem?_eq_getElem h1]
  simp only [Option.getD_some]
  have := hr _ (List.getElem_mem h1)
  rw [List.getElem?_eq_none oM]; rfl
 ·rw [List.getElem?_eq_none h1]; simp
end
section
open Go.Proofs.Tryz
attribute [local irreducible] TK Yl OpK AnyT wpList Code.wp
theorem c155 {l : LI} {caps : LV} {g : Int → Int → Bool} (hl : Sl rInt H l L n c) (hn : n ≤ 1000000) (hg : ∀ (args : Array Value) (w : World), (callFunc f args).run PP w = .ok (.enter f args) w) (hf : ∀ x y, x ∈ l → y ∈ l → ∀ H', Ghost.le H H' → Ct PP f ([.int .i64 x, .int .i64 y] ++ caps : LV).toArray H' [] fun v H' O' => O' = [] ∧ v = .bool (g x y)) : Ct PP 155 #[.slice L n c, .func (.func f) #[] caps.toArray] H [] fun v H' O' => ∃ out A k c' cs, v = .slice A k c' ∧ O' = [.row 50 1 (.slice A k c') k cs] ∧ Reps (rSl rInt) H' out cs ∧ ClsR g l out ∧ out.length = k ∧ k ≤ n := by
 have i8 := hl.len
 refine cB func155 ntmps155 fun I hD hI j2 => ?_
 refine g8b ?_
 intros
 refine g2a ?_
 intros
 refine sq rfl (tMakeMap dC fun b4 => ?_)
 refine g10b ?_
 intros
 refine newRow 50 1 ?_
 refine lp0 (fun D E H' O m' => ∃ (p : Nat) (out : List LI) (m : List (Int × Bool)) (k : Nat) (Ao : OA) (co : Nat) (ps : LV), Ghost.le H H' ∧ (p ≤ n) ∧ (out.length = k) ∧ (OutC g l out m) ∧ (Reps (rSl rInt) H' out ps) ∧ m' = n - p ∧ O = [.row 50 1 (.slice Ao k co) k ps, .map b4 (mapL (Value.int .i64) Value.bool m)] ∧ E = (5, .slice Ao k co) :: (16, .int .i64 (p : Int)) :: D) [0, 1, 6, 14, 15] [0, 1] ⟨0, [], [], 0, none, 0, [], Ghost.le.refl _, Nat.zero_le _, rfl, .nil, .nil, rfl, rfl, rfl⟩ ?_
 rintro _ H7 _ _ ⟨p, out, m, k, Ao, co, ps, h4, hp, hk, ho, d1, rfl, rfl, rfl⟩ _ d0
 have hl := hl.mono h4
 have j3 := ho.r.len
 refine g5b ?_
 intros
 refine cD ?_ ?_ <;> intro e5
 refine g5b ?_
 intros
 obtain ⟨d2, b9⟩ := eX hl p
 obtain ⟨i7, o4, e7, e6⟩ := hl.atI b9
 refine g9b ?_
 intros
 refine q (yLookup (k := d2) (g := Value.bool) (z := false) (i := 1) uC (keyInt uC) nC rfl rfl rfl) rfl rfl rfl ?_
 refine g1 ?_
 refine cN ?_ ?_ <;> intro d8
 refine g4 ?_
 exact nK d0 ⟨p + 1, out, m, k, Ao, co, ps, h4, oM, hk, ho, d1, rfl, rfl, rfl⟩
 refine g5a ?_
 intros
 refine sq rfl (tMapUpd (m := m) (k := d2) (g := Value.bool) (v := true) (i := 1) uC (keyInt uC) rfl rfl rfl rfl ?_)
 refine g4a ?_
 intros
 refine sq rfl (bS [.int .i64 d2] fun e1 => ?_)
 refine g8b ?_
 intros
 refine lp1 (fun D f1 E H O m => ∃ (i : Nat) (cl : LI) (mq : List (Int × Bool)) (kc : Nat) (Ac : OA) (cc : Nat), H7 = H ∧ (i ≤ kc) ∧ (cl.length = kc) ∧ (InC g l out.flatten cl mq i 0) ∧ m = n - i ∧ O = [.row 3 1 (.slice Ac kc cc) kc (cl.map fun x => Value.int .i64 x), f1, .map b4 (mapL (Value.int .i64) Value.bool mq)] ∧ E = (9, .slice Ac kc cc) :: (10, .int .i64 (i : Int)) :: D) [0, 1, 5, 6, 14, 15, 16] [0, 1, 2] ⟨0, [d2], mput m d2 true, 1, some ⟨e1, 0, none⟩, 1, rfl, oM, rfl, (ho.begin (mG b9) d8), rfl, rfl, rfl⟩ ?_
 rintro _ _ _ _ ⟨i, cl, mq, kc, Ac, cc, rfl, hi, e0, d4, rfl, rfl, rfl⟩ _ d7
 have i5 := d4.len
 refine g8b ?_
 intros
 refine cD ?_ ?_ <;> intro e9
 refine g10b ?_
 intros
 refine lp1 (fun D f1 E H O m => ∃ (qq : Nat) (c0 : LI) (m' : List (Int × Bool)) (k' : Nat) (A0 : OA) (c1 : Nat), H7 = H ∧ (qq ≤ n) ∧ (c0.length = k') ∧ (i < k') ∧ (InC g l out.flatten c0 m' i qq) ∧ m = n - qq ∧ O = [.row 3 1 (.slice A0 k' c1) k' (c0.map fun x => Value.int .i64 x), f1, .map b4 (mapL (Value.int .i64) Value.bool m')] ∧ E = (9, .slice A0 k' c1) :: (35, .int .i64 (qq : Int)) :: D) [0, 1, 5, 6, 10, 14, 15, 16, 33, 34] [0, 1, 2] ⟨0, cl, mq, kc, Ac, cc, rfl, Nat.zero_le _, e0, oM, d4, rfl, rfl, rfl⟩ ?_
 rintro _ _ _ _ ⟨qq, c0, m', k', A0, c1, rfl, hq, h8, b8, h5, rfl, rfl, rfl⟩ _ h9
 have f9 := h5.len
 refine g5b ?_
 intros
 refine cD ?_ ?_ <;> intro e8
 refine g5b ?_
 intros
 obtain ⟨b5, h6⟩ := eX hl qq
 obtain ⟨i9, o5, e4, e2⟩ := hl.atI h6
 refine g8a ?_
 intros
 refine q (yLookup (k := b5) (g := Value.bool) (z := false) (i := 2) uC (keyInt uC) nC rfl rfl rfl) rfl rfl rfl ?_
 refine g2 ?_
 refine sB 43 ?_ ?_ <;> intro b7
 refine g3 ?_
 refine row_addr (i := 0) rfl oM fun f8 d6 => ?_
 subst d6
 refine g1 ?_
 obtain ⟨i6, h7⟩ := ex_at (l := c0) (i := i) oM
 refine qY (yLoad1 aC rfl (Mem.row1 (i := 0) rfl (imap_at h7))) rfl rfl rfl rfl rfl rfl ?_
 refine g1 ?_
 refine sqY rfl rfl rfl rfl (TK.callS hD rfl rfl (entV hg rfl rfl) (hf _ _ (h5.mem _ (mG h7)) (mG h6) _ h4) ?_)
 rintro v2 rfl
 refine g1 ?_
 refine sB 51 ?_ ?_ <;> intro d3
 refine g12a ?_
 intros
 refine g3 ?_
 refine sq rfl (tMapUpd (m := m') (k := b5) (g := Value.bool) (v := true) (i := 2) uC (keyInt uC) rfl rfl rfl rfl ?_)
 refine g4 ?_
 refine sq rfl (bS [.int .i64 b5] fun j1 => ?_)
 refine sq rfl (aR 1 fun A2 e3 => ?_)
 refine g5 ?_
 rw [imap_snoc]
 exact nK h9 ⟨qq + 1, c0 ++ [b5], mput m' b5 true, k' + 1, A2, e3, rfl, oM, (by simp [h8]), oM, (h5.add h7 h6 (by simpa [tkn] using b7)), rfl, rfl, rfl⟩
 refine g5 ?_
 refine qY (yLoad1 aC rfl (Mem.row1 (i := 0) rfl (imap_at h7))) rfl rfl rfl rfl rfl rfl ?_
 refine sqY rfl rfl rfl rfl (TK.callS hD rfl rfl (entV hg rfl rfl) (hf _ _ (mG h6) (h5.mem _ (mG h7)) _ h4) ?_)
 rintro v0 rfl
 refine g3 ?_
 refine cN ?_ ?_ <;> intro d9
 refine g4a ?_
 intros
 refine sq rfl (tMapUpd (m := m') (k := b5) (g := Value.bool) (v := true) (i := 2) uC (keyInt uC) rfl rfl rfl rfl ?_)
 refine g4 ?_
 refine sq rfl (bS [.int .i64 b5] fun j0 => ?_)
 refine sq rfl (aR 1 fun A1 c79 => ?_)
 refine g5 ?_
 rw [imap_snoc]
 exact nK h9 ⟨qq + 1, c0 ++ [b5], mput m' b5 true, k' + 1, A1, c79, rfl, oM, (by simp [h8]), oM, (h5.add h7 h6 (by simpa [tkn] using b7)), rfl, rfl, rfl⟩
 refine g4 ?_
 exact nK h9 ⟨qq + 1, c0, m', k', some ⟨f8, 0, none⟩, c1, rfl, oM, h8, b8, (h5.skip h7 h6 (.inr ⟨d3, d9⟩)), rfl, rfl, rfl⟩
 refine g18 ?_
 refine g5 ?_
 exact nK h9 ⟨qq + 1, c0, m', k', A0, c1, rfl, oM, h8, b8, (h5.skipT h6 (by simpa [tkn] using b7)), rfl, rfl, rfl⟩
 refine g5 ?_
 exact nK d7 ⟨i + 1, c0, m', k', A0, c1, rfl, oM, h8, (h5.next oM oM), rfl, rfl, rfl⟩
 refine g4a ?_
 intros
 refine sq rfl (fT hD [0] [1, 2] rfl call139 rfl (c139 (xs := cl) oM e0) ?_)
 rintro v1 O1 rfl
 refine g2 ?_
 refine tR 0 (r := rInt) (ys := (cl.mergeSort fun x y => decide (x ≤ y))) (repsI _) fun H0 b6 d5 => ?_
 have ⟨hl, d1⟩ := mo2 b6 hl d1
 refine g2 ?_
 refine sq rfl (bS [.slice Ac kc cc] fun i4 => ?_)
 refine sq rfl (aR 1 fun A3 c88 => ?_)
 refine g5 ?_
 exact nK d0 ⟨p + 1, out ++ [cl.mergeSort fun x y => decide (x ≤ y)], mq, k + 1, A3, c88, ps ++ [.slice Ac kc cc], (h4.trans b6), oM, (by simp [hk]), (d4.done oM ho (sort_perm cl)), (d1.append (.single ⟨_, _, _, rfl, d5⟩)), rfl, rfl, rfl⟩
 refine g6a ?_
 intros
 refine kP [0] ?_
 refine rT results155 ?_
 exact ⟨out, _, _, _, _, rfl, rfl, d1, ho.r, hk, by omega⟩
end
abbrev Word := LB
inductive Shuf {α : Type} : List α → List α → List α → Prop
 | nil : Shuf [] [] []
 | left {a : α} {u v w : List α} : Shuf u v w → Shuf (a :: u) v (a :: w)
 | right {a : α} {u v w : List α} : Shuf u v w → Shuf u (a :: v) (a :: w)
inductive SeqW (P : Tree → Word → Prop) : List Tree → Word → Prop
 | nil : SeqW P [] []
 | cons {t : Tree} {l : List Tree} {u v : Word} : P t u → SeqW P l v → SeqW P (t :: l) (u ++ v)
inductive AndW (P : Tree → Word → Prop) : List Tree → Word → Prop
 | nil : AndW P [] []
 | cons {t : Tree} {l : List Tree} {u v w : Word} : P t u → AndW P l v → Shuf u v w → AndW P (t :: l) w
inductive LoopW (A B : Word → Prop) : Word → Prop
 | one {u : Word} : A u → LoopW A B u
 | more {u v w : Word} : A u → B v → LoopW A B w → LoopW A B (u ++ (v ++ w))
def LangD : Nat → Tree → Word → Prop
 | 0, _, _ => False
 | d + 1, t, w => (t.op = 1 ∧ w = [t.act]) ∨ (t.op = 2 ∧ w = []) ∨ (t.op = 3 ∧ SeqW (LangD d) t.l w) ∨ (t.op = 4 ∧ ∃ x ∈ t.l, LangD d x w) ∨ (t.op = 5 ∧ AndW (LangD d) t.l w) ∨
  (t.op = 6 ∧ ∃ a b, t.l = [a, b] ∧ LoopW (LangD d a) (LangD d b) w)
theorem SeqW.mono {P Q : Tree → Word → Prop} {l : List Tree} {w : Word} (h : SeqW P l w) (hPQ : ∀ t ∈ l, ∀ w, P t w → Q t w) : SeqW Q l w := by
 induction h with
 | nil => exact .nil
 | cons h1 _ ih => exact .cons (hPQ _ (by simp) _ h1) (ih fun t ht => hPQ t (by simp [ht]))
theorem AndW.mono {P Q : Tree → Word → Prop} {l : List Tree} {w : Word} (h : AndW P l w) (hPQ : ∀ t ∈ l, ∀ w, P t w → Q t w) : AndW Q l w := by
 induction h with
 | nil => exact .nil
 | cons h1 _ h3 ih => exact .cons (hPQ _ (by simp) _ h1) (ih fun t ht => hPQ t (by simp [ht])) h3
theorem LoopW.mono {A B A' B' : Word → Prop} {w : Word} (h : LoopW A B w) (hA : ∀ w, A w → A' w) (hB : ∀ w, B w → B' w) : LoopW A' B' w := by
 induction h with
 | one h => exact .one (hA _ h)
 | more h1 h2 _ ih => exact .more (hA _ h1) (hB _ h2) ih
theorem LangD.succ : ∀ {d : Nat} {t : Tree} {w : Word}, LangD d t w → LangD (d + 1) t w
 | 0, _, _, h => h.elim
 | d + 1, t, w, h => by
  rcases h with h | h | ⟨h1, h2⟩ | ⟨h1, x, hx, h2⟩ | ⟨h1, h2⟩ | ⟨h1, a, b, hl, h2⟩
  ·exact .inl h
  ·exact .inr (.inl h)
  ·exact .inr (.inr (.inl ⟨h1, h2.mono fun t _ w => LangD.succ⟩))
  ·exact .inr (.inr (.inr (.inl ⟨h1, x, hx, LangD.succ h2⟩)))
  ·exact .inr (.inr (.inr (.inr (.inl ⟨h1, h2.mono fun t _ w => LangD.succ⟩))))
  ·exact .inr (.inr (.inr (.inr (.inr ⟨h1, a, b, hl, h2.mono (fun w => LangD.succ) fun w => LangD.succ⟩))))
theorem LangD.le {d' : Nat} {t : Tree} {w : Word} (h : LangD d t w) (hd : d ≤ d') : LangD d' t w := by
 induction hd with
 | refl => exact h
 | step _ ih => exact ih.succ
def Lang (t : Tree) (w : Word) : Prop := ∃ d, LangD d t w
theorem SeqW.depth {l : List Tree} {w : Word} (h : SeqW Lang l w) : ∃ d, SeqW (LangD d) l w := by
 induction h with
 | nil => exact ⟨0, .nil⟩
 | cons h1 _ ih =>
  obtain ⟨a, h1⟩ := h1; obtain ⟨b, ih⟩ := ih
  exact ⟨max a b, .cons (h1.le oM) (ih.mono fun t _ w h => h.le oM)⟩
theorem AndW.depth {l : List Tree} {w : Word} (h : AndW Lang l w) : ∃ d, AndW (LangD d) l w := by
 induction h with
 | nil => exact ⟨0, .nil⟩
 | cons h1 _ h3 ih =>
  obtain ⟨a, h1⟩ := h1; obtain ⟨b, ih⟩ := ih
  exact ⟨max a b, .cons (h1.le oM) (ih.mono fun t _ w h => h.le oM) h3⟩
theorem LoopW.depth {w : Word} (h : LoopW (Lang x) (Lang y) w) : ∃ d, LoopW (LangD d x) (LangD d y) w := by
 induction h with
 | one h => obtain ⟨a, h⟩ := h; exact ⟨a, .one h⟩
 | more h1 h2 _ ih =>
  obtain ⟨a, h1⟩ := h1; obtain ⟨b, h2⟩ := h2; obtain ⟨c, ih⟩ := ih
  exact ⟨max a (max b c), .more (h1.le oM) (h2.le oM) (ih.mono (fun w h => h.le oM) fun w h => h.le oM)⟩
theorem lang_iff {t : Tree} : Lang t w ↔ (t.op = 1 ∧ w = [t.act]) ∨ (t.op = 2 ∧ w = []) ∨ (t.op = 3 ∧ SeqW Lang t.l w) ∨ (t.op = 4 ∧ ∃ x ∈ t.l, Lang x w) ∨ (t.op = 5 ∧ AndW Lang t.l w) ∨
  (t.op = 6 ∧ ∃ a b, t.l = [a, b] ∧ LoopW (Lang a) (Lang b) w) := by
 constructor
 ·rintro ⟨d, h⟩
  cases d with
  | zero => exact h.elim
  | succ d =>
   rcases h with h | h | ⟨h1, h2⟩ | ⟨h1, x, hx, h2⟩ | ⟨h1, h2⟩ | ⟨h1, a, b, hl, h2⟩
   ·exact .inl h
   ·exact .inr (.inl h)
   ·exact .inr (.inr (.inl ⟨h1, h2.mono fun t _ w h => ⟨d, h⟩⟩))
   ·exact .inr (.inr (.inr (.inl ⟨h1, x, hx, d, h2⟩)))
   ·exact .inr (.inr (.inr (.inr (.inl ⟨h1, h2.mono fun t _ w h => ⟨d, h⟩⟩))))
   ·exact .inr (.inr (.inr (.inr (.inr ⟨h1, a, b, hl, h2.mono (fun w h => ⟨d, h⟩) fun w h => ⟨d, h⟩⟩))))
 ·rintro (h | h | ⟨h1, h2⟩ | ⟨h1, x, hx, d, h2⟩ | ⟨h1, h2⟩ | ⟨h1, a, b, hl, h2⟩)
  ·exact ⟨1, .inl h⟩
  ·exact ⟨1, .inr (.inl h)⟩
  ·obtain ⟨d, h2⟩ := h2.depth; exact ⟨d + 1, .inr (.inr (.inl ⟨h1, h2⟩))⟩
  ·exact ⟨d + 1, .inr (.inr (.inr (.inl ⟨h1, x, hx, h2⟩)))⟩
  ·obtain ⟨d, h2⟩ := h2.depth; exact ⟨d + 1, .inr (.inr (.inr (.inr (.inl ⟨h1, h2⟩))))⟩
  ·obtain ⟨d, h2⟩ := h2.depth; exact ⟨d + 1, .inr (.inr (.inr (.inr (.inr ⟨h1, a, b, hl, h2⟩))))⟩
theorem Lang.act {a : BA} {l : List Tree} : Lang (.mk 1 a l) [a] := lang_iff.2 (.inl ⟨rfl, rfl⟩)
theorem Lang.silent {a : BA} {l : List Tree} : Lang (.mk 2 a l) [] := lang_iff.2 (.inr (.inl ⟨rfl, rfl⟩))
theorem Lang.seq {a : BA} {l : List Tree} {w : Word} (h : SeqW Lang l w) : Lang (.mk 3 a l) w := lang_iff.2 (.inr (.inr (.inl ⟨rfl, h⟩)))
theorem Lang.xor {a : BA} {l : List Tree} {w : Word} {x : Tree} (hx : x ∈ l) (h : Lang x w) : Lang (.mk 4 a l) w := lang_iff.2 (.inr (.inr (.inr (.inl ⟨rfl, x, hx, h⟩))))
theorem Lang.and {a : BA} {l : List Tree} {w : Word} (h : AndW Lang l w) : Lang (.mk 5 a l) w := lang_iff.2 (.inr (.inr (.inr (.inr (.inl ⟨rfl, h⟩)))))
theorem Lang.loop {c : BA} {a : Tree} {w : Word} (h : LoopW (Lang a) (Lang b) w) : Lang (.mk 6 c [a, b]) w := lang_iff.2 (.inr (.inr (.inr (.inr (.inr ⟨rfl, a, b, rfl, h⟩)))))
theorem Lang.op1 {t : Tree} {w : Word} (h : Lang t w) (ho : t.op = 1) : w = [t.act] := by
 rcases lang_iff.1 h with h | h | h | h | h | h <;> first | exact h.2 | (have := h.1; omega)
theorem Lang.op2 {t : Tree} {w : Word} (h : Lang t w) (ho : t.op = 2) : w = [] := by
 rcases lang_iff.1 h with h | h | h | h | h | h <;> first | exact h.2 | (have := h.1; omega)
theorem Lang.op3 {t : Tree} {w : Word} (h : Lang t w) (ho : t.op = 3) : SeqW Lang t.l w := by
 rcases lang_iff.1 h with h | h | h | h | h | h <;> first | (have := h.1; omega) | exact h.2
theorem Lang.op4 {t : Tree} {w : Word} (h : Lang t w) (ho : t.op = 4) : ∃ x ∈ t.l, Lang x w := by
 rcases lang_iff.1 h with h | h | h | h | h | h <;> first | (have := h.1; omega) | exact h.2
theorem Lang.op5 {t : Tree} {w : Word} (h : Lang t w) (ho : t.op = 5) : AndW Lang t.l w := by
 rcases lang_iff.1 h with h | h | h | h | h | h <;> first | (have := h.1; omega) | exact h.2
theorem Lang.op6 {t : Tree} {w : Word} (h : Lang t w) (ho : t.op = 6) : ∃ a b, t.l = [a, b] ∧ LoopW (Lang a) (Lang b) w := by
 rcases lang_iff.1 h with h | h | h | h | h | h <;> first | (have := h.1; omega) | exact h.2
theorem Shuf.nil_left {α : Type} : ∀ w : List α, Shuf [] w w
 | [] => .nil
 | a :: w => .right (Shuf.nil_left w)
theorem Shuf.nil_right {α : Type} : ∀ w : List α, Shuf w [] w
 | [] => .nil
 | a :: w => .left (Shuf.nil_right w)
theorem Shuf.comm {α : Type} {u v w : List α} (h : Shuf u v w) : Shuf v u w := by
 induction h with
 | nil => exact .nil
 | left _ ih => exact .right ih
 | right _ ih => exact .left ih
theorem Shuf.eq_left {α : Type} {v w : List α} (h : Shuf [] v w) : v = w := by
 generalize hu : ([] : List α) = u at h
 induction h with
 | nil => rfl
 | left _ _ => cases hu
 | right _ ih => rw [ih hu]
theorem Shuf.assoc {α : Type} {u v w x y : List α} (h : Shuf u v w) (h2 : Shuf w x y) : ∃ z, Shuf v x z ∧ Shuf u z y := by
 induction h2 generalizing u v with
 | nil => generalize he : ([] : List α) = e at h; cases h with
  | nil => exact ⟨[], .nil, .nil⟩
  | left _ => cases he
  | right _ => cases he
 | @left a w x y h2 ih =>
  generalize he : a :: w = e at h
  cases h with
  | nil => cases he
  | @left b u v w' h => cases he; obtain ⟨z, h3, h4⟩ := ih h; exact ⟨z, h3, .left h4⟩
  | @right b u v w' h => cases he; obtain ⟨z, h3, h4⟩ := ih h; exact ⟨a :: z, .left h3, .right h4⟩
 | @right a w x y h2 ih => obtain ⟨z, h3, h4⟩ := ih h; exact ⟨a :: z, .right h3, .right h4⟩
theorem Shuf.swap {α : Type} {u v x y z : List α} (h : Shuf v x z) (h2 : Shuf u z y) : ∃ z', Shuf u x z' ∧ Shuf v z' y := by
 obtain ⟨a, h3, h4⟩ := Shuf.assoc h h2.comm
 exact ⟨a, h3.comm, h4⟩
theorem AndW.perm {P : Tree → Word → Prop} {l : List Tree} (hp : l.Perm l') : ∀ {w : Word}, AndW P l w → AndW P l' w := by
 induction hp with
 | nil => intro w h; exact h
 | cons x _ ih => intro w h; cases h with
  | cons h1 h2 h3 => exact .cons h1 (ih h2) h3
 | swap x y l => intro w h; cases h with
  | cons h1 h2 h3 => cases h2 with
   | cons h4 h5 h6 => obtain ⟨z, h7, h8⟩ := Shuf.swap h6 h3; exact .cons h4 (.cons h1 h5 h7) h8
 | trans _ _ ih1 ih2 => intro w h; exact ih2 (ih1 h)
theorem AndW.append {P : Tree → Word → Prop} {l : List Tree} (h : AndW P l u) : ∀ {l' : List Tree} {v w : Word}, AndW P l' v → Shuf u v w → AndW P (l ++ l') w := by
 induction h with
 | nil => intro l' v w h2 h3; rw [← h3.eq_left]; exact h2
 | cons h1 _ h3 ih => intro l' v w h4 h5; obtain ⟨z, h6, h7⟩ := Shuf.assoc h3 h5; exact .cons h1 (ih h4 h6) h7
theorem SeqW.append {P : Tree → Word → Prop} {l : List Tree} (h : SeqW P l u) : ∀ {l' : List Tree} {v : Word}, SeqW P l' v → SeqW P (l ++ l') (u ++ v) := by
 induction h with
 | nil => intro l' v h; exact h
 | cons h1 _ ih => intro l' v h; rw [List.append_assoc]; exact .cons h1 (ih h)
mutual
def leafs : Tree → LB
 | .mk op act l => (if op = 1 then [act] else []) ++ leafsL l
def leafsL : List Tree → LB
 | [] => []
 | x :: r => leafs x ++ leafsL r
end
theorem leafs_eq (t : Tree) : leafs t = (if t.op = 1 then [t.act] else []) ++ leafsL t.l := by cases t; rw [leafs]; rfl
theorem leafsL_mem {l : List Tree} {s : BA} : s ∈ leafsL l ↔ ∃ x ∈ l, s ∈ leafs x := by
 induction l with
 | nil => simp [leafsL]
 | cons y r ih => rw [leafsL, List.mem_append, ih]; simp
theorem sizeL_append (l l' : List Tree) : sizeL (l ++ l') = sizeL l + sizeL l' := by
 induction l with
 | nil => simp [sizeL]
 | cons x r ih => rw [List.cons_append, sizeL, sizeL, ih]; omega
theorem sizeL_perm {l : List Tree} (h : l.Perm l') : sizeL l = sizeL l' := by
 induction h with
 | nil => rfl
 | cons x _ ih => rw [sizeL, sizeL, ih]
 | swap x y l => simp only [sizeL]; omega
 | trans _ _ h1 h2 => rw [h1, h2]
theorem sizeL_sub {l : List Tree} (h : l.Sublist l') : sizeL l ≤ sizeL l' := by
 induction h with
 | slnil => exact Nat.le_refl _
 | cons x _ ih => rw [sizeL]; omega
 | cons_cons x _ ih => rw [sizeL, sizeL]; omega
def flatP (op : Int) (l : List Tree) : List Tree := l.flatMap fun x => if x.op = op then x.l else if ¬ x.op = 2 ∨ op = 4 then [x] else []
def partsT (op : Int) : List Tree → Tree
 | [] => .mk 2 ⟨#[]⟩ []
 | [x] => x
 | x :: y :: r => .mk op ⟨#[]⟩ (x :: y :: r)
def JoinR (op : Int) (l : List Tree) (T : Tree) : Prop := ∃ parts, (op = 3 → parts = flatP op l) ∧ (op = 5 → parts.Perm (flatP op l)) ∧ (∀ x, x ∈ parts ↔ x ∈ flatP op l) ∧ sizeL parts ≤ sizeL (flatP op l) ∧ T = partsT op parts
structure NormR (t T : Tree) : Prop where
 ok : okT T = true
 size : T.size ≤ t.size
 leaf : ∀ s, s ∈ leafs T ↔ s ∈ leafs t
 lang : ∀ w, Lang t w → Lang T w
theorem flatP_size (op : Int) (l : List Tree) : sizeL (flatP op l) ≤ sizeL l := by
 induction l with
 | nil => simp [flatP, sizeL]
 | cons x r ih =>
  have e : flatP op (x :: r) = (if x.op = op then x.l else if ¬ x.op = 2 ∨ op = 4 then [x] else []) ++ flatP op r := by simp [flatP]
  rw [e, sizeL_append, sizeL]
  have : sizeL (if x.op = op then x.l else if ¬ x.op = 2 ∨ op = 4 then [x] else []) ≤ x.size := by
   split
   ·rw [Tree.size_l]; omega
   ·split
    ·simp [sizeL]
    ·simp [sizeL]
  omega
theorem flatP_ok {op : Int} {l : List Tree} (h : ∀ x ∈ l, okT x = true) : ∀ x ∈ flatP op l, okT x = true := by
 intro x hx
 obtain ⟨y, hy, hx⟩ := List.mem_flatMap.1 hx
 split at hx
 ·exact okT_mem (h y hy) x hx
 ·split at hx
  ·simp at hx; subst hx; exact h _ hy
  ·simp at hx
theorem right2 {t : Tree} (h : okT t = true) (h2 : t.op = 2) : t.l = [] := by
 have h4 := okT_right h
 simp only [rightB, h2] at h4
 simp at h4
 exact h4.1
theorem flatP_leaf {op : Int} (hop : op = 3 ∨ op = 4 ∨ op = 5) {l : List Tree} (h : ∀ x ∈ l, okT x = true) (s : BA) : s ∈ leafsL (flatP op l) ↔ s ∈ leafsL l := by
 rw [leafsL_mem, leafsL_mem]
 constructor
 ·rintro ⟨x, hx, hs⟩
  obtain ⟨y, hy, hx⟩ := List.mem_flatMap.1 hx
  refine ⟨y, hy, ?_⟩
  split at hx
  ·rw [leafs_eq]; exact List.mem_append_right _ (leafsL_mem.2 ⟨x, hx, hs⟩)
  ·split at hx
   ·simp at hx; subst hx; exact hs
   ·simp at hx
 ·rintro ⟨y, hy, hs⟩
  by_cases h1 : y.op = op
  ·rw [leafs_eq, if_neg oM] at hs
   obtain ⟨x, hx, hs⟩ := leafsL_mem.1 (by simpa using hs)
   exact ⟨x, List.mem_flatMap.2 ⟨y, hy, by rw [if_pos h1]; exact hx⟩, hs⟩
  ·by_cases h2 : ¬ y.op = 2 ∨ op = 4
   ·exact ⟨y, List.mem_flatMap.2 ⟨y, hy, by rw [if_neg h1, if_pos h2]; simp⟩, hs⟩
   ·simp only [not_or, Decidable.not_not] at h2
    rw [leafs_eq, right2 (h y hy) h2.1, if_neg oM] at hs
    simp [leafsL] at hs
theorem partsT_leaf {op : Int} (hop : op = 3 ∨ op = 4 ∨ op = 5) : ∀ (l : List Tree) (s : BA), s ∈ leafs (partsT op l) ↔ s ∈ leafsL l
 | [], s => by simp [partsT, leafs, leafsL]
 | [x], s => by simp [partsT, leafsL]
 | x :: y :: r, s => by rw [partsT, leafs, if_neg oM]; simp
theorem partsT_ok {op : Int} (hop : op = 3 ∨ op = 4 ∨ op = 5) : ∀ {l : List Tree}, (∀ x ∈ l, okT x = true) → okT (partsT op l) = true
 | [], _ => by simp [partsT, okT, okL, rightB, Tree.op, Tree.l, Tree.act]
 | [x], h => h x (by simp)
 | x :: y :: r, h => by
  rw [partsT, okT, Bool.and_eq_true]
  refine ⟨?_, okL_of h⟩
  unfold rightB
  simp only [Tree.op, Tree.l, Tree.act]
  rw [if_neg oM, if_neg oM, if_pos hop]
  simp
theorem partsT_size {op : Int} {k : Nat} (hk : 1 ≤ k) : ∀ {l : List Tree}, sizeL l + 1 ≤ k → (partsT op l).size ≤ k
 | [], _ => by simp [partsT, Tree.size, sizeL]; omega
 | [x], h => by simp only [sizeL] at h; simp only [partsT]; omega
 | x :: y :: r, h => by rw [partsT, Tree.size_l]; simp only [Tree.l]; omega
theorem flatP_seq {l : List Tree} (h : SeqW Lang l w) : SeqW Lang (flatP 3 l) w := by
 induction h with
 | nil => exact .nil
 | @cons t l u v h1 _ ih =>
  have e : flatP 3 (t :: l) = (if t.op = 3 then t.l else if ¬ t.op = 2 ∨ (3 : Int) = 4 then [t] else []) ++ flatP 3 l := by simp [flatP]
  rw [e]
  refine SeqW.append ?_ ih
  by_cases h3 : t.op = 3
  ·rw [if_pos h3]; exact h1.op3 h3
  ·rw [if_neg h3]
   by_cases h2 : t.op = 2
   ·rw [if_neg oM, h1.op2 h2]; exact .nil
   ·rw [if_pos (.inl h2)]; have := SeqW.cons (P := Lang) h1 .nil; simpa using this
theorem flatP_and {l : List Tree} (h : AndW Lang l w) : AndW Lang (flatP 5 l) w := by
 induction h with
 | nil => exact .nil
 | @cons t l u v w h1 _ hs ih =>
  have e : flatP 5 (t :: l) = (if t.op = 5 then t.l else if ¬ t.op = 2 ∨ (5 : Int) = 4 then [t] else []) ++ flatP 5 l := by simp [flatP]
  rw [e]
  refine AndW.append (u := u) ?_ ih hs
  by_cases h3 : t.op = 5
  ·rw [if_pos h3]; exact h1.op5 h3
  ·rw [if_neg h3]
   by_cases h2 : t.op = 2
   ·rw [if_neg oM, h1.op2 h2]; exact .nil
   ·rw [if_pos (.inl h2)]; exact .cons h1 .nil (Shuf.nil_right _)
theorem flatP_xor {l : List Tree} {x : Tree} (hx : x ∈ l) (h : Lang x w) : ∃ y ∈ flatP 4 l, Lang y w := by
 by_cases h4 : x.op = 4
 ·obtain ⟨y, hy, hw⟩ := h.op4 h4
  exact ⟨y, List.mem_flatMap.2 ⟨x, hx, by rw [if_pos h4]; exact hy⟩, hw⟩
 ·exact ⟨x, List.mem_flatMap.2 ⟨x, hx, by rw [if_neg h4, if_pos (.inr rfl)]; simp⟩, h⟩
theorem partsT_seq : ∀ {l : List Tree} {w : Word}, SeqW Lang l w → Lang (partsT 3 l) w
 | [], w, h => by cases h; exact Lang.silent
 | [x], w, h => by cases h with
  | cons h1 h2 => cases h2; simpa [partsT] using h1
 | x :: y :: r, w, h => Lang.seq h
theorem partsT_and : ∀ {l : List Tree} {w : Word}, AndW Lang l w → Lang (partsT 5 l) w
 | [], w, h => by cases h; exact Lang.silent
 | [x], w, h => by cases h with
  | cons h1 h2 h3 => cases h2; have := h3.comm.eq_left; subst this; simpa [partsT] using h1
 | x :: y :: r, w, h => Lang.and h
theorem partsT_xor : ∀ {l : List Tree} {w : Word} {x : Tree}, x ∈ l → Lang x w → Lang (partsT 4 l) w
 | [], w, x, hx, h => by simp at hx
 | [y], w, x, hx, h => by simp at hx; subst hx; simpa [partsT] using h
 | y :: z :: r, w, x, hx, h => Lang.xor hx h
theorem JoinR.norm {op : Int} (hop : op = 3 ∨ op = 4 ∨ op = 5) {l : List Tree} (h : JoinR op l T) (hl : ∀ x ∈ l, okT x = true) (a : BA) : NormR (.mk op a l) T := by
 obtain ⟨parts, h3, h5, hm, hs, rfl⟩ := h
 have hf := flatP_size op l
 refine ⟨partsT_ok hop fun x hx => flatP_ok hl x ((hm x).1 hx), ?_, fun s => ?_, fun w hw => ?_⟩
 ·refine partsT_size (by rw [Tree.size_l]; omega) ?_
  rw [Tree.size_l]; simp only [Tree.l]; omega
 ·rw [partsT_leaf hop, leafsL_mem]
  have e : (∃ x ∈ parts, s ∈ leafs x) ↔ s ∈ leafsL (flatP op l) := by
   rw [leafsL_mem]; exact ⟨fun ⟨x, hx, hs⟩ => ⟨x, (hm x).1 hx, hs⟩, fun ⟨x, hx, hs⟩ => ⟨x, (hm x).2 hx, hs⟩⟩
  rw [e, flatP_leaf hop hl, leafs, if_neg oM]; simp
 ·rcases hop with rfl | rfl | rfl
  ·rw [h3 rfl]; exact partsT_seq (flatP_seq (hw.op3 rfl))
  ·obtain ⟨x, hx, hw⟩ := hw.op4 rfl
   obtain ⟨y, hy, hw⟩ := flatP_xor hx hw
   exact partsT_xor ((hm y).2 hy) hw
  ·exact partsT_and ((flatP_and (hw.op5 rfl)).perm (h5 rfl).symm)
theorem NormR.trans {a c : Tree} (h : NormR a b) (k : NormR b c) : NormR a c :=
 ⟨k.ok, Nat.le_trans k.size h.size, fun s => (k.leaf s).trans (h.leaf s), fun w hw => k.lang w (h.lang w hw)⟩
inductive NormL : List Tree → List Tree → Prop
 | nil : NormL [] []
 | cons {x y : Tree} {l l' : List Tree} : NormR x y → NormL l l' → NormL (x :: l) (y :: l')
theorem NormL.snoc {l : List Tree} (h : NormL l l') (k : NormR x y) : NormL (l ++ [x]) (l' ++ [y]) := by
 induction h with
 | nil => exact .cons k .nil
 | cons h1 _ ih => exact .cons h1 ih
theorem NormL.ok {l : List Tree} (h : NormL l l') : ∀ y ∈ l', okT y = true := by
 induction h with
 | nil => simp
 | cons h1 _ ih => intro y hy; rcases List.mem_cons.1 hy with rfl | hy
                   · exact h1.ok
                   · exact ih y hy
theorem NormL.len {l : List Tree} (h : NormL l l') : l'.length = l.length := by
 induction h with
 | nil => rfl
 | cons _ _ ih => simp [ih]
theorem NormL.size {l : List Tree} (h : NormL l l') : sizeL l' ≤ sizeL l := by
 induction h with
 | nil => simp [sizeL]
 | cons h1 _ ih => have := h1.size; rw [sizeL, sizeL]; omega
theorem NormL.leaf {l : List Tree} (h : NormL l l') (s : BA) : s ∈ leafsL l' ↔ s ∈ leafsL l := by
 induction h with
 | nil => rfl
 | cons h1 _ ih => rw [leafsL, leafsL, List.mem_append, List.mem_append, ih, h1.leaf]
theorem NormL.seq {l : List Tree} (h : NormL l l') : ∀ {w : Word}, SeqW Lang l w → SeqW Lang l' w := by
 induction h with
 | nil => intro w h; exact h
 | cons h1 _ ih => intro w h; cases h with
  | cons h2 h3 => exact .cons (h1.lang _ h2) (ih h3)
theorem NormL.and {l : List Tree} (h : NormL l l') : ∀ {w : Word}, AndW Lang l w → AndW Lang l' w := by
 induction h with
 | nil => intro w h; exact h
 | cons h1 _ ih => intro w h; cases h with
  | cons h2 h3 h4 => exact .cons (h1.lang _ h2) (ih h3) h4
theorem NormL.xor {l : List Tree} (h : NormL l l') {x : Tree} {w : Word} (hx : x ∈ l) (hw : Lang x w) : ∃ y ∈ l', Lang y w := by
 induction h with
 | nil => simp at hx
 | cons h1 _ ih =>
  rcases List.mem_cons.1 hx with rfl | hx
  ·exact ⟨_, by simp, h1.lang _ hw⟩
  ·obtain ⟨y, hy, hw⟩ := ih hx; exact ⟨y, by simp [hy], hw⟩
theorem NormL.at_ {l : List Tree} (h : NormL l l') {i : Nat} (hx : l[i]? = some x) (hy : l'[i]? = some y) : NormR x y := by
 induction h generalizing i with
 | nil => simp at hx
 | cons h1 _ ih => cases i with
  | zero => simp at hx hy; subst hx hy; exact h1
  | succ i => exact ih (by simpa using hx) (by simpa using hy)
theorem NormL.node {op : Int} (hop : op = 3 ∨ op = 4 ∨ op = 5) {a : BA} {l : List Tree} (h : NormL l l') (h1 : okT (.mk op a l) = true) : NormR (.mk op a l) (.mk op a l') := by
 have hl := h.len
 refine ⟨?_, ?_, fun s => ?_, fun w hw => ?_⟩
 ·rw [okT, Bool.and_eq_true] at h1 ⊢
  refine ⟨?_, okL_of h.ok⟩
  have := h1.1
  unfold rightB at this ⊢
  simp only [Tree.op, Tree.l, Tree.act] at this ⊢
  simp only [hl]; exact this
 ·have := h.size; rw [Tree.size_l, Tree.size_l]; simp only [Tree.l]; omega
 ·rw [leafs, leafs, List.mem_append, List.mem_append, h.leaf]
 ·rcases hop with rfl | rfl | rfl
  ·exact Lang.seq (h.seq (hw.op3 rfl))
  ·obtain ⟨x, hx, hw⟩ := hw.op4 rfl; obtain ⟨y, hy, hw⟩ := h.xor hx hw; exact Lang.xor hy hw
  ·exact Lang.and (h.and (hw.op5 rfl))
theorem JoinR.tree {op : Int} (hop : op = 3 ∨ op = 4 ∨ op = 5) {a : BA} {l : List Tree} (h : NormL l l') (h1 : okT (.mk op a l) = true) (hj : JoinR op l' T) : NormR (.mk op a l) T :=
 (h.node hop h1).trans (hj.norm hop h.ok a)
theorem LoopW.flat {A B C : Word → Prop} {w : Word} (h : LoopW (LoopW A B) C w) : LoopW A (fun w => B w ∨ C w) w := by
 have k0 : ∀ {u : Word}, LoopW A B u → LoopW A (fun w => B w ∨ C w) u := fun h => h.mono (fun _ h => h) fun _ h => .inl h
 have app : ∀ {u : Word}, LoopW A (fun w => B w ∨ C w) u → ∀ {v w : Word}, C v → LoopW A (fun w => B w ∨ C w) w → LoopW A (fun w => B w ∨ C w) (u ++ (v ++ w)) := by
  intro u hu
  induction hu with
  | one h => intro v w hv hw; exact .more h (.inr hv) hw
  | @more u1 v1 w1 h1 h2 _ ih =>
   intro v w hv hw
   have := LoopW.more (A := A) (B := fun w => B w ∨ C w) h1 h2 (ih hv hw)
   simpa [List.append_assoc] using this
 induction h with
 | one h => exact k0 h
 | more h1 h2 _ ih => exact app (k0 h1) h2 ih
theorem LoopW.empty {A B : Word → Prop} {w : Word} (h : LoopW A B w) (hA : ∀ w, A w → w = []) (hB : ∀ w, B w → w = []) : w = [] := by
 induction h with
 | one h => exact hA _ h
 | more h1 h2 _ ih => rw [hA _ h1, hB _ h2, ih]; rfl
theorem okT_loop (ha : okT a = true) (hb : okT b = true) : okT (.mk 6 ⟨#[]⟩ [a, b]) = true := by
 rw [okT, Bool.and_eq_true]
 refine ⟨by simp [rightB, Tree.op, Tree.l, Tree.act], okL_of fun x hx => ?_⟩
 simp at hx
 rcases hx with rfl | rfl
 ·exact ha
 ·exact hb
theorem NormR.loop {c : BA} {a : Tree} (ha : NormR a a') (hb : NormR b b') : NormR (.mk 6 c [a, b]) (.mk 6 ⟨#[]⟩ [a', b']) := by
 refine ⟨okT_loop ha.ok hb.ok, ?_, fun s => ?_, fun w hw => ?_⟩
 ·have h1 := ha.size; have h2 := hb.size
  rw [Tree.size_l, Tree.size_l]; simp only [Tree.l, sizeL]; omega
 ·have h1 := ha.leaf s; have h2 := hb.leaf s
  simp only [leafs, leafsL, List.mem_append, h1, h2]
  simp
 ·obtain ⟨x, y, he, hw⟩ := hw.op6 rfl
  simp only [Tree.l, List.cons.injEq, and_true] at he
  obtain ⟨rfl, rfl⟩ := he
  exact Lang.loop (hw.mono ha.lang hb.lang)
theorem NormR.refl {a : Tree} (h : okT a = true) : NormR a a := ⟨h, Nat.le_refl _, fun _ => Iff.rfl, fun _ h => h⟩
theorem NormR.loop2 {a b c : Tree} {e f : BA} (hb : okT (.mk 6 e [.mk 6 f [a, b], c]) = true) (hj : JoinR 4 [b, c] d) : NormR (.mk 6 e [.mk 6 f [a, b], c]) (.mk 6 ⟨#[]⟩ [a, d]) := by
 have h1 := okT_mem hb (.mk 6 f [a, b]) (by simp [Tree.l])
 have hc := okT_mem hb c (by simp [Tree.l])
 have ha := okT_mem h1 a (by simp [Tree.l])
 have h4 := okT_mem h1 b (by simp [Tree.l])
 have hn := hj.norm (.inr (.inl rfl)) (a := ⟨#[]⟩) (fun x hx => by simp at hx; rcases hx with rfl | rfl <;> assumption)
 refine ⟨okT_loop ha hn.ok, ?_, fun s => ?_, fun w hw => ?_⟩
 ·have := hn.size
  simp only [Tree.size, sizeL] at this ⊢
  omega
 ·have := hn.leaf s
  simp only [leafs, leafsL, List.mem_append, List.append_nil] at this ⊢
  rw [this]
  simp [or_assoc]
 ·obtain ⟨x, y, he, hw⟩ := hw.op6 rfl
  simp only [Tree.l, List.cons.injEq, and_true] at he
  obtain ⟨rfl, rfl⟩ := he
  have h2 := (hw.mono (A' := LoopW (Lang a) (Lang b)) (B' := Lang c) (fun w hw => by
   obtain ⟨x, y, he, hw⟩ := hw.op6 rfl
   simp only [Tree.l, List.cons.injEq, and_true] at he
   obtain ⟨rfl, rfl⟩ := he
   exact hw) fun w h => h).flat
  refine Lang.loop (h2.mono (fun w h => h) fun w h => hn.lang w ?_)
  rcases h with h | h
  ·exact Lang.xor (x := b) (by simp) h
  ·exact Lang.xor (x := c) (by simp) h
theorem NormR.loop0 {a b : Tree} {c : BA} (h : okT (.mk 6 c [a, b]) = true) (ha : a.op = 2) (hb : b.op = 2) : NormR (.mk 6 c [a, b]) (.mk 2 ⟨#[]⟩ []) := by
 have h1 := okT_mem h a (by simp [Tree.l])
 have h2 := okT_mem h b (by simp [Tree.l])
 refine ⟨by simp [okT, okL, rightB, Tree.op, Tree.l, Tree.act], by rw [Tree.size_l, Tree.size_l]; simp only [Tree.l, sizeL]; omega, fun s => ?_, fun w hw => ?_⟩
 ·simp only [leafs, leafsL, List.mem_append, List.append_nil]
  rw [leafs_eq a, leafs_eq b, right2 h1 ha, right2 h2 hb, ha, hb]
  simp [leafsL]
 ·obtain ⟨x, y, he, hw⟩ := hw.op6 rfl
  simp only [Tree.l, List.cons.injEq, and_true] at he
  obtain ⟨rfl, rfl⟩ := he
  rw [hw.empty (fun w h => h.op2 ha) fun w h => h.op2 hb]
  exact Lang.silent
theorem NormR.leaf1 {t : Tree} (h : okT t = true) (ho : t.op = 1 ∨ t.op = 2) : NormR t (.mk t.op t.act []) := by
 obtain ⟨op, act, l⟩ := t
 have hr := okT_right h
 have hl : l = [] := by
  simp only [Tree.op] at ho
  rcases ho with rfl | rfl <;> (simp [rightB, Tree.op, Tree.l] at hr; exact hr.1)
 subst hl
 exact NormR.refl h
end Go.Proofs.YtookcfeogbeooaaGreatDoor
