/-
Small trees of the discovery. Trees that are discovered. More operations: strings that are compared; rows of trees. Trees that are compared.
Conditions: those that each theorem states.
-/
import Derived.Test.YtookcfeogbeooaaGreatDoorM18
set_option linter.all false
set_option maxRecDepth 100000
set_option maxHeartbeats 8000000
set_option autoImplicit true
set_option relaxedAutoImplicit true
namespace Go.Proofs.YtookcfeogbeooaaGreatDoor
open Go Go.Proofs
section
open Go.Proofs.Tryz
attribute [local irreducible] TK Yl OpK AnyT wpList Code.wp
theorem fill23 {a b c d e f : Value} {zs : LV} (hz : zs.length = 2 * 3) : lfill (fun i => some (i * 3, 3)) zs [(0, [a, b, c]), (1, [d, e, f])] = some [a, b, c, d, e, f] := by
 match zs, hz with
 | [_, _, _, _, _, _], _ => rfl
theorem c63 : Ct PP 63 #[] H [] fun v H' O' => O' = [] ∧ v = .agg #[.int .i64 2, .string noB, .slice none 0 0] := by
 refine cB func63 ntmps63 fun I hD hI h4 => ?_
 refine g2a ?_
 intros
 refine aL fun b2 => ?_
 refine g4a ?_
 intros
 refine sG 0 ?_
 refine g1 ?_
 refine rC 0 [] results63 ?_
 exact ⟨rfl, rfl⟩
theorem c102 {s : BA} : Ct PP 102 #[.string s] H [] fun v H' O' => O' = [] ∧ v = .agg #[.int .i64 1, .string s, .slice none 0 0] := by
 refine cB func102 ntmps102 fun I hD hI h4 => ?_
 refine g2a ?_
 intros
 refine aL fun b2 => ?_
 refine g5a ?_
 intros
 refine sG 0 ?_
 refine g1 ?_
 refine rC 0 [] results102 ?_
 exact ⟨rfl, rfl⟩
theorem c62 {o : Int} {A : OA} {n c : Nat} : Ct PP 62 #[.int .i64 o, .slice A n c] H [] fun v H' O' => O' = [] ∧ v = .agg #[.int .i64 o, .string noB, .slice A n c] := by
 refine cB func62 ntmps62 fun I hD hI h4 => ?_
 refine g2a ?_
 intros
 refine aL fun b2 => ?_
 refine g6a ?_
 intros
 refine sG 0 ?_
 refine g1 ?_
 refine rC 0 [] results62 ?_
 exact ⟨rfl, rfl⟩
theorem base_empty {lv : List Variant} (hx : lv[0]? = some x) (h1 : lv.length ≤ 1) (h : x.acts = []) : TreeOf lv (.mk 2 noB []) := by
 match lv, hx, h1 with
 | [y], hx, _ => simp at hx; subst hx; exact .empty h
 | _ :: _ :: _, _, h1 => simp at h1
theorem base_leaf {lv : List Variant} (hx : lv[0]? = some x) (h1 : lv.length ≤ 1) (hs : x.acts[0]? = some s) (h : x.acts.length ≤ 1) : TreeOf lv (.mk 1 s []) := by
 match lv, hx, h1 with
 | [y], hx, _ =>
  simp at hx; subst hx
  refine .leaf1 ?_
  cases hy : y.acts with
  | nil => rw [hy] at hs; simp at hs
  | cons a r =>
   rw [hy] at hs h
   cases r with
   | nil => simp at hs; rw [hs]
   | cons b r => simp at h
 | _ :: _ :: _, _, h1 => simp at h1
theorem reps_ve : ∀ {xs : List Variant} {cs : LV}, Reps rVariant H xs cs → ∃ l : List VE, cs = veC l ∧ veOk H l ∧ l.map toV = xs
 | _, _, .nil => ⟨[], rfl, fun e he => by simp at he, rfl⟩
 | x :: _, _, .cons h1 h0 => by
  obtain ⟨A, n, c, rfl, hs⟩ := h1
  obtain ⟨l, rfl, h2, h3⟩ := reps_ve h0
  refine ⟨⟨A, n, c, x.acts, x.count⟩ :: l, rfl, fun e he => ?_, by rw [List.map_cons, h3]; rfl⟩
  rcases List.mem_cons.1 he with rfl | he
  ·exact hs
  ·exact h2 e he
theorem once_set {i : Nat} {l : List VE} {e : VE} {lv : List Variant} (hw : l.map (·.w) = lv.map (·.acts)) (h1 : ∀ (j : Nat) (e : VE), j < i → l[j]? = some e → e.cnt = 1) (he : l[i]? = some e) : (l.set i { e with cnt := 1 }).map (·.w) = lv.map (·.acts) ∧ ∀ (j : Nat) (f : VE), j < i + 1 → (l.set i { e with cnt := 1 })[j]? = some f → f.cnt = 1 := by
 refine ⟨(map_set_same (p' := { e with cnt := 1 }) he rfl).trans hw, fun j f hj hf => ?_⟩
 rw [List.getElem?_set] at hf
 split at hf
 ·split at hf
  ·cases hf; rfl
  ·cases hf
 ·exact h1 j f oM hf
theorem once_done {i : Nat} {l : List VE} {lv : List Variant} (hw : l.map (·.w) = lv.map (·.acts)) (h1 : ∀ (j : Nat) (e : VE), j < i → l[j]? = some e → e.cnt = 1) (hi : lv.length ≤ i) : l.map toV = lv.map onceV := by
 apply List.ext_getElem?
 intro j
 have h2 := congrArg (fun z => z[j]?) hw
 simp only [List.getElem?_map] at h2 ⊢
 have hl : l.length = lv.length := by have := congrArg List.length hw; simpa using this
 cases hj : l[j]? with
 | none =>
  rw [hj] at h2
  cases hv : lv[j]? with
  | none => rfl
  | some v => rw [hv] at h2; simp at h2
 | some e =>
  rw [hj] at h2
  have h4 := (gE hj).1
  cases hv : lv[j]? with
  | none => rw [hv] at h2; simp at h2
  | some v =>
   rw [hv] at h2
   simp at h2
   have := h1 j e oM hj
   simp [toV, onceV, h2, this]
theorem leaf_reps (h : Reps rTree H xs cs) : Reps rTree H (xs ++ [leafT s]) (cs ++ [.int .i64 1, .string s, .slice none 0 0]) := h.snoc (rTree_mk (t := leafT s) (Sl.nil _ _))
theorem c61 (hl : Sl rVariant H lv A n c) : Ct PP 61 #[.slice A n c] H [] fun v H' O' => O' = [] ∧ ∃ o a r, v = .tuple #[.agg #[.int .i64 o, .string a, .slice none 0 0], .bool r] ∧ (r = true ∧ TreeOf lv (.mk o a []) ∨ r = false ∧ lv ≠ []) := by
 have hlen := hl.len
 refine cB func61 ntmps61 fun I hD hI e9 => ?_
 refine g2a ?_
 intros
 refine aL fun b2 => ?_
 refine g10b ?_
 intros
 refine sD 8 ?_ ?_ <;> intro e3
 refine g15 ?_
 refine g2a ?_
 intros
 refine sq rfl (fS hD rfl call63 rfl c63 ?_)
 rintro v7 rfl
 refine sG 0 ?_
 refine g2 ?_
 have hT : TreeOf lv (.mk 2 noB []) := by obtain rfl := List.eq_nil_of_length_eq_zero (l := lv) oM; exact .none
 refine rD 0 [] results61 ?_
 exact ⟨rfl, _, _, _, rfl, .inl ⟨rfl, hT⟩⟩
 refine g4 ?_
 refine sD 12 ?_ ?_ <;> intro e7
 refine g1 ?_
 obtain ⟨e2, b4⟩ := eX hl 0
 obtain ⟨e5, o6, d4, d9, b5, b6⟩ := hl.at_ b4
 obtain ⟨A0, n0, c19, rfl, h4⟩ := b5
 refine g9 ?_
 refine cD ?_ ?_ <;> intro b7
 refine g2a ?_
 intros
 refine sq rfl (fS hD rfl call63 rfl c63 ?_)
 rintro v1 rfl
 refine sG 0 ?_
 refine g2 ?_
 have hT : TreeOf lv (.mk 2 noB []) := base_empty b4 oM (List.eq_nil_of_length_eq_zero (by have := h4.len; omega))
 refine rD 0 [] results61 ?_
 exact ⟨rfl, _, _, _, rfl, .inl ⟨rfl, hT⟩⟩
 refine g6a ?_
 intros
 refine sD 26 ?_ ?_ <;> intro d7
 refine g9 ?_
 refine cD ?_ ?_ <;> intro d6
 refine g6a ?_
 intros
 obtain ⟨d0, h8⟩ := eX h4 0
 obtain ⟨e4, o7, d3, d1⟩ := h4.atS h8
 refine g2 ?_
 refine sq rfl (fS hD rfl call102 rfl c102 ?_)
 rintro v2 rfl
 refine sG 0 ?_
 refine g2 ?_
 have hT : TreeOf lv (.mk 1 d0 []) := base_leaf b4 oM h8 (by have := h4.len; omega)
 refine rD 0 [] results61 ?_
 exact ⟨rfl, _, _, _, rfl, .inl ⟨rfl, hT⟩⟩
 refine g4a ?_
 intros
 refine sG 0 ?_
 refine g2 ?_
 refine rD 0 [] results61 ?_
 exact ⟨rfl, _, _, _, rfl, .inr ⟨rfl, by rintro rfl; simp at hlen; omega⟩⟩
 refine g12a ?_
 intros
 refine g2 ?_
 refine sG 0 ?_
 refine g2 ?_
 refine rD 0 [] results61 ?_
 exact ⟨rfl, _, _, _, rfl, .inr ⟨rfl, by rintro rfl; simp at hlen; omega⟩⟩
 refine g12a ?_
 intros
 refine g5 ?_
 refine sD 26 ?_ ?_ <;> intro c1
 refine g1 ?_
 obtain ⟨e8, h7⟩ := eX hl 0
 obtain ⟨e1, o5, d5, d2, h9, c0⟩ := hl.at_ h7
 obtain ⟨A1, n1, c49, rfl, h5⟩ := h9
 refine g8 ?_
 refine cD ?_ ?_ <;> intro d8
 refine g6a ?_
 intros
 obtain ⟨e0, h6⟩ := eX h5 0
 obtain ⟨e6, o4, b9, b8⟩ := h5.atS h6
 refine g2 ?_
 refine sq rfl (fS hD rfl call102 rfl c102 ?_)
 rintro v0 rfl
 refine sG 0 ?_
 refine g2 ?_
 have hT : TreeOf lv (.mk 1 e0 []) := base_leaf h7 oM h6 (by have := h5.len; omega)
 refine rD 0 [] results61 ?_
 exact ⟨rfl, _, _, _, rfl, .inl ⟨rfl, hT⟩⟩
 refine g4a ?_
 intros
 refine sG 0 ?_
 refine g2 ?_
 refine rD 0 [] results61 ?_
 exact ⟨rfl, _, _, _, rfl, .inr ⟨rfl, by rintro rfl; simp at hlen; omega⟩⟩
 refine g12a ?_
 intros
 refine g2 ?_
 refine sG 0 ?_
 refine g2 ?_
 refine rD 0 [] results61 ?_
 exact ⟨rfl, _, _, _, rfl, .inr ⟨rfl, by rintro rfl; simp at hlen; omega⟩⟩
theorem c28 (hl : Sl rVariant H lv A n c) (hn : n ≤ 1000000) : Ct PP 28 #[.slice A n c] H [] fun v H' O' => O' = [] ∧ ∃ B d, v = .slice B n d ∧ Sl rVariant H' (lv.map onceV) B n d := by
 have hlen := hl.len
 refine cB func28 ntmps28 fun I hD hI c0 => ?_
 refine g7b ?_
 intros
 refine sq rfl (TK.callSO hD (Oc := []) (.refl _) rfl rfl (ent call68 rfl) (c68 hl oM) ?_)
 rintro v7 O8 ⟨A3, c4, c1, rfl, b8, rfl⟩
 obtain ⟨l0, rfl, h6, b7⟩ := reps_ve b8
 have b5 : l0.map (·.w) = lv.map (·.acts) := by rw [← b7, List.map_map]; rfl
 refine g10b ?_
 intros
 refine lp0 (fun D E H' O m => ∃ (i : Nat) (l : List VE) (Ao : OA) (co : Nat), H = H' ∧ (i ≤ n) ∧ (l.map (·.w) = lv.map (·.acts)) ∧ (∀ (j : Nat) (e : VE), j < i → l[j]? = some e → e.cnt = 1) ∧ (veOk H l) ∧ m = n - i ∧ O = [.row 26 2 (.slice Ao n co) n (veC l)] ∧ E = (3, .slice Ao n co) :: (9, .int .i64 (i : Int)) :: D) [8] [0] ⟨0, l0, A3, c4, rfl, Nat.zero_le _, b5, (fun j e h => by omega), h6, rfl, rfl, rfl⟩ ?_
 rintro _ _ _ _ ⟨i, l, Ao, co, rfl, hi, hw, h1, b4, rfl, rfl, rfl⟩ _ h5
 refine g5b ?_
 intros
 refine cD ?_ ?_ <;> intro b6
 refine g11b ?_
 intros
 refine row_addr (i := 0) rfl oM fun b9 h8 => ?_
 subst h8
 refine g2 ?_
 obtain ⟨e, he⟩ := ex_i (l := l) (i := i) (by have := congrArg List.length hw; simp at this; omega)
 refine sq rfl (rS 0 ?_ (ho := by rw [veC_len]; have := (gE he).1; omega))
 try simp only [Int.toNat_natCast]
 rw [veC_set he]
 have hs := once_set hw h1 he
 refine g4 ?_
 exact nK h5 ⟨i + 1, l.set i { e with cnt := 1 }, some ⟨b9, 0, none⟩, co, rfl, oM, hs.1, hs.2, (b4.set he), rfl, rfl, rfl⟩
 refine g6a ?_
 intros
 have ho := once_done hw h1 oM
 refine tR 0 (r := rVariant) (ys := (lv.map onceV)) (ho ▸ ve_reps b4) fun H0 h9 h7 => ?_
 have h4 := h7
 refine rT results28 ?_
 exact ⟨rfl, _, _, rfl, h4⟩
theorem leaf_take {acts : LB} {i : Nat} (h : acts[i]? = some s) : (acts.take i).map leafT ++ [leafT s] = (acts.take (i + 1)).map leafT := by rw [List.take_add_one, h]; simp
theorem leaf1_cells {s : BA} (h : Reps rTree H ([s].map leafT) cs) : ∃ A n c, cs = [.int .i64 1, .string s, .slice A n c] ∧ Sl rTree H [] A n c := by
 cases h with
 | cons h1 h2 =>
  cases h2
  obtain ⟨A, n, c, rfl, hs⟩ := rTree_dest h1
  exact ⟨A, n, c, rfl, hs⟩
theorem flower_any {lv : List Variant} {acts : LB} {a b : BA} (h : ∀ s, s ∈ acts ↔ ∃ v ∈ lv, s ∈ v.acts) (hne : ∀ v ∈ lv, v.acts ≠ []) : TreeOf lv (.mk 6 b [.mk 4 a (acts.map leafT), .mk 2 noB []]) :=
 .flower (fun s => by rw [leaf_any, h]) (fun v hv s hs => lang_any ((h s).2 ⟨v, hv, hs⟩)) hne
theorem flower_one {lv : List Variant} {a0 b : BA} (h : ∀ s, s ∈ [a0] ↔ ∃ v ∈ lv, s ∈ v.acts) (hne : ∀ v ∈ lv, v.acts ≠ []) : TreeOf lv (.mk 6 b [leafT a0, .mk 2 noB []]) :=
 .flower (fun s => by rw [← h]; simp [leafT, leafs, leafsL]) (fun v hv s hs => by have := (h s).2 ⟨v, hv, hs⟩; simp at this; subst this; exact Lang.act) hne
theorem c66 (hl : Sl rStr H acts A n c) (hn : n ≤ 1000000) : Ct PP 66 #[.slice A n c] H [] fun v H' O' => O' = [] ∧ ∃ B m d, v = .agg #[.int .i64 6, .string noB, .slice B m d] ∧ ∃ l, Sl rTree H' l B m d ∧ ∀ lv, (∀ s, s ∈ acts ↔ ∃ v ∈ lv, s ∈ v.acts) → (∀ v ∈ lv, v.acts ≠ []) → TreeOf lv (.mk 6 noB l) := by
 have hlen := hl.len
 refine cB func66 ntmps66 fun I hD hI e1 => ?_
 refine g2a ?_
 intros
 refine aL fun b2 => ?_
 refine g13c ?_
 intros
 refine newRow 37 3 ?_
 refine lp1 (fun D f E H' O m => ∃ (i : Nat) (At : OA) (ct : Nat) (cs : LV), H = H' ∧ (i ≤ n) ∧ (Reps rTree H ((acts.take i).map leafT) cs) ∧ m = n - i ∧ O = [.row 37 3 (.slice At i ct) i cs, f] ∧ E = (3, .slice At i ct) :: (8, .int .i64 (i : Int)) :: D) [2, 6, 7] [0, 1] ⟨0, none, 0, [], rfl, Nat.zero_le _, .nil, rfl, rfl, rfl⟩ ?_
 rintro _ _ _ _ ⟨i, At, ct, cs, rfl, hi, hr, rfl, rfl, rfl⟩ _ b9
 refine g5b ?_
 intros
 refine cD ?_ ?_ <;> intro d1
 refine g5b ?_
 intros
 obtain ⟨c0, h7⟩ := eX hl i
 obtain ⟨d7, o4, d2, d4⟩ := hl.atS h7
 refine g7 ?_
 refine sq rfl (fS hD rfl call102 rfl c102 ?_)
 rintro v2 rfl
 refine sq rfl (bS [.int .i64 1, .string c0, .slice none 0 0] fun e0 => ?_)
 refine sq rfl (aR 1 fun A0 c26 => ?_)
 refine g5 ?_
 exact nK b9 ⟨i + 1, A0, c26, cs ++ [.int .i64 1, .string c0, .slice none 0 0], rfl, oM, (by have := leaf_reps (s := c0) hr; rwa [leaf_take h7] at this), rfl, rfl, rfl⟩
 refine g4b ?_
 intros
 have d8 : i = n := by omega
 rw [List.take_of_length_le oM] at hr
 refine g4 ?_
 refine cD ?_ ?_ <;> intro d0
 obtain ⟨a0, d3⟩ : ∃ a0, acts = [a0] := List.length_eq_one_iff.1 oM
 subst d3
 obtain ⟨A1, n1, c1, rfl, b4⟩ := leaf1_cells hr
 refine g1a ?_
 intros
 refine ts 4 fun _ => ?_
 refine tj 0 ?_
 refine row_addr (i := 0) rfl oM fun d5 b7 => ?_
 subst b7
 refine tj 1 ?_
 refine tk 2 rfl kR aS nP kS (yLoadA (cs := [.int .i64 1, .string a0, .slice A1 n1 c1]) aC sC rfl (Mem.row (i := 0) rfl rfl) rfl) rfl rfl rfl ?_
 refine oI 3 rfl kR (fS hD rfl call63 rfl c63 ?_)
 rintro v3 rfl
 refine g2 ?_
 refine sq rfl (tBSlice (k := 3) (out := [.int .i64 1, .string a0, .slice A1 n1 c1, .int .i64 2, .string noB, .slice none 0 0]) uC sC nC rfl (fun zs hz => fill23 hz) rfl dC dC dC dC fun d9 => ?_)
 refine tR 0 (r := rTree) (ys := [leafT a0, .mk 2 noB []]) (Reps.cons (r := rTree) (c := [_, _, _]) (rTree_mk (t := leafT a0) b4) (.single (rTree_mk (t := .mk 2 noB []) (Sl.nil _ _)))) fun H0 h8 h9 => ?_
 have ⟨hl, hr, b4⟩ := mo3 h8 hl hr b4
 refine sq rfl (fS hD rfl call62 rfl c62 ?_)
 rintro v4 rfl
 refine sG 1 ?_
 refine g1 ?_
 refine rC 1 [] results66 ?_
 exact ⟨rfl, _, _, _, rfl, [leafT a0, .mk 2 noB []], ⟨h9, fun lv b5 b8 => flower_one b5 b8⟩⟩
 refine g4a ?_
 intros
 refine tR 0 hr fun H1 h5 h4 => ?_
 have hl := hl.mono h5
 refine sq rfl (fS hD rfl call62 rfl c62 ?_)
 rintro v1 rfl
 refine sq rfl (fS hD rfl call63 rfl c63 ?_)
 rintro v0 rfl
 refine sq rfl (tBSlice (k := 3) (out := [.int .i64 4, .string noB, .slice At i ct, .int .i64 2, .string noB, .slice none 0 0]) uC sC nC rfl (fun zs hz => fill23 hz) rfl dC dC dC dC fun d6 => ?_)
 refine tR 0 (r := rTree) (ys := [.mk 4 noB (acts.map leafT), .mk 2 noB []]) (Reps.cons (r := rTree) (c := [_, _, _]) (rTree_mk (t := .mk 4 noB (acts.map leafT)) h4) (.single (rTree_mk (t := .mk 2 noB []) (Sl.nil _ _)))) fun H2 h6 b6 => ?_
 have ⟨h4, hl⟩ := mo2 h6 h4 hl
 refine sq rfl (fS hD rfl call62 rfl c62 ?_)
 rintro v5 rfl
 refine sG 0 ?_
 refine g1 ?_
 refine rC 0 [] results66 ?_
 exact ⟨rfl, _, _, _, rfl, [.mk 4 noB (acts.map leafT), .mk 2 noB []], ⟨b6, fun lv b5 b8 => flower_any b5 b8⟩⟩
def TR (lv : List Variant) : Value → Ghost → List HL → Prop := fun v H' O' => O' = [] ∧ ∃ o a A n c e, v = .tuple #[.agg #[.int .i64 o, .string a, .slice A n c], .int .i64 e] ∧ (e = 5 ∨ e = 0 ∧ ∃ l, Sl rTree H' l A n c ∧ TreeOf lv (.mk o a l))
theorem cons_drop {α : Type} {l : List α} {x : α} (h : l[0]? = some x) : l = x :: l.drop 1 := by
 cases l with
 | nil => simp at h
 | cons a r => simp at h; subst h; rfl
theorem cnt_take {g : List Cnt} {i : Nat} (h : g[i]? = some x) : ((g.map (·.name)).take i).map Value.string ++ [.string x.name] = ((g.map (·.name)).take (i + 1)).map Value.string := by rw [List.take_add_one, List.getElem?_map, h]; simp
theorem strs : ∀ xs : LB, Reps rStr H xs (xs.map Value.string)
 | [] => .nil
 | x :: xs => Reps.cons (r := rStr) (c := [_]) rfl (strs xs)
theorem c27s {k : Nat} (ih : ∀ (lv : List Variant) (N : LB) (H : Ghost) (A : OA) (n c : Nat), InN lv N → N.length * 2 + hd0 lv < k → validVs lv = true → Sl rVariant H lv A n c → Ct PP 27 #[.slice A n c] H [] (TR lv)) (hN : InN lv N) (hk : N.length * 2 + hd0 lv ≤ k) (hvv : validVs lv = true) (hl : Sl rVariant H lv A n c) : Ct PP 27 #[.slice A n c] H [] (TR lv) := by
 refine cB func27 ntmps27 fun I hD hI E4 => ?_
 refine g2a ?_
 intros
 refine aL fun b2 => ?_
 refine g6b ?_
 intros
 refine sq rfl (fS hD rfl call61 rfl (c61 hl) ?_)
 rintro v5 ⟨o1, a1, r1, rfl, r4⟩
 refine g3 ?_
 refine aL fun b6 => ?_
 refine sG 0 ?_
 refine g6a ?_
 intros
 refine cN ?_ ?_ <;> intro s5
 have n3 := s5
 have v8 := r4.resolve_right (fun h => by rw [n3] at h; cases h.1)
 refine g3a ?_
 intros
 refine sG 1 ?_
 refine g2 ?_
 refine rD 1 [] results27 ?_
 exact ⟨rfl, _, _, _, _, _, _, rfl, .inr ⟨rfl, [], (Sl.nil _ _), v8.2⟩⟩
 have n3 := s5
 have n8 : lv ≠ [] := (r4.resolve_left (fun h => by rw [n3] at h; cases h.1)).2
 have B0 := List.length_pos_iff.2 n8
 have hlen := hl.len
 have w8 := (validVs_iff.1 hvv).1
 refine g5b ?_
 intros
 obtain ⟨n1, i4⟩ := eX hl 0
 obtain ⟨D0, z7, u3, y7, n4, b5⟩ := hl.at_ i4
 obtain ⟨B6, C7, c22, rfl, b4⟩ := n4
 refine g6 ?_
 refine cD ?_ ?_ <;> intro y2
 refine g3a ?_
 intros
 have c1 := hl.cut (l := 1) oM
 refine g1 ?_
 have o8 : n1.acts = [] := List.eq_nil_of_length_eq_zero (by have := b4.len; omega)
 have e8 := cons_drop i4
 have s0 := drop_less (e8 ▸ hvv) o8 (e8 ▸ hN) (e8 ▸ hk)
 have v2 := validVs_drop (e8 ▸ hvv : validVs (n1 :: lv.drop 1) = true)
 refine sq rfl (fP hD rfl call27 rfl (ih _ N _ _ _ _ s0.1 s0.2 v2 c1) ?_)
 rintro v5 H5 ⟨o5, a5, A5, n5, c5, e5, rfl, (rfl | ⟨rfl, l5, n0, t1⟩)⟩ j7
 have ⟨hl, b5, b4, c1⟩ := mo4 j7 hl b5 b4 c1
 refine g3 ?_
 refine aL fun D3 => ?_
 refine sG 0 ?_
 refine g3a ?_
 intros
 refine tss (.cons_cons _ (.cons_cons _ (List.nil_sublist _))) 7 fun _ => ?_
 refine tj 1 ?_
 refine tj 4 ?_
 refine oI 0 rfl kR (fS hD rfl call63 rfl c63 ?_)
 rintro C2 rfl
 refine g1 ?_
 refine oI 2 rfl kR (tBSlice (k := 3) (out := [.int .i64 2, .string noB, .slice none 0 0, .int .i64 o5, .string a5, .slice A5 n5 c5]) uC sC nC rfl (fun zs hz => fill23 hz) rfl dC dC dC dC fun u0 => ?_)
 refine g1 ?_
 refine oI 3 rfl kR (fS hD rfl call62 rfl c62 ?_)
 rintro E3 rfl
 refine g1 ?_
 refine oI 5 rfl kR (tStoreA (i := 3) (cs := [.int .i64 4, .string noB, .slice (ad u0) 2 2]) rfl sC rfl rfl rfl rfl oC nL ?_)
 refine g4 ?_
 refine rD 3 [] results27 ?_
 exact ⟨rfl, _, _, _, _, _, _, rfl, .inl rfl⟩
 have ⟨hl, b5, b4, c1⟩ := mo4 j7 hl b5 b4 c1
 refine g3 ?_
 refine aL fun A8 => ?_
 refine sG 0 ?_
 refine g3a ?_
 intros
 refine tss (.cons_cons _ (.cons_cons _ (List.nil_sublist _))) 7 fun _ => ?_
 refine tj 1 ?_
 refine tj 4 ?_
 refine oI 0 rfl kR (fS hD rfl call63 rfl c63 ?_)
 rintro C3 rfl
 refine g1 ?_
 refine oI 2 rfl kR (tBSlice (k := 3) (out := [.int .i64 2, .string noB, .slice none 0 0, .int .i64 o5, .string a5, .slice A5 n5 c5]) uC sC nC rfl (fun zs hz => fill23 hz) rfl dC dC dC dC fun y6 => ?_)
 refine g1 ?_
 refine tR 0 (r := rTree) (ys := [.mk 2 noB [], .mk o5 a5 l5]) (Reps.cons (r := rTree) (c := [_, _, _]) (rTree_mk (t := .mk 2 noB []) (Sl.nil _ _)) (.single (rTree_mk (t := .mk o5 a5 l5) n0))) fun z8 d1 o4 => ?_
 have ⟨hl, b5, b4, c1, n0⟩ := mo5 d1 hl b5 b4 c1 n0
 refine oI 3 rfl kR (fS hD rfl call62 rfl c62 ?_)
 rintro B2 rfl
 refine ta_next (kG d1) ?_
 refine oI 5 rfl kR (tStoreA (i := 2) (cs := [.int .i64 4, .string noB, .slice (ad y6) 2 2]) rfl sC rfl rfl rfl rfl oC nL ?_)
 refine ta_next (kG d1) ?_
 refine tk 6 rfl kR aS nP (kG d1) (yAssign rfl) rfl rfl rfl ?_
 refine g2 ?_
 refine rD 2 [] results27 ?_
 exact ⟨rfl, _, _, _, _, _, _, rfl, .inr ⟨rfl, [.mk 2 noB [], .mk o5 a5 l5], o4, (by rw [e8]; exact TreeOf.skip o8 t1)⟩⟩
 have e8 := cons_drop i4
 have y4 : n1.acts ≠ [] := fun e => by have := b4.len; rw [e] at this; simp at this; omega
 have t3 : ∀ v ∈ lv, v.acts ≠ [] := by rw [e8]; exact words_ne (e8 ▸ hvv) y4
 refine g4a ?_
 intros
 refine sq rfl (fP hD rfl call64 rfl (c64 hl hvv) ?_)
 rintro z4 D8 ⟨g, E2, e4, rfl, u2, j5⟩ k5
 have ⟨hl, b5, b4⟩ := mo3 k5 hl b5 b4
 obtain ⟨A4, o7, c48, D9, D2, c52, A6, C8, C9, A7, C5, C0, rfl, h4, h6, h5, h8⟩ := u2
 refine g3 ?_
 refine aL fun E1 => ?_
 refine sG 0 ?_
 refine g8b ?_
 intros
 refine cN ?_ ?_ <;> intro l3
 have r5 : ¬ e4 = 0 := by simpa using l3
 have l8 : e4 = 5 := j5.resolve_right (fun h => r5 h.1)
 refine g4a ?_
 intros
 refine sG 2 ?_
 refine g2 ?_
 refine rD 2 [] results27 ?_
 exact ⟨rfl, _, _, _, _, _, _, rfl, .inl l8⟩
 have r5 : e4 = 0 := by simpa using l3
 obtain ⟨z9, j5⟩ := j5.resolve_left (fun h => by omega)
 have B1 := j5.2.1
 have s7 := h4.len
 have y3 := h6.len
 have u9 := h5.len
 have u1 := j5.2.2
 refine g4a ?_
 intros
 refine sq rfl (fP hD rfl call65 rfl (c65 h4 h6 h5 h8 oM oM oM (names := g.acts.map (·.name)) rfl) ?_)
 rintro D5 H1 ⟨E5, e6, rfl, ⟨q6, P6, n6, p6, rfl⟩, z0⟩ j9
 have ⟨hl, b5, b4, h4, h6, h5, h8⟩ := mo7 j9 hl b5 b4 h4 h6 h5 h8
 refine g3 ?_
 refine aL fun B4 => ?_
 refine sG 0 ?_
 refine g8b ?_
 intros
 refine cN ?_ ?_ <;> intro l6
 refine g13c ?_
 intros
 refine newRow 9 1 ?_
 have y9 : ([] : LV) = ((g.acts.map (·.name)).take 0).map Value.string := rfl
 refine lp4 (fun D f f1 f2 f3 E H O m => ∃ (i : Nat) (Aa : OA) (ca : Nat), H1 = H ∧ (i ≤ o7) ∧ m = o7 - i ∧ O = [.row 9 1 (.slice Aa i ca) i (((g.acts.map (·.name)).take i).map Value.string), f, f1, f2, f3] ∧ E = (11, .slice Aa i ca) :: (63, .int .i64 (i : Int)) :: D) [2, 61, 62] [0, 1, 2, 3, 4] ⟨0, none, 0, rfl, Nat.zero_le _, rfl, rfl, rfl⟩ ?_
 rintro _ _ _ _ ⟨i, Aa, ca, rfl, hi, rfl, rfl, rfl⟩ _ n7
 refine g5b ?_
 intros
 refine cD ?_ ?_ <;> intro u7
 refine g5b ?_
 intros
 obtain ⟨t7, k4⟩ := eX h4 i
 obtain ⟨B5, C1, _, t4, rfl, v7⟩ := h4.at_ k4
 refine g2 ?_
 refine aL fun D6 => ?_
 refine sG 0 ?_
 refine g5 ?_
 refine sq rfl (bS [.string t7.name] fun D7 => ?_)
 refine sq rfl (aR 2 fun A2 c100 => ?_)
 refine g5 ?_
 rw [cnt_take k4]
 exact nK n7 ⟨i + 1, A2, c100, rfl, oM, rfl, rfl, rfl⟩
 refine g4a ?_
 intros
 refine tSealRow (r := rStr) (ys := (g.acts.map (·.name))) (i := 0) rfl (by rw [List.take_of_length_le (by rw [List.length_map]; omega)]; exact strs _) dC oM fun y0 j3 d2 => ?_
 have ⟨h4, h6, h5, h8⟩ := mo4 j3 h4 h6 h5 h8
 have B9 := d2.len
 refine sq rfl (fP hD rfl call66 rfl (c66 d2 oM) ?_)
 rintro z1 H9 ⟨B7, m7, d7, rfl, l7, v0, s6⟩ j1
 have ⟨d2, h4, h6, h5, h8⟩ := mo5 j1 d2 h4 h6 h5 h8
 refine sG 3 ?_
 refine g2 ?_
 refine rD 3 [] results27 ?_
 exact ⟨rfl, _, _, _, _, _, _, rfl, .inr ⟨rfl, l7, v0, (s6 lv j5.1 t3)⟩⟩
 have t2 : e6 = 0 := by simpa using l6
 obtain ⟨z6, C, t6, i9⟩ := z0.resolve_left (fun h => h t2)
 obtain ⟨PA, PN, PC, s4, b7⟩ := t6
 simp only [List.cons.injEq, Value.int.injEq, Value.slice.injEq, true_and, and_true] at s4
 obtain ⟨rfl, rfl, rfl, rfl⟩ := s4
 refine g5a ?_
 intros
 refine sq rfl (fP hD rfl call67 rfl (c67 (names := g.acts.map (·.name)) hl b7 i9.2.2 (by rw [List.length_map]; omega)) ?_)
 rintro w1 H0 ⟨Bo, no, co, e7, rfl, h7⟩ i7
 have ⟨hl, b5, b4, h4, h6, h5, h8, b7⟩ := mo8 i7 hl b5 b4 h4 h6 h5 h8 b7
 refine g12b ?_
 intros
 refine cN ?_ ?_ <;> intro k6
 refine g3a ?_
 intros
 refine sG 3 ?_
 refine g2 ?_
 refine rD 3 [] results27 ?_
 exact ⟨rfl, _, _, _, _, _, _, rfl, .inl rfl⟩
 have v4 : e7 = 0 := by simpa using k6
 obtain ⟨C6, P, pm, hP, hS, s3, r0, _⟩ := h7.resolve_left (fun h => h v4)
 have D1 := hP.len
 have D4 := hS.len
 have C4 := b7.len
 have t9 := s3.few i9.2.2
 rw [List.length_map] at t9
 refine g13c ?_
 intros
 refine newRow 37 3 ?_
 refine lp4 (fun D f f1 f2 f3 E H O m => ∃ (i : Nat) (T : List Tree) (At : OA) (ct : Nat) (cs : LV), Ghost.le H0 H ∧ (i ≤ no) ∧ (Trees P T i) ∧ (Reps rTree H T cs) ∧ m = no - i ∧ O = [.row 37 3 (.slice At i ct) i cs, f, f1, f2, f3] ∧ E = (15, .slice At i ct) :: (86, .int .i64 (i : Int)) :: D) [2, 10, 84, 85] [0, 1, 2, 3, 4] ⟨0, [], none, 0, [], Ghost.le.refl _, Nat.zero_le _, ⟨rfl, fun i vs t h1 h2 => by simp at h2⟩, .nil, rfl, rfl, rfl⟩ ?_
 rintro _ _ _ _ ⟨i, T, At, ct, cs, d3, hi, j6, hr, rfl, rfl, rfl⟩ _ k9
 have ⟨hl, b5, b4, h4, h6, h5, h8, b7, hP⟩ := mo9 d3 hl b5 b4 h4 h6 h5 h8 b7 hP
 refine g5b ?_
 intros
 refine cD ?_ ?_ <;> intro r8
 refine g5b ?_
 intros
 obtain ⟨w5, c0⟩ := eX hP i
 obtain ⟨u4, w2, r6, s2, k8, d0⟩ := hP.at_ c0
 obtain ⟨A3, s8, c140, rfl, b8⟩ := k8
 refine g7a ?_
 intros
 have B3 := b8.len
 have u5 := hS.few _ (mG c0)
 refine sq rfl (fP hD rfl call28 rfl (c28 b8 oM) ?_)
 rintro w6 H6 ⟨B8, d8, rfl, l4⟩ e0
 have ⟨hP, d0, b8, hr, b7, h4, h6, h5, h8⟩ := mo9 e0 hP d0 b8 hr b7 h4 h6 h5 h8
 obtain ⟨N', t5, u6⟩ := part_less hS s3 oM r0 i9.2.2 j5.1 c0 hN hk
 refine sq rfl (fP hD rfl call27 rfl (ih _ N' _ _ _ _ t5 u6 (validVs_once hS c0) l4) ?_)
 rintro z3 H7 ⟨o9, a9, A9, n9, c9, e9, rfl, h9⟩ d5
 have ⟨hP, d0, b8, l4, hr, b7, h4, h6, h5, h8⟩ := mo10 d5 hP d0 b8 l4 hr b7 h4 h6 h5 h8
 refine g3 ?_
 refine aL fun y8 => ?_
 refine sG 0 ?_
 refine g8b ?_
 intros
 refine cN ?_ ?_ <;> intro f9
 have o6 : ¬ e9 = 0 := by simpa using f9
 have l8 : e9 = 5 := h9.resolve_right (fun h => o6 h.1)
 refine g4a ?_
 intros
 refine sG 5 ?_
 refine g2 ?_
 refine rD 5 [] results27 ?_
 exact ⟨rfl, _, _, _, _, _, _, rfl, .inl l8⟩
 have o6 : e9 = 0 := by simpa using f9
 obtain ⟨z5, l9, w7, s9⟩ := h9.resolve_left (fun h => by omega)
 refine g4 ?_
 refine sq rfl (bS [.int .i64 o9, .string a9, .slice A9 n9 c9] fun w9 => ?_)
 refine sq rfl (aR 2 fun A0 c156 => ?_)
 refine g5 ?_
 exact nK k9 ⟨i + 1, T ++ [.mk o9 a9 l9], A0, c156, cs ++ [.int .i64 o9, .string a9, .slice A9 n9 c9], ((d3.trans e0).trans d5), oM, (j6.snoc c0 s9.once), (hr.snoc (rTree_mk (t := .mk o9 a9 l9) w7)), rfl, rfl, rfl⟩
 refine g13c ?_
 intros
 refine cD ?_ ?_ <;> intro l2
 refine g3a ?_
 intros
 have e1 : i = n6 := by omega
 have e2 : Trees P T n6 := e1 ▸ j6
 refine tR 0 hr fun H3 j4 l0 => ?_
 have ⟨hP, b7, h4, h6, h5, h8⟩ := mo6 j4 hP b7 h4 h6 h5 h8
 refine sq rfl (fS hD rfl call62 rfl c62 ?_)
 rintro v6 rfl
 refine sG 3 ?_
 refine g2 ?_
 refine rD 3 [] results27 ?_
 exact ⟨rfl, _, _, _, _, _, _, rfl, .inr ⟨rfl, T, l0, (TreeOf.xor l2 hS e2)⟩⟩
 refine g5a ?_
 intros
 refine cD ?_ ?_ <;> intro k2
 refine g3a ?_
 intros
 have e1 : i = n6 := by omega
 have e2 : Trees P T n6 := e1 ▸ j6
 refine tR 0 hr fun w4 i8 l1 => ?_
 have ⟨hP, b7, h4, h6, h5, h8⟩ := mo6 i8 hP b7 h4 h6 h5 h8
 refine sq rfl (fS hD rfl call62 rfl c62 ?_)
 rintro w3 rfl
 refine sG 3 ?_
 refine g2 ?_
 refine rD 3 [] results27 ?_
 exact ⟨rfl, _, _, _, _, _, _, rfl, .inr ⟨rfl, T, l1, (TreeOf.seq k2 hS e2)⟩⟩
 refine g5a ?_
 intros
 refine cD ?_ ?_ <;> intro k7
 refine g3a ?_
 intros
 have e1 : i = n6 := by omega
 have e2 : Trees P T n6 := e1 ▸ j6
 refine tR 0 hr fun H4 i6 k0 => ?_
 have ⟨hP, b7, h4, h6, h5, h8⟩ := mo6 i6 hP b7 h4 h6 h5 h8
 refine sq rfl (fS hD rfl call62 rfl c62 ?_)
 rintro y1 rfl
 refine sG 3 ?_
 refine g2 ?_
 refine rD 3 [] results27 ?_
 exact ⟨rfl, _, _, _, _, _, _, rfl, .inr ⟨rfl, T, k0, (TreeOf.and k7 hS e2)⟩⟩
 refine g8b ?_
 intros
 refine cD ?_ ?_ <;> intro r7
 refine g1a ?_
 intros
 have e1 : i = n6 := by omega
 have e2 : Trees P T n6 := e1 ▸ j6
 refine tR 0 hr fun H2 j0 b9 => ?_
 have ⟨hP, b7, h4, h6, h5, h8⟩ := mo6 j0 hP b7 h4 h6 h5 h8
 have E6 := b9.len
 refine tss (.cons_cons _ (.cons_cons _ (.cons_cons _ (List.nil_sublist _)))) 6 fun _ => ?_
 refine tj 0 ?_
 obtain ⟨d4, f8⟩ := eX b9 0
 obtain ⟨w0, v3, r9, r3, k1, e3⟩ := b9.at_ f8
 obtain ⟨A1, n2, c198, rfl, d6⟩ := rTree_dest k1
 refine g3 ?_
 have d9 := b9.cut (l := 1) oM
 refine g1 ?_
 refine oI 5 rfl kR (fS hD rfl call62 rfl c62 ?_)
 rintro v9 rfl
 refine g2 ?_
 refine sq rfl (tBSlice (k := 3) (out := [.int .i64 d4.op, .string d4.act, .slice A1 n2 c198, .int .i64 4, .string noB, .slice (cutA At ct 1 3) (i - 1) (ct - 1)]) uC sC nC rfl (fun zs hz => fill23 hz) rfl dC dC dC dC fun t8 => ?_)
 refine tR 0 (r := rTree) (ys := [d4, .mk 4 noB (T.drop 1)]) (Reps.cons (r := rTree) (c := [_, _, _]) (rTree_mk (t := d4) d6) (.single (rTree_mk (t := .mk 4 noB (T.drop 1)) d9))) fun H8 j2 j8 => ?_
 have ⟨b9, hP, e3, d6, d9, b7, h4, h6, h5, h8⟩ := mo10 j2 b9 hP e3 d6 d9 b7 h4 h6 h5 h8
 refine sq rfl (fS hD rfl call62 rfl c62 ?_)
 rintro v1 rfl
 refine sG 3 ?_
 refine g2 ?_
 refine rD 3 [] results27 ?_
 exact ⟨rfl, _, _, _, _, _, _, rfl, .inr ⟨rfl, [d4, .mk 4 noB (T.drop 1)], j8, (TreeOf.loopN (by have := i9.1; have := i9.2.1; omega) hS (cons_drop f8 ▸ e2) r0)⟩⟩
 refine g4a ?_
 intros
 have e1 : i = n6 := by omega
 have e2 : Trees P T n6 := e1 ▸ j6
 refine tR 0 hr fun z2 i5 k3 => ?_
 have ⟨hP, b7, h4, h6, h5, h8⟩ := mo6 i5 hP b7 h4 h6 h5 h8
 refine sq rfl (fS hD rfl call62 rfl c62 ?_)
 rintro y5 rfl
 refine sG 3 ?_
 refine g2 ?_
 refine rD 3 [] results27 ?_
 exact ⟨rfl, _, _, _, _, _, _, rfl, .inr ⟨rfl, T, k3, (TreeOf.loop2 (by have := i9.1; have := i9.2.1; omega) hS e2 oM)⟩⟩
theorem c27 : ∀ (k : Nat) (lv : List Variant) (N : LB) (H : Ghost) (A : OA) (n c : Nat), InN lv N → N.length * 2 + hd0 lv < k → validVs lv = true → Sl rVariant H lv A n c → Ct PP 27 #[.slice A n c] H [] (TR lv)
 | 0, _, _, _, _, _, _, _, h, _, _ => absurd h (Nat.not_lt_zero _)
 | k + 1, lv, N, H, A, n, c, hN, h, hv, hl => c27s (k := k) (fun lv N H A n c hN h hv hl => c27 k lv N H A n c hN h hv hl) hN oM hv hl
end
section
open Go.Lib
section
variable {P : Program} {n : Nat} {I : Init} {K : Act → World → Prop} {E : Env} {H : Ghost} {O : List HL} {Q : Exit → Act → World → Prop}
 {dst : Option Nat} {ty : TypeId} {pos : String} {af : Array Edge} {gd : Option (Nat × Bool)}
theorem yCmpStr {f : FuncId} {s u : BA} {ats : Array TypeId} (hf : P.funcs[f]? = some fn) (h1 : (fn.name == "runtime.NumGoroutine") = false) (h2 : fn.body.isNone = true) (h3 : Extern.findNext fn = none) (h4 : Extern.find fn = some Extern.BytealgCompare.compare) (hx : ev E x = some (.string s)) (hy : ev E y = some (.string u)) :
  Yl P n E H O ⟨dst, .call { callee := .value (.func f), args := #[x, y], argTypes := ats }, ty, pos, af, gd⟩ (.int .i64 (Extern.BytealgCompare.cmp s u)) := by
 intro a w ha h6
 have h5 : a.eval (.func f) = .func (.func f) #[] #[] := rfl
 simp only [execOp, resolve, h5, Deferred.ofValue, Sem.run_bind, Sem.run_pure, Result.andThen_ok, invoke, List.map_toArray, List.map_cons, List.map_nil, ha.eval hx, ha.eval hy]
 have hc : ∀ w : World, (Extern.BytealgCompare.compare #[.string s, .string u]).run P w = .ok (.int .i64 (Extern.BytealgCompare.cmp s u)) w := fun w => rfl
 simp [run_callFunc_extern hf h1 h2 h3 h4, hc]
end
structure TV where
 o : Int
 a : BA
 A : OA
 n : Nat
 c : Nat
 l : List Tree
def TV.t (x : TV) : Tree := .mk x.o x.a x.l
def tC (T : List TV) : LV := T.flatMap fun x => [.int .i64 x.o, .string x.a, .slice x.A x.n x.c]
def tvOk (H : Ghost) (T : List TV) : Prop := ∀ x ∈ T, Sl rTree H x.l x.A x.n x.c
theorem tvOk.mono {H : Ghost} (h : tvOk H T) (hle : Ghost.le H H') : tvOk H' T := fun x hx => (h x hx).mono hle
theorem tvOk.perm {H : Ghost} {T' : List TV} (h : tvOk H T) (hp : T'.Perm T) : tvOk H T' := fun x hx => h x (hp.mem_iff.1 hx)
theorem tC_len (T : List TV) : (tC T).length = T.length * 3 := by
 induction T with
 | nil => rfl
 | cons p l ih => simp only [tC, List.flatMap_cons, List.length_append, List.length_cons, List.length_nil] at ih ⊢; omega
theorem tC_cons (x : TV) (T : List TV) : tC (x :: T) = .int .i64 x.o :: .string x.a :: .slice x.A x.n x.c :: tC T := rfl
theorem tC_at : ∀ {T : List TV} {k : Nat} {x : TV}, T[k]? = some x → ((tC T).drop (0 + k * 3)).take 3 = [.int .i64 x.o, .string x.a, .slice x.A x.n x.c]
 | [], k, x, h => by simp at h
 | y :: T, 0, x, h => by simp at h; subst h; rfl
 | y :: T, k + 1, x, h => by
  have ih := tC_at (T := T) (k := k) (x := x) (by simpa using h)
  rw [tC_cons, show 0 + (k + 1) * 3 = (0 + k * 3) + 1 + 1 + 1 by omega, List.drop_succ_cons, List.drop_succ_cons, List.drop_succ_cons]
  exact ih
theorem tC_set : ∀ {T : List TV} {k : Nat} {x : TV}, k < T.length → (tC T).take (0 + k * 3) ++ [.int .i64 x.o, .string x.a, .slice x.A x.n x.c] ++ (tC T).drop (0 + k * 3 + 3) = tC (T.set k x)
 | [], k, x, h => by simp at h
 | y :: T, 0, x, h => rfl
 | y :: T, k + 1, x, h => by
  have ih := tC_set (T := T) (k := k) (x := x) (by simpa using h)
  rw [tC_cons, show 0 + (k + 1) * 3 = (0 + k * 3) + 1 + 1 + 1 by omega, List.take_succ_cons, List.take_succ_cons, List.take_succ_cons, show 0 + k * 3 + 1 + 1 + 1 + 3 = (0 + k * 3 + 3) + 1 + 1 + 1 by omega, List.drop_succ_cons, List.drop_succ_cons, List.drop_succ_cons, List.set_cons_succ, tC_cons, ← ih]
  rfl
theorem tv_reps : ∀ {T : List TV}, tvOk H T → Reps rTree H (T.map TV.t) (tC T)
 | [], _ => .nil
 | x :: T, h => Reps.cons (r := rTree) (c := [_, _, _]) (rTree_mk (t := x.t) (h x (by simp))) (tv_reps fun y hy => h y (by simp [hy]))
theorem reps_tv : ∀ {xs : List Tree} {cs : LV}, Reps rTree H xs cs → ∃ T : List TV, cs = tC T ∧ tvOk H T ∧ T.map TV.t = xs
 | _, _, .nil => ⟨[], rfl, fun e he => by simp at he, rfl⟩
 | x :: _, _, .cons h1 h0 => by
  obtain ⟨A, n, c, rfl, hs⟩ := rTree_dest h1
  obtain ⟨T, rfl, h2, h3⟩ := reps_tv h0
  refine ⟨⟨x.op, x.act, A, n, c, x.l⟩ :: T, rfl, fun e he => ?_, by rw [List.map_cons, h3]; cases x; rfl⟩
  rcases List.mem_cons.1 he with rfl | he
  ·exact hs
  ·exact h2 e he
theorem swap_perm {α : Type} {l : List α} {i j : Nat} {x y : α} (hx : l[i]? = some x) (hy : l[j]? = some y) : ((l.set i y).set j x).Perm l := by
 obtain ⟨h1, rfl⟩ := gE hx
 obtain ⟨h2, rfl⟩ := gE hy
 exact List.set_set_perm h1 h2
theorem ext283 : (Tryz.f283.name == "runtime.NumGoroutine") = false ∧ Tryz.f283.body.isNone = true ∧ Extern.findNext Tryz.f283 = none ∧ Extern.find Tryz.f283 = some Extern.BytealgCompare.compare := ⟨by kernel_rfl, by kernel_rfl, by kernel_rfl, by kernel_rfl⟩
instance : Mo (tvOk H T) H H' (tvOk H' T) := ⟨fun h e => h.mono e⟩
end
section
open Go.Proofs.Tryz
attribute [local irreducible] TK Yl OpK AnyT wpList Code.wp
theorem c259 {x y : BA} : Ct PP 259 #[.string x, .string y] H [] fun v H' O' => O' = [] ∧ ∃ r, v = .int .i64 r := by
 refine cB func259 ntmps259 fun I hD hI h4 => ?_
 refine g8b ?_
 intros
 refine q (yCmpStr func283 ext283.1 ext283.2.1 ext283.2.2.1 ext283.2.2.2 rfl rfl) rfl rfl rfl ?_
 refine g2 ?_
 refine rT results259 ?_
 exact ⟨rfl, _, rfl⟩
theorem c210 {x y : BA} : Ct PP 210 #[.string x, .string y] H [] fun v H' O' => O' = [] ∧ ∃ r, v = .int .i64 r := by
 refine cB func210 ntmps210 fun I hD hI h4 => ?_
 refine g8b ?_
 intros
 refine sq rfl (fS hD rfl call259 rfl c259 ?_)
 rintro v4 ⟨r3, rfl⟩
 refine g2 ?_
 refine rT results210 ?_
 exact ⟨rfl, _, rfl⟩
theorem c218 {x : Int} : Ct PP 218 #[.int .i64 x] H [] fun v H' O' => O' = [] ∧ v = .bool (!decide (x = x)) := by
 refine cB func218 ntmps218 fun I hD hI h4 => ?_
 refine g11b ?_
 intros
 refine rT results218 ?_
 exact ⟨rfl, rfl⟩
theorem c188 {x y : Int} : Ct PP 188 #[.int .i64 x, .int .i64 y] H [] fun v H' O' => O' = [] ∧ ∃ r, v = .int .i64 r := by
 refine cB func188 ntmps188 fun I hD hI h8 => ?_
 refine g7b ?_
 intros
 refine sq rfl (fS hD rfl call218 rfl c218 ?_)
 rintro v3 rfl
 refine g5a ?_
 intros
 refine sq rfl (fS hD rfl call218 rfl c218 ?_)
 rintro v5 rfl
 refine g7b ?_
 intros
 refine cN ?_ ?_ <;> intro h9
 refine g5b ?_
 intros
 refine cN ?_ ?_ <;> intro h7
 refine g4a ?_
 intros
 refine rT results188 ?_
 exact ⟨rfl, _, rfl⟩
 refine g5a ?_
 intros
 refine rT results188 ?_
 exact ⟨rfl, _, rfl⟩
 refine g6b ?_
 intros
 refine cN ?_ ?_ <;> intro h5
 refine g4a ?_
 intros
 refine rT results188 ?_
 exact ⟨rfl, _, rfl⟩
 refine g8b ?_
 intros
 refine cD ?_ ?_ <;> intro h4
 refine g4a ?_
 intros
 refine rT results188 ?_
 exact ⟨rfl, _, rfl⟩
 refine g8b ?_
 intros
 refine cD ?_ ?_ <;> intro h6
 refine g4a ?_
 intros
 refine rT results188 ?_
 exact ⟨rfl, _, rfl⟩
 refine g5a ?_
 intros
 refine rT results188 ?_
 exact ⟨rfl, _, rfl⟩
theorem c211 (hl : Sl rTree H xs A n c) (hk : Sl rTree H ys B m d) (hcmp : ∀ x ∈ xs, ∀ y ∈ ys, ∀ cx cy, rTree.rel H x cx → rTree.rel H y cy → Ct PP 173 #[.agg cx.toArray, .agg cy.toArray] H [] fun v H' O' => O' = [] ∧ ∃ r, v = .int .i64 r) : Ct PP 211 #[.slice A n c, .slice B m d, .func (.func 173) #[] #[]] H [] fun v H' O' => O' = [] ∧ ∃ r, v = .int .i64 r := by
 have d9 := hl.len
 have e1 := hk.len
 have d1 := hl.cap
 have d8 := hl.2.2.1
 have b4 := hk.cap
 have e0 := hk.2.2.1
 refine cB func211 ntmps211 fun I hD hI e5 => ?_
 refine g12c ?_
 intros
 refine lp0 (fun D E H' O m' => ∃ (i : Nat), H = H' ∧ (i ≤ n) ∧ m' = n - i ∧ O = [] ∧ E = (13, .int .i64 (i : Int)) :: D) [0, 1, 2, 11, 12] [] ⟨0, rfl, Nat.zero_le _, rfl, rfl, rfl⟩ ?_
 rintro _ _ _ _ ⟨i, rfl, hi, rfl, rfl, rfl⟩ _ b6
 refine g5b ?_
 intros
 refine cD ?_ ?_ <;> intro b7
 refine g6b ?_
 intros
 obtain ⟨b5, h5⟩ := eX hl i
 obtain ⟨e3, o4, d0, d3, h7, c0⟩ := hl.at_ h5
 obtain ⟨A1, n0, c25, rfl, h8⟩ := rTree_dest h7
 refine g2 ?_
 refine aL fun d7 => ?_
 refine g1 ?_
 refine sG 0 ?_
 refine g9b ?_
 intros
 refine cD ?_ ?_ <;> intro d6
 refine g4a ?_
 intros
 refine kP [] ?_
 refine rT results211 ?_
 exact ⟨rfl, _, rfl⟩
 refine g5a ?_
 intros
 obtain ⟨c1, h4⟩ := eX hk i
 obtain ⟨e2, o5, d5, b8, h9, d4⟩ := hk.at_ h4
 obtain ⟨A0, n1, c43, rfl, h6⟩ := rTree_dest h9
 refine g2 ?_
 refine aL fun e4 => ?_
 refine sG 0 ?_
 refine g6a ?_
 intros
 refine sq rfl (TK.callS hD rfl rfl (entV call173 rfl rfl) (hcmp _ (mG h5) _ (mG h4) _ _ (rTree_mk (t := b5) h8) (rTree_mk (t := c1) h6)) ?_)
 rintro v0 ⟨r0, rfl⟩
 refine g7a ?_
 intros
 refine cN ?_ ?_ <;> intro b9
 refine g5a ?_
 intros
 refine kP [] ?_
 refine rT results211 ?_
 exact ⟨rfl, _, rfl⟩
 refine g4 ?_
 exact nK b6 ⟨i + 1, rfl, oM, rfl, rfl, rfl⟩
 refine g10b ?_
 intros
 refine cD ?_ ?_ <;> intro d2
 refine g4a ?_
 intros
 refine rT results211 ?_
 exact ⟨rfl, _, rfl⟩
 refine g5a ?_
 intros
 refine rT results211 ?_
 exact ⟨rfl, _, rfl⟩
theorem c173s {N : Nat} (ih : ∀ (t u : Tree) (H : Ghost) (cx cy : LV), t.size < N → rTree.rel H t cx → rTree.rel H u cy → Ct PP 173 #[.agg cx.toArray, .agg cy.toArray] H [] fun v H' O' => O' = [] ∧ ∃ r, v = .int .i64 r) {t u : Tree} (ht : t.size ≤ N) (hl : Sl rTree H t.l A n c) (hk : Sl rTree H u.l B m d) : Ct PP 173 #[.agg #[.int .i64 t.op, .string t.act, .slice A n c], .agg #[.int .i64 u.op, .string u.act, .slice B m d]] H [] fun v H' O' => O' = [] ∧ ∃ r, v = .int .i64 r := by
 refine cB func173 ntmps173 fun I hD hI h6 => ?_
 refine g2a ?_
 intros
 refine bG fun b2 => ?_
 refine bG fun b3 => ?_
 refine g3a ?_
 intros
 refine ts 14 fun _ => ?_
 refine tj 0 ?_
 refine g3 ?_
 refine tj 5 ?_
 refine g3 ?_
 refine tj 10 ?_
 refine g3 ?_
 refine oI 4 rfl kR (fS hD rfl call188 rfl c188 ?_)
 rintro v7 ⟨r6, rfl⟩
 refine g1 ?_
 refine oI 9 rfl kR (fS hD rfl call210 rfl c210 ?_)
 rintro v9 ⟨r8, rfl⟩
 refine g2 ?_
 refine sq rfl (fS hD rfl call211 rfl (c211 hl hk (fun x hx y hy cx cy h1 h2 => ih x y _ _ _ (by have := size_mem hx; rw [Tree.size_l] at ht; omega) h1 h2)) ?_)
 rintro v1 ⟨r0, rfl⟩
 refine sq rfl (tBSlice (k := 1) (out := [.int .i64 r6, .int .i64 r8, .int .i64 r0]) uC sC nC rfl (fun zs hz => fillAll [.int .i64 r6, .int .i64 r8, .int .i64 r0] zs hz) rfl dC dC dC dC fun b4 => ?_)
 refine tR 0 (repsI [r6, r8, r0]) fun H0 h4 h5 => ?_
 have ⟨hl, hk⟩ := mo2 h4 hl hk
 refine sq rfl (TK.callS (fun _ => trivial) rfl rfl (ent call187 rfl) (c187 h5) ?_)
 rintro v0 rfl
 refine g2 ?_
 refine kP [] ?_
 refine rT results173 ?_
 exact ⟨rfl, _, rfl⟩
theorem c173 : ∀ (N : Nat) (t u : Tree) (H : Ghost) (cx cy : LV), t.size < N → rTree.rel H t cx → rTree.rel H u cy → Ct PP 173 #[.agg cx.toArray, .agg cy.toArray] H [] fun v H' O' => O' = [] ∧ ∃ r, v = .int .i64 r
 | 0, _, _, _, _, _, h, _, _ => absurd h (Nat.not_lt_zero _)
 | N + 1, t, u, H, cx, cy, h, h1, h2 => by
  obtain ⟨A, n, c, rfl, hl⟩ := rTree_dest h1
  obtain ⟨B, m, d, rfl, hk⟩ := rTree_dest h2
  exact c173s (N := N) (fun t u H cx cy h h1 h2 => c173 N t u H cx cy h h1 h2) oM hl hk
theorem same_step {α : Type} {xs ys : List α} {i : Nat} {x y : α} (h : ∀ j, j < i → xs[j]? = ys[j]?) (hx : xs[i]? = some x) (hy : ys[i]? = some y) (e : x = y) : ∀ j, j < i + 1 → xs[j]? = ys[j]? := by
 intro j hj
 rcases Nat.lt_or_ge j i with h1 | h1
 ·exact h j h1
 ·obtain rfl : j = i := by omega
  rw [hx, hy, e]
theorem same_all {α : Type} {xs ys : List α} {i : Nat} (h : ∀ j, j < i → xs[j]? = ys[j]?) (hx : xs.length ≤ i) (hy : ys.length ≤ i) : xs = ys := by
 apply List.ext_getElem?
 intro j
 rcases Nat.lt_or_ge j i with h1 | h1
 ·exact h j h1
 ·rw [List.getElem?_eq_none oM, List.getElem?_eq_none oM]
theorem Tree.same {t u : Tree} (h1 : t.op = u.op) (h2 : t.act = u.act) (h3 : t.l = u.l) : t = u := by
 cases t; cases u; simp [Tree.op, Tree.act, Tree.l] at h1 h2 h3; rw [h1, h2, h3]
theorem c212 (hl : Sl rTree H xs A n c) (hk : Sl rTree H ys B m d) (hcmp : ∀ x ∈ xs, ∀ y ∈ ys, ∀ cx cy, rTree.rel H x cx → rTree.rel H y cy → Ct PP 175 #[.agg cx.toArray, .agg cy.toArray] H [] fun v H' O' => O' = [] ∧ ∃ r, v = .bool r ∧ (r = true → x = y)) : Ct PP 212 #[.slice A n c, .slice B m d, .func (.func 175) #[] #[]] H [] fun v H' O' => O' = [] ∧ ∃ r, v = .bool r ∧ (r = true → xs = ys) := by
 have d9 := hl.len
 have e0 := hk.len
 have d4 := hl.cap
 have d8 := hl.2.2.1
 have b7 := hk.cap
 have e1 := hk.2.2.1
 refine cB func212 ntmps212 fun I hD hI e4 => ?_
 refine g13c ?_
 intros
 refine cN ?_ ?_ <;> intro c0
 refine g4a ?_
 intros
 refine rT results212 ?_
 exact ⟨rfl, _, rfl, fun h => by cases h⟩
 have e6 : (n : Int) = (m : Int) := by simpa using c0
 refine g9b ?_
 intros
 refine lp0 (fun D E H' O m' => ∃ (i : Nat), H = H' ∧ (i ≤ n) ∧ (∀ j, j < i → xs[j]? = ys[j]?) ∧ m' = n - i ∧ O = [] ∧ E = (17, .int .i64 (i : Int)) :: D) [1, 2, 15, 16] [] ⟨0, rfl, Nat.zero_le _, (fun j h => by omega), rfl, rfl, rfl⟩ ?_
 rintro _ _ _ _ ⟨i, rfl, hi, hs, rfl, rfl, rfl⟩ _ b5
 refine g5b ?_
 intros
 refine cD ?_ ?_ <;> intro b8
 refine g6b ?_
 intros
 obtain ⟨c1, h4⟩ := eX hl i
 obtain ⟨e5, o5, d0, d2, h8, b9⟩ := hl.at_ h4
 obtain ⟨A0, n1, c29, rfl, h7⟩ := rTree_dest h8
 refine g2 ?_
 refine aL fun d7 => ?_
 refine g1 ?_
 refine sG 0 ?_
 refine g5a ?_
 intros
 obtain ⟨d3, h5⟩ := eX hk i
 obtain ⟨e2, o4, d6, d1, b6, d5⟩ := hk.at_ h5
 obtain ⟨A1, n0, c43, rfl, h6⟩ := rTree_dest b6
 refine g2 ?_
 refine aL fun e3 => ?_
 refine sG 0 ?_
 refine g6a ?_
 intros
 refine sq rfl (TK.callS hD rfl rfl (entV call175 rfl rfl) (hcmp _ (mG h4) _ (mG h5) _ _ (rTree_mk (t := c1) h7) (rTree_mk (t := d3) h6)) ?_)
 rintro v0 ⟨r0, rfl, h9⟩
 refine g2 ?_
 refine cN ?_ ?_ <;> intro b4
 refine g4a ?_
 intros
 refine kP [] ?_
 refine rT results212 ?_
 exact ⟨rfl, _, rfl, fun h => by cases h⟩
 refine g4 ?_
 exact nK b5 ⟨i + 1, rfl, oM, (same_step hs h4 h5 (h9 (by simpa using b4))), rfl, rfl, rfl⟩
 refine g5a ?_
 intros
 refine rT results212 ?_
 exact ⟨rfl, _, rfl, fun _ => same_all hs oM oM⟩
theorem c175s {N : Nat} (ih : ∀ (t u : Tree) (H : Ghost) (cx cy : LV), t.size < N → rTree.rel H t cx → rTree.rel H u cy → Ct PP 175 #[.agg cx.toArray, .agg cy.toArray] H [] fun v H' O' => O' = [] ∧ ∃ r, v = .bool r ∧ (r = true → t = u)) {t u : Tree} (ht : t.size ≤ N) (hl : Sl rTree H t.l A n c) (hk : Sl rTree H u.l B m d) : Ct PP 175 #[.agg #[.int .i64 t.op, .string t.act, .slice A n c], .agg #[.int .i64 u.op, .string u.act, .slice B m d]] H [] fun v H' O' => O' = [] ∧ ∃ r, v = .bool r ∧ (r = true → t = u) := by
 refine cB func175 ntmps175 fun I hD hI h7 => ?_
 refine g2a ?_
 intros
 refine bG fun b2 => ?_
 refine bG fun b3 => ?_
 refine g10a ?_
 intros
 refine sD 10 ?_ ?_ <;> intro h5
 refine g7 ?_
 refine sD 17 ?_ ?_ <;> intro h6
 refine g4 ?_
 refine sqY rfl rfl rfl rfl (fS hD rfl call212 rfl (c212 hl hk (fun x hx y hy cx cy h1 h2 => ih x y _ _ _ (by have := size_mem hx; rw [Tree.size_l] at ht; omega) h1 h2)) ?_)
 rintro v9 ⟨r7, rfl, h4⟩
 refine g3 ?_
 refine kP [] ?_
 refine rT results175 ?_
 exact ⟨rfl, _, rfl, fun h => Tree.same (by first | assumption | simp_all) (by first | assumption | simp_all) (h4 h)⟩
 refine g8 ?_
 refine kP [] ?_
 refine rT results175 ?_
 exact ⟨rfl, _, rfl, fun h => by first | cases h | simp_all⟩
 refine g15 ?_
 refine kP [] ?_
 refine rT results175 ?_
 exact ⟨rfl, _, rfl, fun h => by first | cases h | simp_all⟩
theorem c175 : ∀ (N : Nat) (t u : Tree) (H : Ghost) (cx cy : LV), t.size < N → rTree.rel H t cx → rTree.rel H u cy → Ct PP 175 #[.agg cx.toArray, .agg cy.toArray] H [] fun v H' O' => O' = [] ∧ ∃ r, v = .bool r ∧ (r = true → t = u)
 | 0, _, _, _, _, _, h, _, _ => absurd h (Nat.not_lt_zero _)
 | N + 1, t, u, H, cx, cy, h, h1, h2 => by
  obtain ⟨A, n, c, rfl, hl⟩ := rTree_dest h1
  obtain ⟨B, m, d, rfl, hk⟩ := rTree_dest h2
  exact c175s (N := N) (fun t u H cx cy h h1 h2 => c175 N t u H cx cy h h1 h2) oM hl hk
end
end Go.Proofs.YtookcfeogbeooaaGreatDoor
