/-
Variants that are split among the parts of a cut, 2. Variants that are split among the parts of a cut. Trees that are discovered: the laws of their words and activities.
Conditions: those that each theorem states.
-/
import Derived.Test.YtookcfeogbeooaaGreatDoorM17
set_option linter.all false
set_option maxRecDepth 100000
set_option maxHeartbeats 8000000
set_option autoImplicit true
set_option relaxedAutoImplicit true
namespace Go.Proofs.YtookcfeogbeooaaGreatDoor
open Go Go.Proofs
section
theorem upto_step {α : Type} {P : α → Prop} {xs : List α} {i : Nat} {x : α} (h : ∀ (j : Nat) (y : α), j < i → xs[j]? = some y → P y) (hx : xs[i]? = some x) (hp : P x) : ∀ (j : Nat) (y : α), j < i + 1 → xs[j]? = some y → P y := by
 intro j y hj hy
 rcases Nat.lt_or_ge j i with h1 | h1
 ·exact h j y h1 hy
 ·obtain rfl : j = i := by omega
  rw [hx] at hy; cases hy; exact hp
theorem upto_nil {α : Type} {P : α → Prop} {xs : List α} : ∀ (j : Nat) (y : α), j < 0 → xs[j]? = some y → P y := fun j y h => by omega
theorem upto_mem {α : Type} {P : α → Prop} {xs : List α} {i : Nat} (h : ∀ (j : Nat) (y : α), j < i → xs[j]? = some y → P y) (hi : xs.length ≤ i) : ∀ y ∈ xs, P y := fun y hy => by
 obtain ⟨j, hj⟩ := List.getElem?_of_mem hy
 have := (gE hj).1
 exact h j y oM hj
def atC (k : Nat) (mbs : List Nat) : LV := mbs.map (fun b => Value.map (some b)) ++ List.replicate (k - mbs.length) (.map none)
theorem atC_len {k : Nat} {mbs : List Nat} (h : mbs.length ≤ k) : (atC k mbs).length = k := by simp [atC]; omega
theorem atC_set {k i : Nat} {mbs : List Nat} (hi : mbs.length = i) (h : i < k) : (atC k mbs).set (0 + i * 1) (.map (some b)) = atC k (mbs ++ [b]) := by
 subst hi
 obtain ⟨d, hd⟩ : ∃ d, k - mbs.length = d + 1 := ⟨k - mbs.length - 1, by omega⟩
 have h4 : k - (mbs.length + 1) = d := by omega
 rw [Nat.zero_add, Nat.mul_one]
 simp only [atC, List.length_append, List.length_cons, List.length_nil, hd, List.replicate_succ, List.map_append, List.map_cons, List.map_nil, List.append_assoc]
 rw [show k - (mbs.length + (0 + 1)) = d by omega, List.set_append_right _ _ (by simp)]
 simp
def pv0 (mbs : List Nat) : List PV := mbs.map fun b => ⟨none, 0, [], [], b⟩
theorem pvO_0 {k : Nat} {mbs : List Nat} (h : mbs.length = k) : List.replicate k (Value.slice none 0 0) = pvO (pv0 mbs) := by
 subst h
 induction mbs with
 | nil => rfl
 | cons b l ih => simp only [List.length_cons, List.replicate_succ, ih]; rfl
theorem pvA_0 {k : Nat} {mbs : List Nat} (h : mbs.length = k) : atC k mbs = pvA (pv0 mbs) := by
 subst h
 simp [atC, pvA, pv0, Function.comp_def]
theorem pvM_0 {mbs : List Nat} : mbs.map (fun b => (b, mapL Value.string (Value.int .i64) ([] : List (BA × Int)))) = pvM (pv0 mbs) := by simp [pvM, pv0]
theorem pvR_0 : ∀ x ∈ pvR (pv0 mbs), x = (.slice none 0 0, 0, []) := by
 intro x hx
 simp only [pvR, pv0, List.map_map, List.mem_map] at hx
 obtain ⟨b, _, rfl⟩ := hx
 rfl
theorem SpI.start {n : Nat} {mbs : List Nat} (h : mbs.length = n) : SpI pm n lv (pv0 mbs) 0 where
 len := by simp [pv0, h]
 pv p hp := by
  simp only [pv0, List.mem_map] at hp
  obtain ⟨b, _, rfl⟩ := hp
  exact ⟨fun j e h => by simp at h, fun k v h => by simp [mget] at h⟩
 wd k p hp e he := by
  have hp := mG hp
  simp only [pv0, List.mem_map] at hp
  obtain ⟨b, _, rfl⟩ := hp
  simp at he
 cnt p hp := by
  simp only [pv0, List.mem_map] at hp
  obtain ⟨b, _, rfl⟩ := hp
  simp
theorem allOk.start {H : Ghost} : allOk H (pv0 mbs) := by
 intro p hp e he
 simp only [pv0, List.mem_map] at hp
 obtain ⟨b, _, rfl⟩ := hp
 simp at he
section
variable {pm : List (BA × Int)} {n N k j : Nat} {lv : List Variant} {l : List PV} {p : PV} {w : LB} {e : VE} {H : Ghost}
theorem veOk.set {vs : List VE} {x : Int} (h : veOk H vs) (he : vs[j]? = some e) : veOk H (vs.set j { e with cnt := x }) := fun f hf => by
 rcases List.mem_or_eq_of_mem_set hf with hf | rfl
 ·exact h f hf
 ·exact h e (mG he)
theorem veOk.app {vs : List VE} {a : OA} {x : Int} (h : veOk H vs) (hs : Sl rStr H w a n0 c0) : veOk H (vs ++ [⟨a, n0, c0, w, x⟩]) := fun f hf => by
 rcases List.mem_append.1 hf with hf | hf
 ·exact h f hf
 ·simp at hf; subst hf; exact hs
theorem allOk.at_ (h : allOk H l) (hp : l[k]? = some p) : veOk H p.vs := h p (mG hp)
theorem allOk.cnt {x : Int} (h : allOk H l) (hp : l[k]? = some p) (he : p.vs[j]? = some e) : allOk H (l.set k { p with vs := p.vs.set j { e with cnt := x } }) := h.set ((h.at_ hp).set he)
theorem Has.now {q : Piece} {x : Int} (hp : l[q.part.toNat]? = some p) (he : p.vs[j]? = some e) (hw : e.w = q.word) : Has (l.set q.part.toNat { p with vs := p.vs.set j { e with cnt := x } }) q := by
 have h1 := (gE hp).1
 have h2 := (gE he).1
 exact ⟨{ p with vs := p.vs.set j { e with cnt := x } }, { e with cnt := x }, by rw [List.getElem?_set, if_pos rfl, if_pos h1], mG (i := j) (by rw [List.getElem?_set, if_pos rfl, if_pos h2]), hw⟩
theorem Has.app {q : Piece} {A : OA} {c : Nat} {f : VE} {m' : List (BA × Int)} (h : Has l q) (hp : l[k]? = some p) : Has (l.set k ⟨A, c, p.vs ++ [f], m', p.mb⟩) q :=
 h.set hp fun e he => ⟨e, List.mem_append_left _ he, rfl⟩
theorem take_ext {α : Type} {xs : List α} {x : α} {P P' : α → Prop} (h : ∀ q ∈ xs.take j, P q) (hx : xs[j]? = some x) (hP : ∀ q, P q → P' q) (hn : P' x) : ∀ q ∈ xs.take (j + 1), P' q := by
 rw [List.take_add_one, hx]
 intro q hq
 rcases List.mem_append.1 hq with hq | hq
 ·exact hP q (h q hq)
 ·simp at hq; subst hq; exact hn
def Gone (pm : List (BA × Int)) (kind : Int) (n : Nat) (lv : List Variant) (i : Nat) (l : List PV) : Prop := ∀ (u : Nat) (v : Variant), u < i → lv[u]? = some v → ∃ ps, SplitW pm kind n v.acts ps ∧ ∀ q ∈ ps, Has l q
theorem Gone.to {kind : Int} (h : Gone pm kind n lv i l) (hP : ∀ q, Has l q → Has l' q) : Gone pm kind n lv i l' := fun u v hu hv => by
 obtain ⟨ps, h1, h2⟩ := h u v hu hv
 exact ⟨ps, h1, fun q hq => hP q (h2 q hq)⟩
theorem Gone.next {kind : Int} (h : Gone pm kind n lv i l) (hx : lv[i]? = some x) (hs : SplitW pm kind n x.acts ps) {m : Nat} (hm : ps.length ≤ m) (hq : ∀ q ∈ ps.take m, Has l q) : Gone pm kind n lv (i + 1) l :=
 upto_step h hx ⟨ps, hs, fun q h1 => hq q (by rwa [List.take_of_length_le hm])⟩
theorem pvO_atA {b : Nat} (h : l[k]? = some p) (hA : p.A = some ⟨b, 0, none⟩) : (pvO l)[0 + k * 1 + 0]? = some (.slice (some ⟨b, 0, none⟩) p.vs.length p.c) := by rw [← hA]; exact pvO_at h
theorem pvR_atA {b : Nat} (h : l[k]? = some p) (hA : p.A = some ⟨b, 0, none⟩) : (pvR l)[k]? = some (.slice (some ⟨b, 0, none⟩) p.vs.length p.c, p.vs.length, veC p.vs) := by rw [← hA]; exact pvR_at h
theorem pvR_cntA {b : Nat} {x : Int} (he : p.vs[j]? = some e) (hA : p.A = some ⟨b, 0, none⟩) : (pvR l).set k (.slice (some ⟨b, 0, none⟩) p.vs.length p.c, p.vs.length, (veC p.vs).set (0 + j * 2 + 1) (.int .i64 x)) = pvR (l.set k { p with vs := p.vs.set j { e with cnt := x } }) := by rw [← hA]; exact pvR_cnt he
theorem pvR_same (h : l[k]? = some p) : (pvR l).set k (.slice p.A p.vs.length p.c, p.vs.length, veC p.vs) = pvR l := by
 have := pvR_at h
 apply List.ext_getElem?
 intro i
 rw [List.getElem?_set]
 split
 ·rename_i e; subst e; rw [if_pos (gE this).1, this]
 ·rfl
theorem okV_word (h : okV v = true) : v.acts.length ≤ 200 ∧ ∀ s ∈ v.acts, isName s = true := by
 unfold okV at h
 simp only [Bool.and_eq_true, decide_eq_true_eq, List.all_eq_true] at h
 exact ⟨h.1.1, h.1.2⟩
theorem validVs_word {v : Variant} (h : validVs lv = true) (hv : v ∈ lv) : v.acts.length ≤ 200 ∧ ∀ s ∈ v.acts, isName s = true := by
 unfold validVs at h
 simp only [Bool.and_eq_true, List.all_eq_true] at h
 exact okV_word (h.1.2 v hv)
theorem validVs_few (h : validVs lv = true) : lv.length ≤ 300 := by
 unfold validVs at h
 simp only [Bool.and_eq_true, decide_eq_true_eq] at h
 exact h.1.1
end
structure SrtI (H : Ghost) (l : List PV) (R : List RowT) (P : List (List Variant)) (u : Nat) : Prop where
 lenR : R.length = l.length
 lenP : P.length = l.length
 at_ : ∀ (k : Nat) (p : PV), l[k]? = some p → ∃ cs vs, R[k]? = some (.slice p.A p.vs.length p.c, p.vs.length, cs) ∧ P[k]? = some vs ∧ Reps rVariant H vs cs ∧ vs.Perm (p.vs.map toV)
 srt : ∀ (k : Nat) (vs : List Variant), k < u → P[k]? = some vs → vs.Pairwise (fun x y => ¬ cmpW y.acts x.acts < 0) ∧ vs.length ≤ 300
theorem SrtI.mono {H : Ghost} {l : List PV} (h : SrtI H l R P u) (hle : Ghost.le H H') : SrtI H' l R P u :=
 { h with at_ := fun k p hp => by obtain ⟨cs, vs, h1, h2, h3, h4⟩ := h.at_ k p hp; exact ⟨cs, vs, h1, h2, h3.mono hle, h4⟩ }
theorem SrtI.start {H : Ghost} {l : List PV} (h : allOk H l) : SrtI H l (pvR l) (l.map fun p => p.vs.map toV) 0 where
 lenR := by simp [pvR]
 lenP := by simp
 at_ k p hp := ⟨_, _, pvR_at hp, by simp [hp], ve_reps (h.at_ hp), .refl _⟩
 srt k vs hk := by omega
theorem SrtI.step {H : Ghost} {l : List PV} {vs : List Variant} (h : SrtI H l R P u) (hp : l[u]? = some p) (hP : P[u]? = some vs) (hv : vs.Perm (p.vs.map toV)) (hr : Reps rVariant H ys cs') (hy : ys.Perm vs) (hs : ys.Pairwise fun x y => ¬ cmpW y.acts x.acts < 0) (hn : p.vs.length ≤ 300) : SrtI H l (R.set u (.slice p.A p.vs.length p.c, p.vs.length, cs')) (P.set u ys) (u + 1) where
 lenR := by rw [List.length_set]; exact h.lenR
 lenP := by rw [List.length_set]; exact h.lenP
 at_ k q hq := by
  have hu := (gE hp).1
  by_cases e : u = k
  ·subst e
   rw [hp] at hq; cases hq
   refine ⟨cs', ys, ?_, ?_, hr, hy.trans hv⟩
   ·rw [List.getElem?_set, if_pos rfl, if_pos (by rw [h.lenR]; exact hu)]
   ·rw [List.getElem?_set, if_pos rfl, if_pos (by rw [h.lenP]; exact hu)]
  ·obtain ⟨a, b, h1, h2, h3⟩ := h.at_ k q hq
   exact ⟨a, b, by rw [List.getElem?_set, if_neg e]; exact h1, by rw [List.getElem?_set, if_neg e]; exact h2, h3⟩
 srt k ws hk hw := by
  rw [List.getElem?_set] at hw
  split at hw
  ·split at hw
   ·cases hw
    have := (hy.trans hv).length_eq
    exact ⟨hs, by rw [this, List.length_map]; exact hn⟩
   ·cases hw
  ·exact h.srt k ws oM hw
theorem split_done {l : List PV} (hI : SpI pm n lv l N) (hS : SrtI H l R P u) (hu : n ≤ u) (hG : Gone pm kind n lv lv.length l) (hrg : ∀ v ∈ lv, ∀ s ∈ v.acts, 0 ≤ pt pm s ∧ pt pm s < (n : Int)) : SplitR pm kind n lv P where
 rg := hrg
 len := hS.lenP.trans hI.len
 asc vs hvs := by
  obtain ⟨k, hk⟩ := List.getElem?_of_mem hvs
  have b4 := (gE hk).1
  rw [hS.lenP] at b4
  obtain ⟨cs, ws, h1, h2, h3, h4⟩ := hS.at_ k _ (List.getElem?_eq_getElem b4)
  rw [hk] at h2; cases h2
  refine asc_of h4 ?_ (hS.srt k vs (by rw [hI.len] at b4; omega) hk).1
  rw [List.map_map]
  exact hI.nodup (List.getElem?_eq_getElem b4)
 few vs hvs := by
  obtain ⟨k, hk⟩ := List.getElem?_of_mem hvs
  have b4 := (gE hk).1
  rw [hS.lenP, hI.len] at b4
  exact (hS.srt k vs oM hk).2
 wd k vs hk v hv := by
  have b4 := (gE hk).1
  rw [hS.lenP] at b4
  obtain ⟨cs, ws, h1, h2, h3, h4⟩ := hS.at_ k _ (List.getElem?_eq_getElem b4)
  rw [hk] at h2; cases h2
  obtain ⟨e, he, rfl⟩ := List.mem_map.1 (h4.mem_iff.1 hv)
  exact hI.wd k _ (List.getElem?_eq_getElem b4) e he
 has v hv := by
  obtain ⟨i, hi⟩ := List.getElem?_of_mem hv
  obtain ⟨ps, h1, h2⟩ := hG i v (gE hi).1 hi
  refine ⟨ps, h1, fun q hq => ?_⟩
  obtain ⟨p, e, h3, h4, h5⟩ := h2 q hq
  obtain ⟨cs, ws, h6, h7, h8, h9⟩ := hS.at_ _ p h3
  exact ⟨ws, h7, toV e, h9.mem_iff.2 (List.mem_map.2 ⟨e, h4, rfl⟩), h5⟩
theorem PartM.few {parts : List LB} {m : List (BA × Int)} {names : LB} (h : PartM parts m) (hs : ∀ p ∈ parts, ∀ s ∈ p, s ∈ names) : parts.length ≤ names.length := by
 have h1 : (parts.map fun p => p.headD ⟨#[]⟩).Nodup := by
  rw [List.nodup_iff_pairwise_ne, List.pairwise_map, List.pairwise_iff_getElem]
  intro i j hi hj h4 e
  have hm : ∀ (k : Nat) (hk : k < parts.length), parts[k].headD ⟨#[]⟩ ∈ parts[k] := fun k hk => by
   have := h.ne _ (List.getElem_mem hk)
   cases hp : parts[k] with
   | nil => exact absurd hp this
   | cons a r => simp
  have a := h.pt_of (List.getElem?_eq_getElem hi) (hm i hi)
  have b := h.pt_of (List.getElem?_eq_getElem hj) (hm j hj)
  rw [e, b] at a
  omega
 have h2 := nodup_sub h1 (ys := names) fun x hx => by
  obtain ⟨p, hp, rfl⟩ := List.mem_map.1 hx
  refine hs p hp _ ?_
  have := h.ne p hp
  cases p with
  | nil => exact absurd rfl this
  | cons a r => simp
 simpa using h2
instance : Mo (SrtI H l R P u) H H' (SrtI H' l R P u) := ⟨fun h e => h.mono e⟩
end
section
open Go.Proofs.Tryz
attribute [local irreducible] TK Yl OpK AnyT wpList Code.wp
theorem c115 {x y : Variant} (h1 : Sl rStr H x.acts A n c) (h2 : Sl rStr H y.acts B m d) : CtD PP 115 #[.agg #[.slice A n c, .int .i64 x.count], .agg #[.slice B m d, .int .i64 y.count]] H [] fun v H' O' => O' = [] ∧ v = .int .i64 (cmpW x.acts y.acts) := by
 refine cB func115 ntmps115 fun I hD hI h4 => ?_
 refine g2a ?_
 intros
 refine bG fun b2 => ?_
 refine bG fun b3 => ?_
 refine g8a ?_
 intros
 refine sq rfl (fS hD rfl call24 rfl (c24 h1 h2) ?_)
 rintro v5 rfl
 refine g2 ?_
 refine kP [] ?_
 refine rT results115 ?_
 exact ⟨rfl, rfl⟩
theorem c110b {n : Nat} {kind : Int} (hw : Sl rStr H w A nw cw) (hw200 : nw ≤ 200) (hn0 : 0 < n) (hn : n ≤ 1000) (hrg : ∀ s ∈ w, 0 ≤ pt m s ∧ pt m s < (n : Int)) : Ct PP 110 #[.slice A nw cw, .int .i64 kind, .int .i64 (n : Int), .map (some mb)] H [.map mb (mapL Value.string (Value.int .i64) m)] fun v H' O' => O' = [.map mb (mapL Value.string (Value.int .i64) m)] ∧ ∃ B k c r, v = .tuple #[.slice B k c, .bool r] ∧ (r = true → ∃ ps, Sl rPiece H' ps B k c ∧ SplitW m kind n w ps ∧ k ≤ 1000) :=
 (c110 hw hw200 hn0 hn hrg).mono fun v H' O' _ h => by
  obtain ⟨h0, h⟩ := h
  refine ⟨h0, ?_⟩
  rcases h with rfl | ⟨B, k, c, ps, rfl, h⟩
  ·exact ⟨_, _, _, _, rfl, fun h => by cases h⟩
  ·exact ⟨_, _, _, _, rfl, fun _ => ⟨ps, h⟩⟩
theorem cmpV_swo (x y z : Variant) : ¬ cmpW x.acts x.acts < 0 ∧ (cmpW x.acts y.acts < 0 → cmpW y.acts z.acts < 0 → cmpW x.acts z.acts < 0) ∧ (¬ cmpW x.acts y.acts < 0 → ¬ cmpW y.acts z.acts < 0 → ¬ cmpW x.acts z.acts < 0) := cmpW_lin.swo _ _ _
theorem srt_row {l : List PV} {N : Nat} (h : SrtI H l R P u) (hN : ∀ p ∈ l, p.vs.length ≤ N) (hb : N ≤ 140737488355328) {i : Nat} (hx : R[i]? = some x) (hy : P[i]? = some ys) : (∃ B c, x.1 = .slice B x.2.1 c) ∧ Reps rVariant H ys x.2.2 ∧ x.2.1 ≤ 140737488355328 := by
 have hi := (gE hx).1
 rw [h.lenR] at hi
 obtain ⟨cs, vs, h1, h2, h3, h4⟩ := h.at_ i _ (List.getElem?_eq_getElem hi)
 rw [hx] at h1; cases h1
 rw [hy] at h2; cases h2
 have := hN _ (List.getElem_mem hi)
 exact ⟨⟨_, _, rfl⟩, h3, by simp only; omega⟩
theorem reps_out : ∀ {l : List PV} {P : List (List Variant)}, l.length = P.length → (∀ (i : Nat) (p : PV) (ys : List Variant), l[i]? = some p → P[i]? = some ys → Sl rVariant H ys p.A p.vs.length p.c) → Reps (rSl rVariant) H P (pvO l)
 | [], [], _, _ => .nil
 | p :: l, ys :: P, hl, h => Reps.cons (r := rSl rVariant) (c := [_]) ⟨_, _, _, rfl, h 0 p ys rfl rfl⟩ (reps_out (by simpa using hl) fun i q zs hq hz => h (i + 1) q zs (by simpa using hq) (by simpa using hz))
 | [], _ :: _, hl, _ => by simp at hl
 | _ :: _, [], hl, _ => by simp at hl
theorem srt_out {l : List PV} (h : SrtI H l R P u) (hr : ∀ (i : Nat) (B : OA) (m c : Nat) (cs : LV) (ys : List Variant), R[i]? = some (.slice B m c, m, cs) → P[i]? = some ys → Sl rVariant H' ys B m c) : Reps (rSl rVariant) H' P (pvO l) :=
 reps_out h.lenP.symm fun i p ys hp hy => by
  obtain ⟨cs, vs, h1, h2, h3, h4⟩ := h.at_ i p hp
  exact hr i _ _ _ _ _ h1 hy
theorem c67 {C : Cut} (hv : Sl rVariant H lv A nv c) (hl : Sl (rSl rStr) H C.parts B K d) {names : LB} (hgc : ∀ p ∈ C.parts, ∀ s ∈ p, s ∈ names) (hn40 : names.length ≤ 1000) : Ct PP 67 #[.slice A nv c, .agg #[.int .i64 C.kind, .slice B K d]] H [] fun v H' O' => O' = [] ∧ ∃ Bo no co e, v = .tuple #[.slice Bo no co, .int .i64 e] ∧ (e ≠ 0 ∨ e = 0 ∧ ∃ P pm, Sl (rSl rVariant) H' P Bo no co ∧ SplitR pm C.kind K lv P ∧ PartM C.parts pm ∧ 2 ≤ K ∧ validVs lv = true) := by
 refine cB func67 ntmps67 fun I hD hI y2 => ?_
 refine g2a ?_
 intros
 refine bG fun b2 => ?_
 refine g5a ?_
 intros
 refine tSeal (i := 0) rfl fun H4 l6 b8 => ?_
 have ⟨hv, hl⟩ := mo2 l6 hv hl
 refine g1 ?_
 refine sq rfl (fO hD [] [] rfl call109 rfl (c109 hl (by have := hl.cap; have := hl.2.2.1; omega)) ?_)
 rintro v9 H9 O9 (⟨rfl, rfl⟩ | ⟨mb, pm, r9, rfl, rfl, k4, w1⟩) j9
 have ⟨hv, hl, b8⟩ := mo3 j9 hv hl b8
 refine g12b ?_
 intros
 refine g11a ?_
 intros
 refine r2 results67 ?_
 exact ⟨rfl, _, _, _, _, rfl, .inl dC⟩
 have ⟨hv, hl, b8⟩ := mo3 j9 hv hl b8
 have hK : K ≤ 1000 := by have := k4.few hgc; have := hl.len; omega
 refine g12b ?_
 intros
 refine sB 37 ?_ ?_ <;> intro n9
 refine g11a ?_
 intros
 refine kP [] ?_
 refine r2 results67 ?_
 exact ⟨rfl, _, _, _, _, rfl, .inl dC⟩
 refine g1 ?_
 refine sqY rfl rfl rfl rfl (fS hD rfl call9 rfl (c9 hv) ?_)
 rintro z1 rfl
 refine g3 ?_
 refine cN ?_ ?_ <;> intro o5
 refine g5a ?_
 intros
 refine kP [] ?_
 refine r2 results67 ?_
 exact ⟨rfl, _, _, _, _, rfl, .inl dC⟩
 have k6 : validVs lv = true := by simpa using o5
 have u6 := hv.len
 have v4 := validVs_few k6
 have u5 := w1 (by simpa using n9)
 refine g9b ?_
 intros
 refine lp1 (fun D f E H O m => ∃ (i0 : Nat), H9 = H ∧ (i0 ≤ nv) ∧ (∀ (u : Nat) (v : Variant), u < i0 → lv[u]? = some v → ∀ s ∈ v.acts, (mget pm s).isSome = true) ∧ m = nv - i0 ∧ O = [f] ∧ E = (44, .int .i64 (i0 : Int)) :: D) [0, 3, 6, 42, 43] [0] ⟨0, rfl, Nat.zero_le _, upto_nil, rfl, rfl, rfl⟩ ?_
 rintro _ _ _ _ ⟨i0, rfl, y0, i7, rfl, rfl, rfl⟩ _ l7
 refine g5b ?_
 intros
 refine cD ?_ ?_ <;> intro u2
 refine g5b ?_
 intros
 obtain ⟨u1, e9⟩ := eX hv i0
 obtain ⟨z9, A3, t7, t6, n2, s6⟩ := hv.at_ e9
 obtain ⟨A2, o8, c40, rfl, i6⟩ := n2
 refine g2 ?_
 refine aL fun y3 => ?_
 refine sG 0 ?_
 refine g9a ?_
 intros
 have y7 := i6.len
 have w8 := (validVs_word k6 (mG e9)).1
 refine lp2 (fun D f f1 E H O m => ∃ (j0 : Nat), H9 = H ∧ (j0 ≤ o8) ∧ (∀ (u : Nat) (s : BA), u < j0 → u1.acts[u]? = some s → (mget pm s).isSome = true) ∧ m = o8 - j0 ∧ O = [f, f1] ∧ E = (51, .int .i64 (j0 : Int)) :: D) [0, 3, 6, 42, 43, 44, 49, 50] [0, 1] ⟨0, rfl, Nat.zero_le _, upto_nil, rfl, rfl, rfl⟩ ?_
 rintro _ _ _ _ ⟨j0, rfl, z3, s2, rfl, rfl, rfl⟩ _ n8
 refine g5b ?_
 intros
 refine cD ?_ ?_ <;> intro w4
 refine g5b ?_
 intros
 obtain ⟨v3, j6⟩ := eX i6 j0
 obtain ⟨z8, y9, s9, s7⟩ := i6.atS j6
 refine g8a ?_
 intros
 refine q (yLookupOk (k := v3) (g := (Value.int .i64)) (z := 0) (i := 1) uC (keyStr uC) nC rfl rfl rfl) rfl rfl rfl ?_
 refine g11a ?_
 intros
 refine cN ?_ ?_ <;> intro l0
 refine g5a ?_
 intros
 refine kP [] ?_
 refine r2 results67 ?_
 exact ⟨rfl, _, _, _, _, rfl, .inl dC⟩
 refine g4 ?_
 exact nK n8 ⟨j0 + 1, rfl, oM, (upto_step s2 j6 (by simpa using l0)), rfl, rfl, rfl⟩
 refine g4 ?_
 exact nK l7 ⟨i0 + 1, rfl, oM, (upto_step i7 e9 (upto_mem s2 oM)), rfl, rfl, rfl⟩
 refine g6a ?_
 intros
 refine sq rfl (tMake uC iC rfl rfl rfl oM oM oM dC fun c0 => ?_)
 refine g7a ?_
 intros
 refine sq rfl (tMake uC iC rfl rfl rfl oM oM oM dC fun d3 => ?_)
 refine g10b ?_
 intros
 refine newMaps ?_
 refine eO4 (fun _ _ _ e3 => [.maps ([] : List MapT), .row 173 1 (.slice (ad d3) K K) K (atC K []), .row 22 1 (.slice (ad c0) K K) K (List.replicate K (.slice none 0 0)), e3]) ?_ (he := by simp [atC])
 refine lp2 (fun D f f1 E H O m => ∃ (i4 : Nat) (d8 : List Nat), H9 = H ∧ (i4 ≤ K) ∧ (d8.length = i4) ∧ m = K - i4 ∧ O = [.maps ((d8).map (fun b => (b, mapL Value.string (Value.int .i64) ([] : List (BA × Int))))), .row 173 1 (.slice (ad d3) K K) K (atC K d8), f, f1] ∧ E = (75, .int .i64 (i4 : Int)) :: D) [0, 3, 6, 14, 15, 74] [0, 1, 2, 3] ⟨0, [], rfl, Nat.zero_le _, rfl, rfl, rfl, rfl⟩ ?_
 rintro _ _ _ _ ⟨i4, d8, rfl, z5, t2, rfl, rfl, rfl⟩ _ l8
 refine g5b ?_
 intros
 refine cD ?_ ?_ <;> intro v5
 refine g11b ?_
 intros
 refine sq rfl (tMakeMap dC fun k5 => ?_)
 refine g1 ?_
 refine sq rfl (rS 2 ?_ (ho := by rw [atC_len oM]; omega))
 try simp only [Int.toNat_natCast, Nat.add_zero]
 rw [atC_set t2 oM]
 refine mapsAdd (q := 0) (O := [.maps ((d8).map (fun b => (b, mapL Value.string (Value.int .i64) ([] : List (BA × Int))))), .row 173 1 (.slice (ad d3) K K) K (atC K (d8 ++ [k5])), .row 22 1 (.slice (ad c0) K K) K (List.replicate K (.slice none 0 0)), .map mb (mapL Value.string (Value.int .i64) pm)]) rfl rfl ?_
 refine eO4 (fun _ _ _ e3 => [.maps ((d8 ++ [k5]).map (fun b => (b, mapL Value.string (Value.int .i64) ([] : List (BA × Int))))), .row 173 1 (.slice (ad d3) K K) K (atC K (d8 ++ [k5])), .row 22 1 (.slice (ad c0) K K) K (List.replicate K (.slice none 0 0)), e3]) ?_ (he := by simp [mapL])
 refine g4 ?_
 exact nK l8 ⟨i4 + 1, d8 ++ [k5], rfl, oM, (by simp; omega), rfl, rfl, rfl⟩
 refine g9b ?_
 intros
 have o4 : d8.length = K := by omega
 refine newRowsNil 26 2 (pvR (pv0 d8)) pvR_0 ?_
 rw [pvA_0 o4, pvO_0 o4, pvM_0]
 have u7 : Gone pm C.kind K lv 0 (pv0 d8) := upto_nil
 refine lp1 (fun D f E H O m => ∃ (i : Nat) (l : List PV), Ghost.le H9 H ∧ (i ≤ nv) ∧ (SpI pm K lv l (i * 1000)) ∧ (allOk H l) ∧ (Gone pm C.kind K lv i l) ∧ m = nv - i ∧ O = [.rows 26 2 (pvR (l)), .maps (pvM (l)), .row 173 1 (.slice (ad d3) K K) K (pvA l), .row 22 1 (.slice (ad c0) K K) K (pvO (l)), f] ∧ E = (85, .int .i64 (i : Int)) :: D) [3, 6, 14, 15, 83, 84] [0, 1, 2, 3, 4] ⟨0, pv0 d8, Ghost.le.refl _, Nat.zero_le _, (SpI.start o4), allOk.start, u7, rfl, rfl, rfl⟩ ?_
 rintro _ H2 _ _ ⟨i, l, e7, hi, hI, d7, hG, rfl, rfl, rfl⟩ _ k8
 have ⟨hv, b8, hl⟩ := mo3 e7 hv b8 hl
 refine g5b ?_
 intros
 refine cD ?_ ?_ <;> intro t3
 refine g5b ?_
 intros
 obtain ⟨b5, e0⟩ := eX hv i
 obtain ⟨z4, z2, s0, o7, j1, d4⟩ := hv.at_ e0
 obtain ⟨A1, n1, c106, rfl, h4⟩ := j1
 refine g2 ?_
 refine aL fun d1 => ?_
 refine sG 0 ?_
 refine g11a ?_
 intros
 have v6 := validVs_word k6 (mG e0)
 have y1 := h4.len
 have j3 : ∀ s ∈ b5.acts, 0 ≤ pt pm s ∧ pt pm s < (K : Int) := fun s hs => by have := k4.lt (upto_mem i7 oM _ (mG e0) s hs); have := hl.len; omega
 refine sq rfl (fO hD [5] [0, 1, 2, 3, 4] rfl call110 rfl (c110b h4 oM oM hK j3) ?_)
 rintro w6 H1 O2 ⟨rfl, Bp, np, cp, rp, rfl, n6⟩ e1
 have ⟨b8, hv, d4, h4, hl, d7⟩ := mo6 e1 b8 hv d4 h4 hl d7
 refine g12b ?_
 intros
 refine cN ?_ ?_ <;> intro j2
 refine g5a ?_
 intros
 refine kP [] ?_
 refine r2 results67 ?_
 exact ⟨rfl, _, _, _, _, rfl, .inl dC⟩
 obtain ⟨ps, e4, s3, z0⟩ := n6 (by simpa using j2)
 have z7 := e4.len
 have u4 := s3.piece j3
 refine g8a ?_
 intros
 refine lp2 (fun D f f1 E H O m => ∃ (j : Nat) (l2 : List PV), Ghost.le H1 H ∧ (j ≤ np) ∧ (SpI pm K lv l2 (i * 1000 + j)) ∧ (allOk H l2) ∧ (Gone pm C.kind K lv i l2) ∧ (∀ q ∈ ps.take j, Has l2 q) ∧ m = np - j ∧ O = [f, f1, .rows 26 2 (pvR (l2)), .maps (pvM (l2)), .row 173 1 (.slice (ad d3) K K) K (pvA l2), .row 22 1 (.slice (ad c0) K K) K (pvO (l2))] ∧ E = (105, .int .i64 (j : Int)) :: D) [3, 6, 14, 15, 18, 83, 84, 85, 103, 104] [0, 1, 2, 3, 4, 5] ⟨0, l, Ghost.le.refl _, Nat.zero_le _, hI, d7, hG, (by simp), rfl, rfl, rfl⟩ ?_
 rintro _ _ _ _ ⟨j, l2, h9, hj, f8, b9, l3, i5, rfl, rfl, rfl⟩ _ e8
 have ⟨b8, hv, d4, h4, hl, e4, d7⟩ := mo7 h9 b8 hv d4 h4 hl e4 d7
 refine g5b ?_
 intros
 refine cD ?_ ?_ <;> intro r8
 refine g5b ?_
 intros
 obtain ⟨b4, d5⟩ := eX e4 j
 obtain ⟨v7, v8, r4, r0, k2, d6⟩ := e4.at_ d5
 obtain ⟨A0, n0, c140, rfl, h8⟩ := k2
 refine g2 ?_
 refine aL fun c1 => ?_
 refine sG 0 ?_
 refine g5a ?_
 intros
 have k3 := u4 _ (mG d5)
 have y8 := h8.len
 have n4 : ∀ s ∈ b4.word, isName s = true := fun s hs => v6.2 s (k3.2.2.1 s hs).2
 have y4 := k3.2.2.2
 obtain ⟨p, hp⟩ := ex_i (l := l2) (i := (b4.part : Int).toNat) (by rw [f8.len]; omega)
 have r3 := f8.cnt p (mG hp)
 have t5 : b4.word.length ≤ 200 ∧ ∀ s ∈ b4.word, pt pm s = ((b4.part.toNat : Nat) : Int) ∧ isName s = true ∧ ∃ v ∈ lv, s ∈ v.acts := ⟨by omega, fun s hs => ⟨by rw [(k3.2.2.1 s hs).1]; omega, n4 s hs, _, mG e0, (k3.2.2.1 s hs).2⟩⟩
 refine sq rfl (fP hD rfl call111 rfl (c111 h8 rfl rfl (fun s hs => isName_size (n4 s hs)) oM) ?_)
 rintro v1 H3 ⟨rfl, rfl⟩ d2
 have ⟨b8, hv, e4, d6, h8, h4, hl, d7, b9⟩ := mo9 d2 b8 hv e4 d6 h8 h4 hl d7 b9
 refine g8a ?_
 intros
 refine q (yLoad1 aC rfl (Mem.row1 (i := 5) rfl (pvA_at hp))) rfl rfl rfl ?_
 refine g1 ?_
 refine q (Yl.mapOut (q := 4) (i := (b4.part : Int).toNat) rfl (pvM_at hp) (yLookupOk (m := p.m) (k := joinB b4.word) (g := Value.int .i64) (z := 0) (i := 0) uC (keyStr uC) nC rfl rfl rfl)) rfl rfl rfl ?_
 refine g12b ?_
 intros
 refine cN ?_ ?_ <;> intro e6
 refine g6a ?_
 intros
 refine q (yLoad1 aC rfl (Mem.row1 (i := 6) rfl (pvO_at hp))) rfl rfl rfl ?_
 refine g9a ?_
 intros
 refine q (yLoad1 aC rfl (Mem.row1 (i := 5) rfl (pvA_at hp))) rfl rfl rfl ?_
 refine g2 ?_
 refine sq rfl (TK.mapOut (O := [.blk c1 187 [.int .i64 b4.part, .slice A0 n0 c140], .map mb (mapL Value.string (Value.int .i64) pm), .blk d1 26 [.slice A1 n1 c106, .int .i64 b5.count], .rows 26 2 (pvR (l2)), .maps (pvM (l2)), .row 173 1 (.slice (ad d3) K K) K (pvA l2), .row 22 1 (.slice (ad c0) K K) K (pvO (l2))]) (q := 4) (i := (b4.part : Int).toNat) rfl (pvM_at hp) (tMapUpd (m := p.m) (k := joinB b4.word) (g := Value.int .i64) (v := ((p.vs.length : Nat) : Int)) (i := 0) uC (keyStr uC) rfl rfl rfl rfl (TK.mapIn (O := [.blk c1 187 [.int .i64 b4.part, .slice A0 n0 c140], .map mb (mapL Value.string (Value.int .i64) pm), .blk d1 26 [.slice A1 n1 c106, .int .i64 b5.count], .rows 26 2 (pvR (l2)), .maps (pvM (l2)), .row 173 1 (.slice (ad d3) K K) K (pvA l2), .row 22 1 (.slice (ad c0) K K) K (pvO (l2))]) (q := 4) (i := (b4.part : Int).toNat) rfl (pvM_at hp) rfl ?_)))
 rw [pvM_put]
 refine g1 ?_
 refine tss (.cons_cons _ (.cons_cons _ (.cons_cons _ (.cons _ (.cons_cons _ (.cons_cons _ (.cons_cons _ (List.nil_sublist _)))))))) 14 fun _ => ?_
 refine tj 0 ?_
 refine g6 ?_
 refine tk 7 rfl kR aS nP kS (yLoad1 aC rfl (Mem.row1 (i := 5) rfl (pvO_at hp))) rfl rfl rfl ?_
 refine g2 ?_
 refine oI 10 rfl kR (fT hD [] [0, 1, 2, 3, 4, 5, 6] rfl call112 rfl (c112 h8 oM) ?_)
 rintro w0 O3 ⟨Ac, cc, z6, rfl, t4, rfl⟩
 refine tR 0 t4 fun H0 h6 k0 => ?_
 have ⟨b8, hv, e4, d6, h8, h4, hl, d7, b9⟩ := mo9 h6 b8 hv e4 d6 h8 h4 hl d7 b9
 refine ta_next (kG h6) ?_
 refine tk 11 rfl kR aS nP (kG h6) (yBuild bC rfl rfl) rfl rfl rfl ?_
 refine oI 12 rfl kR (bS [.slice Ac n0 cc, .int .i64 0] fun e5 => ?_)
 refine ta_next (kG h6) ?_
 refine oI 13 rfl kR (TK.rowOut (O := [.row 26 2 (.slice (ad e5) 1 1) 1 [.slice Ac n0 cc, .int .i64 0], .blk c1 187 [.int .i64 b4.part, .slice A0 n0 c140], .map mb (mapL Value.string (Value.int .i64) pm), .blk d1 26 [.slice A1 n1 c106, .int .i64 b5.count], .rows 26 2 (pvR (l2)), .maps (pvM (l2.set (b4.part : Int).toNat { p with m := mput p.m (joinB b4.word) ((p.vs.length : Nat) : Int) })), .row 173 1 (.slice (ad d3) K K) K (pvA l2), .row 22 1 (.slice (ad c0) K K) K (pvO (l2))]) (q := 4) (i := (b4.part : Int).toNat) rfl (pvR_at hp) (tAppend hD (i := 0) (m := p.vs.length) (news := [.slice Ac n0 cc, .int .i64 0]) rfl uC In26 rfl dC rfl rfl (Mem.row (i := 1) rfl rfl) rfl oC oM oM dC fun An cn => TK.rowIn (O := [.row 26 2 (.slice (ad e5) 1 1) 1 [.slice Ac n0 cc, .int .i64 0], .blk c1 187 [.int .i64 b4.part, .slice A0 n0 c140], .map mb (mapL Value.string (Value.int .i64) pm), .blk d1 26 [.slice A1 n1 c106, .int .i64 b5.count], .rows 26 2 (pvR (l2)), .maps (pvM (l2.set (b4.part : Int).toNat { p with m := mput p.m (joinB b4.word) ((p.vs.length : Nat) : Int) })), .row 173 1 (.slice (ad d3) K K) K (pvA l2), .row 22 1 (.slice (ad c0) K K) K (pvO (l2))]) (q := 4) (i := (b4.part : Int).toNat) (y := (.slice An (p.vs.length + 1) cn, p.vs.length + 1, veC p.vs ++ [.slice Ac n0 cc, .int .i64 0])) rfl (pvR_at hp) rfl ?_))
 rw [pvR_new (w := b4.word) (m' := mput p.m (joinB b4.word) ((p.vs.length : Nat) : Int))]
 refine ta_next (kG h6) ?_
 refine g2 ?_
 refine sq rfl (rS 7 ?_ (ho := by simp [pvO, f8.len]; omega))
 rw [Nat.add_zero, pvO_new (w := b4.word) (m' := mput p.m (joinB b4.word) ((p.vs.length : Nat) : Int))]
 refine g1 ?_
 have j7 : mget p.m (joinB b4.word) = none := by have h := e6; cases hm : mget p.m (joinB b4.word) with | none => rfl | some v => rw [hm] at h; simp at h
 rw [pvM_new (A := An) (c := cn) (vs := (⟨An, cn, p.vs ++ [⟨Ac, n0, cc, b4.word, 0⟩], mput p.m (joinB b4.word) ((p.vs.length : Nat) : Int), p.mb⟩ : PV).vs)]
 rw [← pvA_new (A := An) (c := cn) (vs := (⟨An, cn, p.vs ++ [⟨Ac, n0, cc, b4.word, 0⟩], mput p.m (joinB b4.word) ((p.vs.length : Nat) : Int), p.mb⟩ : PV).vs) (m' := mput p.m (joinB b4.word) ((p.vs.length : Nat) : Int)) hp]
 obtain ⟨P1, i9⟩ : ∃ P1 : PV, P1 = (⟨An, cn, p.vs ++ [⟨Ac, n0, cc, b4.word, 0⟩], mput p.m (joinB b4.word) ((p.vs.length : Nat) : Int), p.mb⟩ : PV) := ⟨_, rfl⟩
 rw [← i9]
 have h5 : (l2.set (b4.part : Int).toNat P1)[(b4.part : Int).toNat]? = some P1 := by rw [List.getElem?_set, if_pos rfl, if_pos (gE hp).1]
 have j4 : SpI pm K lv (l2.set (b4.part : Int).toNat P1) (i * 1000 + j + 1) := by rw [i9]; exact f8.new hp j7 t5
 have i8 : allOk H0 (l2.set (b4.part : Int).toNat P1) := by rw [i9]; exact b9.set ((b9.at_ hp).app k0)
 have k7 : Gone pm C.kind K lv i (l2.set (b4.part : Int).toNat P1) := by rw [i9]; exact l3.to fun q hq => hq.app hp
 have o6 : ∀ q ∈ ps.take j, Has (l2.set (b4.part : Int).toNat P1) q := by rw [i9]; exact fun q hq => (i5 q hq).app hp
 obtain ⟨e, d0, n5⟩ : ∃ e : VE, P1.vs[p.vs.length]? = some e ∧ e.w = b4.word := ⟨(⟨Ac, n0, cc, b4.word, 0⟩ : VE), by rw [i9]; simp, rfl⟩
 have l5 := (gE d0).1
 have n3 := j4.cnt _ (mG h5)
 refine TK.rowOut (O := [.row 26 2 (.slice (ad e5) 1 1) 1 [.slice Ac n0 cc, .int .i64 0], .blk c1 187 [.int .i64 b4.part, .slice A0 n0 c140], .map mb (mapL Value.string (Value.int .i64) pm), .blk d1 26 [.slice A1 n1 c106, .int .i64 b5.count], .rows 26 2 (pvR (l2.set (b4.part : Int).toNat P1)), .maps (pvM (l2.set (b4.part : Int).toNat P1)), .row 173 1 (.slice (ad d3) K K) K (pvA (l2.set (b4.part : Int).toNat P1)), .row 22 1 (.slice (ad c0) K K) K (pvO (l2.set (b4.part : Int).toNat P1))]) (q := 4) (i := (b4.part : Int).toNat) rfl (pvR_at h5) (row_addr (i := 0) rfl (Nat.lt_of_le_of_lt (Nat.zero_le _) l5) fun bA e2 => TK.rowIn (O := [.row 26 2 (.slice (ad e5) 1 1) 1 [.slice Ac n0 cc, .int .i64 0], .blk c1 187 [.int .i64 b4.part, .slice A0 n0 c140], .map mb (mapL Value.string (Value.int .i64) pm), .blk d1 26 [.slice A1 n1 c106, .int .i64 b5.count], .rows 26 2 (pvR (l2.set (b4.part : Int).toNat P1)), .maps (pvM (l2.set (b4.part : Int).toNat P1)), .row 173 1 (.slice (ad d3) K K) K (pvA (l2.set (b4.part : Int).toNat P1)), .row 22 1 (.slice (ad c0) K K) K (pvO (l2.set (b4.part : Int).toNat P1))]) (q := 4) (i := (b4.part : Int).toNat) rfl (pvR_at h5) rfl ?_)
 rw [pvR_same h5]
 refine ts 11 fun _ => ?_
 refine tj 0 ?_
 refine g3 ?_
 refine tk 4 rfl kR aS nP kS (yLoad1 aC rfl (Mem.row1 (i := 7) rfl (pvO_atA h5 e2))) rfl rfl rfl ?_
 refine g3 ?_
 refine tk 8 rfl kR aS nP kS (yLoad1 aC rfl (Mem.rows1 (q := 4) rfl (pvR_atA h5 e2) (veC_at d0).2)) rfl rfl rfl ?_
 refine g6 ?_
 refine sq rfl (tStoreRows1 (q := 4) rfl (pvR_atA h5 e2) sC rfl rfl rfl (by rw [veC_len]; omega) ?_)
 try simp only [Int.toNat_natCast]
 rw [pvR_cntA (x := IntKind.i64.wrap (e.cnt + b5.count)) d0 e2]
 rw [← pvO_cnt (j := p.vs.length) (e := { e with cnt := IntKind.i64.wrap (e.cnt + b5.count) }) h5]
 rw [← pvA_cnt (vs := P1.vs.set p.vs.length { e with cnt := IntKind.i64.wrap (e.cnt + b5.count) }) h5]
 rw [← pvM_cnt (vs := P1.vs.set p.vs.length { e with cnt := IntKind.i64.wrap (e.cnt + b5.count) }) h5]
 have l1 := j4.count (x := IntKind.i64.wrap (e.cnt + b5.count)) h5 d0
 have f9 := i8.cnt (x := IntKind.i64.wrap (e.cnt + b5.count)) h5 d0
 have l9 := k7.to fun q hq => hq.count (x := IntKind.i64.wrap (e.cnt + b5.count)) h5 d0
 have d9 := take_ext (P' := Has ((l2.set (b4.part : Int).toNat P1).set (b4.part : Int).toNat { P1 with vs := P1.vs.set p.vs.length { e with cnt := IntKind.i64.wrap (e.cnt + b5.count) } })) o6 d5 (fun q hq => hq.count (x := IntKind.i64.wrap (e.cnt + b5.count)) h5 d0) (Has.now h5 d0 n5)
 refine g4 ?_
 exact nK e8 ⟨j + 1, (l2.set (b4.part : Int).toNat P1).set (b4.part : Int).toNat { P1 with vs := P1.vs.set p.vs.length { e with cnt := IntKind.i64.wrap (e.cnt + b5.count) } }, ((h9.trans d2).trans h6), oM, (l1.mono oM), f9, l9, d9, rfl, rfl, rfl⟩
 refine g1 ?_
 obtain ⟨vk, r1⟩ := Option.isSome_iff_exists.1 (show (mget p.m (joinB b4.word)).isSome = true by simpa using e6)
 obtain ⟨jj, e, rfl, d0, n5⟩ := f8.known hp r1 n4
 have w3 : (mget p.m (joinB b4.word)).getD 0 = (jj : Int) := by rw [r1]; rfl
 rw [w3]
 have h5 := hp
 have j4 := f8.mono (Nat.le_succ _)
 have i8 := b9
 have k7 := l3
 have o6 := i5
 have l5 := (gE d0).1
 have n3 := j4.cnt _ (mG h5)
 refine TK.rowOut (O := [.blk c1 187 [.int .i64 b4.part, .slice A0 n0 c140], .map mb (mapL Value.string (Value.int .i64) pm), .blk d1 26 [.slice A1 n1 c106, .int .i64 b5.count], .rows 26 2 (pvR (l2)), .maps (pvM (l2)), .row 173 1 (.slice (ad d3) K K) K (pvA l2), .row 22 1 (.slice (ad c0) K K) K (pvO (l2))]) (q := 3) (i := (b4.part : Int).toNat) rfl (pvR_at h5) (row_addr (i := 0) rfl (Nat.lt_of_le_of_lt (Nat.zero_le _) l5) fun bA e2 => TK.rowIn (O := [.blk c1 187 [.int .i64 b4.part, .slice A0 n0 c140], .map mb (mapL Value.string (Value.int .i64) pm), .blk d1 26 [.slice A1 n1 c106, .int .i64 b5.count], .rows 26 2 (pvR (l2)), .maps (pvM (l2)), .row 173 1 (.slice (ad d3) K K) K (pvA l2), .row 22 1 (.slice (ad c0) K K) K (pvO (l2))]) (q := 3) (i := (b4.part : Int).toNat) rfl (pvR_at h5) rfl ?_)
 rw [pvR_same h5]
 refine ts 11 fun _ => ?_
 refine tj 0 ?_
 refine g3 ?_
 refine tk 4 rfl kR aS nP kS (yLoad1 aC rfl (Mem.row1 (i := 6) rfl (pvO_atA h5 e2))) rfl rfl rfl ?_
 refine g3 ?_
 refine tk 8 rfl kR aS nP kS (yLoad1 aC rfl (Mem.rows1 (q := 3) rfl (pvR_atA h5 e2) (veC_at d0).2)) rfl rfl rfl ?_
 refine g6 ?_
 refine sq rfl (tStoreRows1 (q := 3) rfl (pvR_atA h5 e2) sC rfl rfl rfl (by rw [veC_len]; omega) ?_)
 try simp only [Int.toNat_natCast]
 rw [pvR_cntA (x := IntKind.i64.wrap (e.cnt + b5.count)) d0 e2]
 rw [← pvO_cnt (j := jj) (e := { e with cnt := IntKind.i64.wrap (e.cnt + b5.count) }) h5]
 rw [← pvA_cnt (vs := p.vs.set jj { e with cnt := IntKind.i64.wrap (e.cnt + b5.count) }) h5]
 rw [← pvM_cnt (vs := p.vs.set jj { e with cnt := IntKind.i64.wrap (e.cnt + b5.count) }) h5]
 have l1 := j4.count (x := IntKind.i64.wrap (e.cnt + b5.count)) h5 d0
 have f9 := i8.cnt (x := IntKind.i64.wrap (e.cnt + b5.count)) h5 d0
 have l9 := k7.to fun q hq => hq.count (x := IntKind.i64.wrap (e.cnt + b5.count)) h5 d0
 have d9 := take_ext (P' := Has ((l2).set (b4.part : Int).toNat { p with vs := p.vs.set jj { e with cnt := IntKind.i64.wrap (e.cnt + b5.count) } })) o6 d5 (fun q hq => hq.count (x := IntKind.i64.wrap (e.cnt + b5.count)) h5 d0) (Has.now h5 d0 n5)
 refine g4 ?_
 exact nK e8 ⟨j + 1, (l2).set (b4.part : Int).toNat { p with vs := p.vs.set jj { e with cnt := IntKind.i64.wrap (e.cnt + b5.count) } }, (h9.trans d2), oM, (l1.mono oM), f9, l9, d9, rfl, rfl, rfl⟩
 refine g4 ?_
 exact TK.nil (wP [2, 3, 4, 5, 0] [1] 6 (k8 _ _ _ _ ⟨i + 1, l2, ((e7.trans e1).trans h9), oM, (f8.mono (by rw [Nat.add_mul]; omega)), b9, (l3.next e0 s3 oM i5), rfl, rfl, rfl⟩ oM))
 refine g9b ?_
 intros
 refine lp2 (fun D f f1 E H O m => ∃ (u0 : Nat), H2 = H ∧ (u0 ≤ K) ∧ m = K - u0 ∧ O = [f, f1] ∧ E = (170, .int .i64 (u0 : Int)) :: D) [14, 168, 169] [0, 3] ⟨0, rfl, Nat.zero_le _, rfl, rfl, rfl⟩ ?_
 rintro _ _ _ _ ⟨u0, rfl, y5, rfl, rfl, rfl⟩ _ j5
 refine g5b ?_
 intros
 refine cD ?_ ?_ <;> intro o9
 refine g6b ?_
 intros
 obtain ⟨j8, h7⟩ := ex_i (l := l) (i := u0) (by rw [hI.len]; omega)
 have r3 := hI.cnt j8 (mG h7)
 refine q (yLoad1 aC rfl (Mem.row1 (i := 1) rfl (pvO_at h7))) rfl rfl rfl ?_
 refine g5a ?_
 intros
 refine TK.rowOut (O := [.rows 26 2 (pvR (l)), .row 22 1 (.slice (ad c0) K K) K (pvO (l))]) (q := 0) (i := u0) rfl (pvR_at h7) ?_
 refine sq rfl (fR hD [0] [1, 2] rfl call5 rfl (c5v (g := 113) (caps := []) rfl oM call113 (fun _ _ _ _ => c113)) ?_)
 rintro v2 ⟨r5, rfl⟩
 refine TK.rowIn (O := [.rows 26 2 (pvR (l)), .row 22 1 (.slice (ad c0) K K) K (pvO (l))]) (q := 0) (i := u0) rfl (pvR_at h7) rfl ?_
 rw [pvR_same h7]
 refine g1 ?_
 refine cN ?_ ?_ <;> intro r6
 refine g5a ?_
 intros
 refine kP [] ?_
 refine r2 results67 ?_
 exact ⟨rfl, _, _, _, _, rfl, .inl dC⟩
 refine g4 ?_
 exact nK j5 ⟨u0 + 1, rfl, oM, rfl, rfl, rfl⟩
 refine g9b ?_
 intros
 have s8 := SrtI.start d7
 refine lp1 (fun D f E H O m => ∃ (u : Nat) (R : List RowT) (P : List (List Variant)), H2 = H ∧ (u ≤ K) ∧ (SrtI H2 l R P u) ∧ m = K - u ∧ O = [.rows 26 2 R, f] ∧ E = (179, .int .i64 (u : Int)) :: D) [14, 177, 178] [0, 1] ⟨0, pvR l, (l.map fun p => p.vs.map toV), rfl, Nat.zero_le _, s8, rfl, rfl, rfl⟩ ?_
 rintro _ _ _ _ ⟨u, R, P, rfl, hu, hS, rfl, rfl, rfl⟩ _ k1
 refine g5b ?_
 intros
 refine cD ?_ ?_ <;> intro s4
 refine g6b ?_
 intros
 obtain ⟨b6, b7⟩ := ex_i (l := l) (i := u) (by rw [hI.len]; omega)
 have r3 := hI.cnt b6 (mG b7)
 refine q (yLoad1 aC rfl (Mem.row1 (i := 1) rfl (pvO_at b7))) rfl rfl rfl ?_
 refine g9b ?_
 intros
 refine cD ?_ ?_ <;> intro r7
 refine g5a ?_
 intros
 refine kP [] ?_
 refine r2 results67 ?_
 exact ⟨rfl, _, _, _, _, rfl, .inl dC⟩
 refine g3 ?_
 obtain ⟨cs, vs, hR, hP, t1, w9⟩ := hS.at_ _ _ b7
 refine TK.rowOut (O := [.rows 26 2 R, .row 22 1 (.slice (ad c0) K K) K (pvO (l))]) (q := 0) (i := u) rfl hR ?_
 refine sq rfl (fT hD [0] [1, 2] rfl call114 rfl (sortAll (r := rVariant) (caps := []) law114 (fun {_ _ _ _} => c114z) rfl dC t1 oM (fun x y => cmpW x.acts y.acts) (fun x _ y _ z _ => cmpV_swo x y z) call115 (fun x _ y _ cx cy hx hy => by obtain ⟨_, _, _, rfl, h1⟩ := hx; obtain ⟨_, _, _, rfl, h2⟩ := hy; exact c115 h1 h2)) ?_)
 rintro v0 O1 ⟨ys, s5, rfl, n7, t9, t8⟩
 have w2 := hS.step b7 hP w9 n7 t9 t8 oM
 refine TK.rowIn (O := [.rows 26 2 R, .row 22 1 (.slice (ad c0) K K) K (pvO (l))]) (q := 0) (i := u) (y := (.slice b6.A b6.vs.length b6.c, b6.vs.length, s5)) rfl hR rfl ?_
 refine g4 ?_
 exact nK k1 ⟨u + 1, R.set u (.slice b6.A b6.vs.length b6.c, b6.vs.length, s5), P.set u ys, rfl, oM, w2, rfl, rfl, rfl⟩
 refine g7a ?_
 intros
 have y6 := hI.len
 refine tSealRows (r := rVariant) (q := 0) dC (hS.lenR.trans hS.lenP.symm) rfl (fun i x ys hx hy => srt_row hS (N := 300000) (fun p hp => by have := hI.cnt p hp; omega) oM hx hy) fun H7 k9 w7 => ?_
 have ⟨hv, hl, b8, d7⟩ := mo4 k9 hv hl b8 d7
 refine tR 0 (r := rSl rVariant) (ys := P) (srt_out hS w7) fun H8 l4 w5 => ?_
 have ⟨hv, hl, b8, d7⟩ := mo4 l4 hv hl b8 d7
 have u3 := split_done hI hS oM (by rw [u6]; exact (show i = nv by omega) ▸ hG) (fun v u9 s hs => by have := k4.lt (upto_mem i7 oM v u9 s hs); have := hl.len; omega)
 refine r2 results67 ?_
 exact ⟨rfl, _, _, _, _, rfl, .inr ⟨rfl, P, pm, w5, u3, k4, u5, k6⟩⟩
end
section
structure TreeOf (lv : List Variant) (t : Tree) : Prop where
 leaf : ∀ s, s ∈ leafs t ↔ ∃ v ∈ lv, s ∈ v.acts
 lang : ∀ v ∈ lv, Lang t v.acts
abbrev noB : BA := ⟨#[]⟩
def onceV (v : Variant) : Variant := ⟨v.acts, 1⟩
theorem TreeOf.once {lv : List Variant} {t : Tree} (h : TreeOf (lv.map onceV) t) : TreeOf lv t where
 leaf s := by
  rw [h.leaf]
  constructor
  ·rintro ⟨v, hv, hs⟩; obtain ⟨u, hu, rfl⟩ := List.mem_map.1 hv; exact ⟨u, hu, hs⟩
  ·rintro ⟨v, hv, hs⟩; exact ⟨onceV v, List.mem_map.2 ⟨v, hv, rfl⟩, hs⟩
 lang v hv := h.lang (onceV v) (List.mem_map.2 ⟨v, hv, rfl⟩)
theorem TreeOf.none {a : BA} : TreeOf [] (.mk 2 a []) := ⟨fun s => by simp [leafs, leafsL], fun v hv => by simp at hv⟩
theorem TreeOf.empty {a : BA} {v : Variant} (h : v.acts = []) : TreeOf [v] (.mk 2 a []) :=
 ⟨fun s => by simp [leafs, leafsL, h], fun u hu => by simp at hu; subst hu; rw [h]; exact Lang.silent⟩
theorem TreeOf.leaf1 {v : Variant} {s : BA} (h : v.acts = [s]) : TreeOf [v] (.mk 1 s []) :=
 ⟨fun x => by simp [leafs, leafsL, h], fun u hu => by simp at hu; subst hu; rw [h]; exact Lang.act⟩
theorem TreeOf.skip {v : Variant} {t : Tree} {a b : BA} (hv : v.acts = []) (h : TreeOf lv t) : TreeOf (v :: lv) (.mk 4 b [.mk 2 a [], t]) where
 leaf s := by
  rw [leafs, if_neg dC, List.nil_append, leafsL_mem]
  constructor
  ·rintro ⟨x, hx, hs⟩
   simp only [List.mem_cons, List.mem_nil_iff, or_false] at hx
   rcases hx with rfl | rfl
   ·simp [leafs, leafsL] at hs
   ·obtain ⟨u, hu, hs⟩ := (h.leaf s).1 hs; exact ⟨u, by simp [hu], hs⟩
  ·rintro ⟨u, hu, hs⟩
   rcases List.mem_cons.1 hu with rfl | hu
   ·rw [hv] at hs; simp at hs
   ·exact ⟨t, by simp, (h.leaf s).2 ⟨u, hu, hs⟩⟩
 lang u hu := by
  rcases List.mem_cons.1 hu with rfl | hu
  ·rw [hv]; exact Lang.xor (x := .mk 2 a []) (by simp) Lang.silent
  ·exact Lang.xor (x := t) (by simp) (h.lang u hu)
theorem TreeOf.flower {lv : List Variant} {a b : BA} (hx : ∀ s, s ∈ leafs x ↔ ∃ v ∈ lv, s ∈ v.acts) (hl : ∀ v ∈ lv, ∀ s ∈ v.acts, Lang x [s]) (hne : ∀ v ∈ lv, v.acts ≠ []) : TreeOf lv (.mk 6 b [x, .mk 2 a []]) where
 leaf s := by
  rw [leafs, if_neg dC, List.nil_append, ← hx]
  simp [leafsL, leafs]
 lang v hv := by
  refine Lang.loop ?_
  have k0 : ∀ (w : Word), w ≠ [] → (∀ s ∈ w, Lang x [s]) → LoopW (Lang x) (Lang (.mk 2 a [])) w := by
   intro w
   induction w with
   | nil => intro h; exact absurd rfl h
   | cons s r ih =>
    intro _ h
    cases r with
    | nil => exact .one (h s (by simp))
    | cons u r =>
     have := LoopW.more (A := Lang x) (B := Lang (.mk 2 a [])) (h s (by simp)) Lang.silent (ih (by simp) fun z hz => h z (by simp [hz]))
     simpa using this
  exact k0 _ (hne v hv) fun s hs => hl v hv s hs
def leafT (s : BA) : Tree := .mk 1 s []
theorem leaf_any {acts : LB} {a : BA} (s : BA) : s ∈ leafs (.mk 4 a (acts.map leafT)) ↔ s ∈ acts := by
 rw [leafs, if_neg dC, List.nil_append, leafsL_mem]
 constructor
 ·rintro ⟨x, hx, hs⟩
  obtain ⟨u, hu, rfl⟩ := List.mem_map.1 hx
  simp [leafT, leafs, leafsL] at hs; subst hs; exact hu
 ·intro hs
  exact ⟨leafT s, List.mem_map.2 ⟨s, hs, rfl⟩, by simp [leafT, leafs, leafsL]⟩
theorem lang_any {acts : LB} {a s : BA} (h : s ∈ acts) : Lang (.mk 4 a (acts.map leafT)) [s] := Lang.xor (List.mem_map.2 ⟨s, h, rfl⟩) Lang.act
def Trees (P : List (List Variant)) (T : List Tree) (k : Nat) : Prop := T.length = k ∧ ∀ (i : Nat) (vs : List Variant) (t : Tree), P[i]? = some vs → T[i]? = some t → TreeOf vs t
theorem Trees.snoc {k : Nat} {vs : List Variant} {t : Tree} (h : Trees P T k) (hv : P[k]? = some vs) (ht : TreeOf vs t) : Trees P (T ++ [t]) (k + 1) := by
 refine ⟨by simp [h.1], fun i ws u hw hu => ?_⟩
 rcases Nat.lt_or_ge i T.length with h1 | h1
 ·rw [List.getElem?_append_left h1] at hu; exact h.2 i ws u hw hu
 ·rw [List.getElem?_append_right h1] at hu
  have h2 : i = k := by
   have := h.1
   rcases Nat.eq_zero_or_pos (i - T.length) with h4 | h4
   ·omega
   ·rw [List.getElem?_eq_none (by simp; omega)] at hu; cases hu
  subst h2
  rw [h.1, Nat.sub_self] at hu
  simp at hu; subst hu
  rw [hv] at hw; cases hw
  exact ht
section
variable {pm : List (BA × Int)} {kind : Int} {n : Nat} {lv : List Variant} {P : List (List Variant)} {T : List Tree}
theorem split_lang (h : SplitR pm kind n lv P) (hT : Trees P T n) {v : Variant} (hv : v ∈ lv) : ∃ ps, SplitW pm kind n v.acts ps ∧ ∀ q ∈ ps, ∃ t, T[q.part.toNat]? = some t ∧ Lang t q.word := by
 obtain ⟨ps, h1, h2⟩ := h.has v hv
 refine ⟨ps, h1, fun q hq => ?_⟩
 obtain ⟨vs, h3, u, h4, h5⟩ := h2 q hq
 have h6 := (gE h3).1
 rw [h.len] at h6
 have ht : T[q.part.toNat]? = some (T[q.part.toNat]'(by rw [hT.1]; exact h6)) := List.getElem?_eq_getElem _
 exact ⟨_, ht, h5 ▸ (hT.2 _ _ _ h3 ht).lang u h4⟩
theorem split_leaf (h : SplitR pm kind n lv P) (hT : Trees P T n) (s : BA) : s ∈ leafsL T ↔ ∃ v ∈ lv, s ∈ v.acts := by
 rw [leafsL_mem]
 constructor
 ·rintro ⟨t, ht, hs⟩
  obtain ⟨i, hi⟩ := List.getElem?_of_mem ht
  have h6 := (gE hi).1
  rw [hT.1] at h6
  have hp : P[i]? = some (P[i]'(by rw [h.len]; exact h6)) := List.getElem?_eq_getElem _
  obtain ⟨u, hu, hs⟩ := ((hT.2 _ _ _ hp hi).leaf s).1 hs
  exact ((h.wd i _ hp u hu).2 s hs).2.2
 ·rintro ⟨v, hv, hs⟩
  obtain ⟨ps, h1, h2⟩ := h.has v hv
  have h7 := h.rg v hv
  have : ∃ q ∈ ps, s ∈ q.word := by
   rcases h1 with ⟨_, hne, s0, hs0, rfl, hall⟩ | ⟨_, hfl, _⟩ | ⟨_, _, rfl, _⟩
   ·exact ⟨_, List.mem_singleton.2 rfl, hs⟩
   ·rw [← hfl] at hs
    obtain ⟨l, hl, hs⟩ := List.mem_flatten.1 hs
    obtain ⟨q, hq, rfl⟩ := List.mem_map.1 hl
    exact ⟨q, hq, hs⟩
   ·have := h7 s hs
    refine ⟨_, List.mem_map.2 ⟨(pt pm s).toNat, List.mem_range.2 oM, rfl⟩, ?_⟩
    simp only [List.mem_filter, hs, true_and, decide_eq_true_eq]
    omega
  obtain ⟨q, hq, hs⟩ := this
  obtain ⟨vs, h3, u, h4, h5⟩ := h2 q hq
  have h6 := (gE h3).1
  rw [h.len] at h6
  have ht : T[q.part.toNat]? = some (T[q.part.toNat]'(by rw [hT.1]; exact h6)) := List.getElem?_eq_getElem _
  exact ⟨_, mG ht, ((hT.2 _ _ _ h3 ht).leaf s).2 ⟨u, h4, by rw [h5]; exact hs⟩⟩
theorem TreeOf.of {op : Int} {a : BA} (hop : op ≠ 1) (h : SplitR pm kind n lv P) (hT : Trees P T n) (hl : ∀ v ∈ lv, Lang (.mk op a T) v.acts) : TreeOf lv (.mk op a T) :=
 ⟨fun s => by rw [leafs, if_neg hop, List.nil_append, split_leaf h hT], hl⟩
theorem TreeOf.xor {a : BA} (hk : kind = 1) (h : SplitR pm kind n lv P) (hT : Trees P T n) : TreeOf lv (.mk 4 a T) :=
 .of dC h hT fun v hv => by
  obtain ⟨ps, h1, h2⟩ := split_lang h hT hv
  rcases h1 with ⟨_, hne, s0, hs0, rfl, hall⟩ | ⟨h0, _⟩ | ⟨h0, _⟩
  ·obtain ⟨t, ht, hw⟩ := h2 _ (List.mem_singleton.2 rfl)
   exact Lang.xor (mG ht) hw
  ·omega
  ·exact absurd hk h0
theorem seq_word {f : BA → Int} : ∀ (n : Nat) {T : List Tree} {w : Word} {b : Nat}, T.length = n → (∀ s ∈ w, (b : Int) ≤ f s ∧ f s < (b + n : Nat)) → (∀ (i : Nat) (s t : BA), w[i]? = some s → w[i + 1]? = some t → f s ≤ f t) →
  (∀ (k : Nat) (t : Tree), T[k]? = some t → Lang t (w.filter fun s => decide (f s = ((b + k : Nat) : Int)))) → SeqW Lang T w
 | 0, T, w, b, hT, hw, _, _ => by
  have : w = [] := by
   cases w with
   | nil => rfl
   | cons s r => have := hw s (by simp); omega
  subst this
  rw [List.eq_nil_of_length_eq_zero hT]; exact .nil
 | n + 1, [], w, b, hT, _, _, _ => by simp at hT
 | n + 1, t :: T, w, b, hT, hw, hasc, hl => by
  have k0 : ∀ (w : Word), (∀ s ∈ w, (b : Int) ≤ f s) → (∀ (i : Nat) (s t : BA), w[i]? = some s → w[i + 1]? = some t → f s ≤ f t) → w = (w.filter fun s => decide (f s = (b : Int))) ++ w.filter fun s => !decide (f s = (b : Int)) := by
   intro w
   induction w with
   | nil => intro _ _; rfl
   | cons s r ih =>
    intro h1 h2
    have i4 := ih (fun x hx => h1 x (by simp [hx])) fun i x y hx hy => h2 (i + 1) x y (by simpa using hx) (by simpa using hy)
    by_cases e : f s = (b : Int)
    ·rw [List.filter_cons_of_pos (by simpa using e), List.filter_cons_of_neg (by simp [e]), List.cons_append, ← i4]
    ·have h4 : ∀ x ∈ s :: r, ¬ f x = (b : Int) := by
      have hs := h1 s (by simp)
      have h6 : ∀ (l : Word) (x : BA), (b : Int) < f x → (∀ (i : Nat) (s t : BA), (x :: l)[i]? = some s → (x :: l)[i + 1]? = some t → f s ≤ f t) → ∀ y ∈ x :: l, (b : Int) < f y := by
       intro l
       induction l with
       | nil => intro x hx _ y hy; simp at hy; subst hy; exact hx
       | cons z l ihl =>
        intro x hx hc y hy
        rcases List.mem_cons.1 hy with rfl | hy
        ·exact hx
        ·have := hc 0 x z rfl rfl
         exact ihl z oM (fun i p q hp hq => hc (i + 1) p q (by simpa using hp) (by simpa using hq)) y hy
      intro x hx
      have := h6 r s oM h2 x hx
      omega
     have e1 : ((s :: r).filter fun s => decide (f s = (b : Int))) = [] := by
      rw [List.filter_eq_nil_iff]; intro x hx; simpa using h4 x hx
     have e2 : ((s :: r).filter fun s => !decide (f s = (b : Int))) = s :: r := by
      rw [List.filter_eq_self]; intro x hx; simpa using h4 x hx
     rw [e1, e2]; rfl
  rw [k0 w (fun s hs => (hw s hs).1) hasc]
  refine .cons (by simpa using hl 0 t rfl) (seq_word (f := f) n (b := b + 1) (by simpa using hT) ?_ ?_ ?_)
  ·intro s hs
   obtain ⟨h1, h2⟩ := List.mem_filter.1 hs
   have := hw s h1
   have h3 : ¬ f s = (b : Int) := by simpa using h2
   omega
  ·have e := k0 w (fun s hs => (hw s hs).1) hasc
   intro i s u hs hu
   have g : ∀ (j : Nat) (x : BA), (w.filter fun s => !decide (f s = (b : Int)))[j]? = some x → w[(w.filter fun s => decide (f s = (b : Int))).length + j]? = some x := fun j x hx => by
    have : w[(w.filter fun s => decide (f s = (b : Int))).length + j]? = ((w.filter fun s => decide (f s = (b : Int))) ++ w.filter fun s => !decide (f s = (b : Int)))[(w.filter fun s => decide (f s = (b : Int))).length + j]? := by rw [← e]
    rw [this, List.getElem?_append_right oM, Nat.add_sub_cancel_left]; exact hx
   exact hasc _ s u (g i s hs) (by have := g (i + 1) u hu; rwa [← Nat.add_assoc] at this)
  ·intro k t' h5
   have := hl (k + 1) t' (by simpa using h5)
   rw [List.filter_filter]
   have e : (w.filter fun s => decide (f s = ((b + (k + 1) : Nat) : Int))) = w.filter fun a => decide (f a = ((b + 1 + k : Nat) : Int)) && !decide (f a = (b : Int)) := by
    apply List.filter_congr
    intro s _
    by_cases h : f s = ((b + (k + 1) : Nat) : Int)
    ·have h2 : ¬ f s = (b : Int) := by omega
     have h3 : f s = ((b + 1 + k : Nat) : Int) := by omega
     rw [decide_eq_true h, decide_eq_true h3, decide_eq_false h2]; rfl
    ·have h3 : ¬ f s = ((b + 1 + k : Nat) : Int) := by omega
     simp only [h, h3, decide_false, Bool.false_and]
   rw [← e]; exact this
theorem TreeOf.seq {a : BA} (hk : kind = 2) (h : SplitR pm kind n lv P) (hT : Trees P T n) : TreeOf lv (.mk 3 a T) :=
 .of dC h hT fun v hv => by
  obtain ⟨ps, h1, h2⟩ := split_lang h hT hv
  have h5 := h.rg v hv
  rcases h1 with ⟨h0, _⟩ | ⟨h0, _⟩ | ⟨_, _, rfl, hasc⟩
  ·omega
  ·omega
  ·refine Lang.seq (seq_word (f := pt pm) n (b := 0) hT.1 (fun s hs => by have := h5 s hs; omega) (hasc hk) fun k t ht => ?_)
   have hk := (gE ht).1
   rw [hT.1] at hk
   obtain ⟨t', h4, hw⟩ := h2 _ (List.mem_map.2 ⟨k, List.mem_range.2 hk, rfl⟩)
   simp only [Int.toNat_natCast] at h4
   rw [ht] at h4; cases h4
   simpa using hw
theorem shuf_filter (p : BA → Bool) : ∀ w : Word, Shuf (w.filter p) (w.filter fun s => !p s) w
 | [] => .nil
 | s :: w => by
  cases hp : p s with
  | true => rw [List.filter_cons_of_pos hp, List.filter_cons_of_neg (by simp [hp])]; exact .left (shuf_filter p w)
  | false => rw [List.filter_cons_of_neg (by simp [hp]), List.filter_cons_of_pos (by simp [hp])]; exact .right (shuf_filter p w)
theorem and_word {f : BA → Int} : ∀ (n : Nat) {T : List Tree} {w : Word} {b : Nat}, T.length = n → (∀ s ∈ w, (b : Int) ≤ f s ∧ f s < (b + n : Nat)) →
  (∀ (k : Nat) (t : Tree), T[k]? = some t → Lang t (w.filter fun s => decide (f s = ((b + k : Nat) : Int)))) → AndW Lang T w
 | 0, T, w, b, hT, hw, _ => by
  have : w = [] := by
   cases w with
   | nil => rfl
   | cons s r => have := hw s (by simp); omega
  subst this
  rw [List.eq_nil_of_length_eq_zero hT]; exact .nil
 | n + 1, [], w, b, hT, _, _ => by simp at hT
 | n + 1, t :: T, w, b, hT, hw, hl => by
  refine .cons (by simpa using hl 0 t rfl) (and_word (f := f) n (w := w.filter fun s => !decide (f s = (b : Int))) (b := b + 1) (by simpa using hT) ?_ ?_) (shuf_filter _ w)
  ·intro s hs
   obtain ⟨h1, h2⟩ := List.mem_filter.1 hs
   have := hw s h1
   have h3 : ¬ f s = (b : Int) := by simpa using h2
   omega
  ·intro k t' h4
   have := hl (k + 1) t' (by simpa using h4)
   rw [List.filter_filter]
   have e : (w.filter fun s => decide (f s = ((b + (k + 1) : Nat) : Int))) = w.filter fun a => decide (f a = ((b + 1 + k : Nat) : Int)) && !decide (f a = (b : Int)) := by
    apply List.filter_congr
    intro s _
    by_cases h : f s = ((b + (k + 1) : Nat) : Int)
    ·have h2 : ¬ f s = (b : Int) := by omega
     have h3 : f s = ((b + 1 + k : Nat) : Int) := by omega
     rw [decide_eq_true h, decide_eq_true h3, decide_eq_false h2]; rfl
    ·have h3 : ¬ f s = ((b + 1 + k : Nat) : Int) := by omega
     simp only [h, h3, decide_false, Bool.false_and]
   rw [← e]; exact this
theorem TreeOf.and {a : BA} (hk : kind = 3) (h : SplitR pm kind n lv P) (hT : Trees P T n) : TreeOf lv (.mk 5 a T) :=
 .of dC h hT fun v hv => by
  obtain ⟨ps, h1, h2⟩ := split_lang h hT hv
  have h5 := h.rg v hv
  rcases h1 with ⟨h0, _⟩ | ⟨h0, _⟩ | ⟨_, _, rfl, _⟩
  ·omega
  ·omega
  ·refine Lang.and (and_word (f := pt pm) n (b := 0) hT.1 (fun s hs => by have := h5 s hs; omega) fun k t ht => ?_)
   have hk := (gE ht).1
   rw [hT.1] at hk
   obtain ⟨t', h4, hw⟩ := h2 _ (List.mem_map.2 ⟨k, List.mem_range.2 hk, rfl⟩)
   simp only [Int.toNat_natCast] at h4
   rw [ht] at h4; cases h4
   simpa using hw
theorem loop_word {A B : Word → Prop} {g : Piece → Prop} : ∀ (m : Nat) (ps : List Piece), ps.length ≤ m → ps ≠ [] →
  (∀ (i : Nat) (p q : Piece), ps[i]? = some p → ps[i + 1]? = some q → p.part ≠ q.part) → (∀ (i : Nat) (p : Piece), ps[i]? = some p → p.part ≠ 0 → i ≠ 0 ∧ ∃ q, ps[i + 1]? = some q ∧ q.part = 0) →
  (∀ q ∈ ps, (q.part = 0 → A q.word) ∧ (q.part ≠ 0 → B q.word)) → LoopW A B (ps.map (·.word)).flatten
 | 0, ps, hm, h4, _, _, _ => absurd (List.eq_nil_of_length_eq_zero oM) h4
 | m + 1, [], hm, h4, _, _, _ => absurd rfl h4
 | m + 1, [p], hm, _, _, h2, h3 => by
  have hp : p.part = 0 := by
   by_cases e : p.part = 0
   ·exact e
   ·exact absurd rfl (h2 0 p rfl e).1
  simpa using LoopW.one (A := A) (B := B) ((h3 p (by simp)).1 hp)
 | m + 1, [p, q], hm, _, h1, h2, h3 => by
  have hp : p.part = 0 := by
   by_cases e : p.part = 0
   ·exact e
   ·exact absurd rfl (h2 0 p rfl e).1
  have hq : q.part ≠ 0 := fun e => h1 0 p q rfl rfl (by rw [hp, e])
  obtain ⟨_, r, hr, _⟩ := h2 1 q rfl hq
  simp at hr
 | m + 1, p :: q :: r :: ps, hm, _, h1, h2, h3 => by
  have hp : p.part = 0 := by
   by_cases e : p.part = 0
   ·exact e
   ·exact absurd rfl (h2 0 p rfl e).1
  have hq : q.part ≠ 0 := fun e => h1 0 p q rfl rfl (by rw [hp, e])
  have hr : r.part = 0 := by
   obtain ⟨_, r', h5, h0⟩ := h2 1 q rfl hq
   simp at h5; subst h5; exact h0
  have ih := loop_word (A := A) (B := B) (g := g) m (r :: ps) (by simp at hm ⊢; omega) (by simp) (fun i x y hx hy => h1 (i + 2) x y (by simpa using hx) (by simpa using hy)) (fun i x hx h4 => by
   obtain ⟨_, y, hy, h0⟩ := h2 (i + 2) x (by simpa using hx) h4
   refine ⟨fun e => ?_, y, by simpa using hy, h0⟩
   subst e
   simp at hx; subst hx; exact h4 hr) fun x hx => h3 x (by simp at hx ⊢; rcases hx with rfl | hx <;> simp_all)
  have := LoopW.more (A := A) (B := B) ((h3 p (by simp)).1 hp) ((h3 q (by simp)).2 hq) ih
  simpa using this
theorem loop_lang (hk : kind = 4) (h : SplitR pm kind n lv P) (hT : Trees P T n) (hn : 2 ≤ n) (hx : T[0]? = some x) {B : Word → Prop} (hB : ∀ (k : Nat) (t : Tree) (w : Word), T[k + 1]? = some t → Lang t w → B w) {v : Variant} (hv : v ∈ lv) : LoopW (Lang x) B v.acts := by
 obtain ⟨ps, h1, h2⟩ := split_lang h hT hv
 rcases h1 with ⟨h0, _⟩ | ⟨_, hfl, hpt, hne, hr, had, hz⟩ | ⟨_, h0, _⟩
 ·omega
 ·rw [← hfl]
  refine loop_word (g := fun _ => True) ps.length ps (Nat.le_refl _) hne had hz fun q hq => ?_
  obtain ⟨t, ht, hw⟩ := h2 q hq
  have := hr q hq
  refine ⟨fun e => ?_, fun e => ?_⟩
  ·rw [e] at ht
   rw [show (0 : Int).toNat = 0 from rfl, hx] at ht; cases ht; exact hw
  ·obtain ⟨k, hk⟩ : ∃ k, q.part.toNat = k + 1 := ⟨q.part.toNat - 1, by omega⟩
   rw [hk] at ht
   exact hB k t _ ht hw
 ·exact absurd hk h0
theorem TreeOf.loop2 {a : BA} (hk : kind = 4) (h : SplitR pm kind n lv P) (hT : Trees P T n) (hn : n = 2) : TreeOf lv (.mk 6 a T) :=
 .of dC h hT fun v hv => by
  obtain ⟨x, y, rfl⟩ : ∃ x y, T = [x, y] := by
   have := hT.1
   match T, this with
   | [x, y], _ => exact ⟨x, y, rfl⟩
   | [], h => simp at h; omega
   | [_], h => simp at h; omega
   | _ :: _ :: _ :: _, h => simp at h; omega
  refine Lang.loop (loop_lang hk h hT oM rfl (fun k t w ht hw => ?_) hv)
  cases k with
  | zero => simp at ht; subst ht; exact hw
  | succ k => simp at ht
theorem TreeOf.loopN {a b : BA} {x : Tree} {T' : List Tree} (hk : kind = 4) (h : SplitR pm kind n lv P) (hT : Trees P (x :: T') n) (hn : 2 ≤ n) : TreeOf lv (.mk 6 a [x, .mk 4 b T']) where
 leaf s := by
  rw [← split_leaf h hT, leafs, if_neg dC, List.nil_append, leafsL, leafsL, leafsL, List.mem_append, List.mem_append, leafsL, List.mem_append, leafs, if_neg dC]
  simp
 lang v hv := Lang.loop (loop_lang hk h hT hn rfl (fun k t w ht hw => Lang.xor (mG (i := k) (by simpa using ht)) hw) hv)
end
theorem validVs_drop {x : Variant} {lv : List Variant} (h : validVs (x :: lv) = true) : validVs lv = true := by
 obtain ⟨h1, h2, h3⟩ := validVs_iff.1 h
 refine validVs_iff.2 ⟨by simp at h1; omega, fun v hv => h2 v (by simp [hv]), ?_⟩
 rw [ascV_iff] at h3 ⊢
 exact fun j a b ha hb => h3 (j + 1) a b (by simpa using ha) (by simpa using hb)
theorem validVs_once {k : Nat} (h : SplitR pm kind n lv P) (hk : P[k]? = some vs) : validVs (vs.map onceV) = true := by
 have hm := mG hk
 refine validVs_iff.2 ⟨by rw [List.length_map]; exact h.few vs hm, fun v hv => ?_, ?_⟩
 ·obtain ⟨u, hu, rfl⟩ := List.mem_map.1 hv
  obtain ⟨h1, h2⟩ := h.wd k vs hk u hu
  unfold okV onceV
  simp only [Bool.and_eq_true, decide_eq_true_eq, List.all_eq_true]
  exact ⟨⟨h1, fun s hs => (h2 s hs).2.1⟩, by decide⟩
 ·rw [ascV_iff]
  intro j x y hx hy
  rw [List.getElem?_map] at hx hy
  obtain ⟨x', h4, rfl⟩ := Option.map_eq_some_iff.1 hx
  obtain ⟨y', h5, rfl⟩ := Option.map_eq_some_iff.1 hy
  exact h.asc vs hm j x' y' h4 h5
theorem validVs_onceA (h : validVs lv = true) : validVs (lv.map onceV) = true := by
 obtain ⟨h1, h2, h3⟩ := validVs_iff.1 h
 refine validVs_iff.2 ⟨by rw [List.length_map]; exact h1, fun v hv => ?_, ?_⟩
 ·obtain ⟨u, hu, rfl⟩ := List.mem_map.1 hv
  have := okV_word (h2 u hu)
  unfold okV onceV
  simp only [Bool.and_eq_true, decide_eq_true_eq, List.all_eq_true]
  exact ⟨this, by decide⟩
 ·rw [ascV_iff] at h3 ⊢
  intro j x y hx hy
  rw [List.getElem?_map] at hx hy
  obtain ⟨x', h4, rfl⟩ := Option.map_eq_some_iff.1 hx
  obtain ⟨y', h5, rfl⟩ := Option.map_eq_some_iff.1 hy
  exact h3 j x' y' h4 h5
theorem words_ne {x : Variant} {lv : List Variant} (h : validVs (x :: lv) = true) (hx : x.acts ≠ []) : ∀ v ∈ x :: lv, v.acts ≠ [] := by
 have h3 := ascV_iff.1 (validVs_iff.1 h).2.2
 intro v hv
 obtain ⟨i, hi⟩ := List.getElem?_of_mem hv
 cases i with
 | zero => simp at hi; subst hi; exact hx
 | succ i =>
  intro e
  have h5 := (gE hi).1
  have h4 := h3 i _ v (List.getElem?_eq_getElem oM) hi
  rw [e] at h4
  revert h4
  cases ((x :: lv)[i]'(by omega)).acts with
  | nil => decide
  | cons a r => simp [cmpW]
def hd0 : List Variant → Nat
 | [] => 0
 | v :: _ => if v.acts = [] then 1 else 0
theorem hd0_le (lv : List Variant) : hd0 lv ≤ 1 := by
 cases lv with
 | nil => simp [hd0]
 | cons v l => simp only [hd0]; split <;> omega
def InN (lv : List Variant) (N : LB) : Prop := ∀ v ∈ lv, ∀ s ∈ v.acts, s ∈ N
theorem drop_less {x : Variant} {lv : List Variant} {k : Nat} (hv : validVs (x :: lv) = true) (hx : x.acts = []) (hN : InN (x :: lv) N) (hk : N.length * 2 + hd0 (x :: lv) ≤ k) : InN lv N ∧ N.length * 2 + hd0 lv < k := by
 refine ⟨fun v h => hN v (by simp [h]), ?_⟩
 have h3 := ascV_iff.1 (validVs_iff.1 hv).2.2
 have h1 : hd0 (x :: lv) = 1 := by simp [hd0, hx]
 have h2 : hd0 lv = 0 := by
  cases lv with
  | nil => rfl
  | cons y l =>
   have h4 := h3 0 x y rfl rfl
   rw [hx] at h4
   simp only [hd0]
   rw [if_neg]
   intro e
   rw [e] at h4
   revert h4; decide
 omega
theorem part_less {i k : Nat} {parts : List LB} {names : LB} (h : SplitR pm kind n lv P) (hp : PartM parts pm) (hpn : parts.length = n) (h2 : 2 ≤ n) (hgc : ∀ p ∈ parts, ∀ s ∈ p, s ∈ names) (hnames : ∀ s, s ∈ names ↔ ∃ v ∈ lv, s ∈ v.acts) (hi : P[i]? = some vs) (hN : InN lv N) (hk : N.length * 2 + hd0 lv ≤ k) : ∃ N', InN (vs.map onceV) N' ∧ N'.length * 2 + hd0 (vs.map onceV) < k := by
 obtain ⟨F, hF⟩ : ∃ F, F = N.filter (fun s => decide (pt pm s = (i : Int))) := ⟨_, rfl⟩
 refine ⟨F, fun v hv s hs => ?_, ?_⟩
 ·obtain ⟨u, hu, rfl⟩ := List.mem_map.1 hv
  obtain ⟨h3, h4, w, hw, h5⟩ := (h.wd i vs hi u hu).2 s hs
  rw [hF]
  exact List.mem_filter.2 ⟨hN w hw s h5, by simpa using h3⟩
 ·obtain ⟨j, hj, b4⟩ : ∃ j, j < parts.length ∧ j ≠ i := by
   by_cases e : i = 0
   ·exact ⟨1, by omega, by omega⟩
   ·exact ⟨0, by omega, by omega⟩
  have h8 := hp.ne _ (List.getElem_mem hj)
  obtain ⟨s, hs⟩ := List.exists_mem_of_ne_nil _ h8
  have h9 := hp.pt_of (List.getElem?_eq_getElem hj) hs
  obtain ⟨v, hv, h7⟩ := (hnames s).1 (hgc _ (List.getElem_mem hj) s hs)
  have h6 := hN v hv s h7
  have b5 : F.length < N.length := by
   rw [hF, ← Nat.not_le]
   intro hle
   have e := List.Sublist.eq_of_length_le (List.filter_sublist (l := N) (p := fun s => decide (pt pm s = (i : Int)))) hle
   rw [← e] at h6
   have := (List.mem_filter.1 h6).2
   simp at this
   omega
  have := hd0_le (vs.map onceV)
  omega
end
end Go.Proofs.YtookcfeogbeooaaGreatDoor
