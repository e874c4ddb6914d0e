/-
Parts of cuts and the words that are split by them. The parts of a cut. More operations: rows that are nil, a fresh row of structs, pieces that are sealed. Words that are split. Keys of lists of numbers. What is reached in a net. Nets of trees are workflow nets. Replaying a word: what was met, and that nothing is missed.
Conditions: those that each theorem states.
-/
import Derived.Test.YtookcfeogbeooaaGreatDoorM15
import Derived.Laws.OwnMore
set_option linter.all false
set_option maxRecDepth 100000
set_option maxHeartbeats 8000000
set_option autoImplicit true
set_option relaxedAutoImplicit true
namespace Go.Proofs.YtookcfeogbeooaaGreatDoor
open Go Go.Proofs
structure PartI (parts : List LB) (i : Nat) (p : LB) (k : Nat) (m : List (BA × Int)) : Prop where
 get : ∀ s v, mget m s = some v ↔ (∃ (j : Nat) (q : LB), j < i ∧ parts[j]? = some q ∧ v = (j : Int) ∧ s ∈ q) ∨ (v = (i : Int) ∧ s ∈ p.take k)
 nm : ∀ s v, mget m s = some v → isName s = true
 ne : ∀ (j : Nat) (q : LB), j < i → parts[j]? = some q → q ≠ []
theorem PartI.start {parts : List LB} : PartI parts 0 [] 0 [] where
 get s v := by simp [mget]
 nm s v h := by simp [mget] at h
 ne j q h := by omega
theorem PartI.enter {parts : List LB} {m : List (BA × Int)} (h : PartI parts i [] 0 m) : PartI parts i p 0 m :=
 ⟨fun s v => by rw [h.get]; simp, h.nm, h.ne⟩
theorem PartI.put {parts : List LB} {k : Nat} {m : List (BA × Int)} (h : PartI parts i p k m) (hs : p[k]? = some s) (hn : (mget m s).isSome = false) (hnm : isName s = true) : PartI parts i p (k + 1) (mput m s (i : Int)) where
 get t v := by
  rw [mget_mput, List.take_add_one, hs]
  simp only [Option.toList_some, List.mem_append, List.mem_singleton]
  by_cases e : s = t
  ·subst e
   rw [if_pos rfl]
   constructor
   ·intro h2; cases h2; exact .inr ⟨rfl, .inr rfl⟩
   ·rintro (h2 | ⟨h2, _⟩)
    ·have := (h.get s v).2 (.inl h2)
     rw [this] at hn; cases hn
    ·rw [h2]
  ·rw [if_neg e, h.get]
   constructor
   ·rintro (h2 | ⟨h2, h3⟩)
    ·exact .inl h2
    ·exact .inr ⟨h2, .inl h3⟩
   ·rintro (h2 | ⟨h2, h3 | h3⟩)
    ·exact .inl h2
    ·exact .inr ⟨h2, h3⟩
    ·exact absurd h3.symm e
 nm t v ht := by
  rw [mget_mput] at ht
  split at ht
  ·rename_i e; subst e; exact hnm
  ·exact h.nm t v ht
 ne := h.ne
theorem PartI.next {parts : List LB} {k : Nat} {m : List (BA × Int)} (h : PartI parts i p k m) (hp : parts[i]? = some p) (hk : p.length ≤ k) (hne : p ≠ []) : PartI parts (i + 1) [] 0 m where
 get s v := by
  rw [h.get, List.take_of_length_le hk]
  constructor
  ·rintro (⟨j, q, h1, h2⟩ | ⟨h1, h2⟩)
   ·exact .inl ⟨j, q, by omega, h2⟩
   ·exact .inl ⟨i, p, by omega, hp, h1, h2⟩
  ·rintro (⟨j, q, h1, h2, h3, h4⟩ | ⟨h1, h2⟩)
   ·rcases Nat.lt_or_ge j i with h5 | h5
    ·exact .inl ⟨j, q, h5, h2, h3, h4⟩
    ·obtain rfl : j = i := by omega
     rw [hp] at h2; cases h2
     exact .inr ⟨h3, h4⟩
   ·simp at h2
 nm := h.nm
 ne j q h1 h2 := by
  rcases Nat.lt_or_ge j i with h5 | h5
  ·exact h.ne j q h5 h2
  ·obtain rfl : j = i := by omega
   rw [hp] at h2; cases h2
   exact hne
structure PartM (parts : List LB) (m : List (BA × Int)) : Prop where
 get : ∀ s v, mget m s = some v ↔ ∃ (j : Nat) (q : LB), parts[j]? = some q ∧ v = (j : Int) ∧ s ∈ q
 nm : ∀ s v, mget m s = some v → isName s = true
 ne : ∀ q ∈ parts, q ≠ []
theorem PartI.done {parts : List LB} {m : List (BA × Int)} (h : PartI parts i [] 0 m) (hi : parts.length ≤ i) : PartM parts m where
 get s v := by
  rw [h.get]
  constructor
  ·rintro (⟨j, q, h1, h2⟩ | ⟨h1, h2⟩)
   ·exact ⟨j, q, h2⟩
   ·simp at h2
  ·rintro ⟨j, q, h2, h3⟩
   have := (gE h2).1
   exact .inl ⟨j, q, by omega, h2, h3⟩
 nm := h.nm
 ne q hq := by
  obtain ⟨j, hj⟩ := List.getElem?_of_mem hq
  have := (gE hj).1
  exact h.ne j q oM hj
def pt (m : List (BA × Int)) (s : BA) : Int := (mget m s).getD 0
theorem PartM.lt {parts : List LB} {m : List (BA × Int)} (h : PartM parts m) (hs : (mget m s).isSome = true) : 0 ≤ pt m s ∧ pt m s < (parts.length : Int) := by
 obtain ⟨v, hv⟩ := Option.isSome_iff_exists.1 hs
 obtain ⟨j, q, h1, h2, h3⟩ := (h.get s v).1 hv
 have := (gE h1).1
 unfold pt; rw [hv, Option.getD_some, h2]; omega
theorem PartM.pt_of {parts : List LB} {m : List (BA × Int)} (h : PartM parts m) {s : BA} {j : Nat} {q : LB} (hj : parts[j]? = some q) (hs : s ∈ q) : pt m s = (j : Int) := by
 have := (h.get s (j : Int)).2 ⟨j, q, hj, rfl, hs⟩
 unfold pt; rw [this]; rfl
structure Piece where
 part : Int
 word : LB
def rPiece : Rep Piece :=
 ⟨2, fun H x cs => ∃ A n c, cs = [.int .i64 x.part, .slice A n c] ∧ Sl rStr H x.word A n c, fun hle ⟨A, n, c, h, hs⟩ => ⟨A, n, c, h, hs.mono hle⟩, fun ⟨_, _, _, h, _⟩ => by rw [h]; rfl, fun ⟨_, _, _, h, _⟩ => by rw [h]; simp [Value.oneCell']⟩
structure PcM where
 part : Int
 A : OA
 c : Nat
 word : LB
def pcO (l : List PcM) : LV := l.flatMap fun p => [.int .i64 p.part, .slice p.A p.word.length p.c]
def pcR (l : List PcM) : List RowT := l.map fun p => (.slice p.A p.word.length p.c, p.word.length, p.word.map fun s => Value.string s)
theorem pcR_at {l : List PcM} {k : Nat} (h : l[k]? = some p) : (pcR l)[k]? = some (.slice p.A p.word.length p.c, p.word.length, p.word.map fun s => Value.string s) := by simp [pcR, h]
theorem pcO_len (l : List PcM) : (pcO l).length = l.length * 2 := by
 induction l with
 | nil => rfl
 | cons p l ih => simp only [pcO, List.flatMap_cons, List.length_append, List.length_cons, List.length_nil] at ih ⊢; omega
theorem pcO_at : ∀ {l : List PcM} {k : Nat} {p : PcM}, l[k]? = some p → (pcO l)[0 + k * 2 + 0]? = some (.int .i64 p.part) ∧ (pcO l)[0 + k * 2 + 1]? = some (.slice p.A p.word.length p.c)
 | [], k, p, h => by simp at h
 | q :: l, 0, p, h => by simp at h; subst h; exact ⟨rfl, rfl⟩
 | q :: l, k + 1, p, h => by
  obtain ⟨h1, h2⟩ := pcO_at (l := l) (k := k) (p := p) (by simpa using h)
  have e : pcO (q :: l) = .int .i64 q.part :: .slice q.A q.word.length q.c :: pcO l := rfl
  rw [e, show 0 + (k + 1) * 2 + 0 = (0 + k * 2 + 0) + 1 + 1 by omega, show 0 + (k + 1) * 2 + 1 = (0 + k * 2 + 1) + 1 + 1 by omega]
  exact ⟨by simpa using h1, by simpa using h2⟩
theorem pcO_setP : ∀ {l : List PcM} {k : Nat} {p : PcM} {v : Int}, l[k]? = some p → (pcO l).set (0 + k * 2 + 0) (.int .i64 v) = pcO (l.set k { p with part := v })
 | [], k, p, v, h => by simp at h
 | q :: l, 0, p, v, h => by simp at h; subst h; rfl
 | q :: l, k + 1, p, v, h => by
  have ih := pcO_setP (l := l) (k := k) (p := p) (v := v) (by simpa using h)
  have e : ∀ (q : PcM) (l : List PcM), pcO (q :: l) = .int .i64 q.part :: .slice q.A q.word.length q.c :: pcO l := fun _ _ => rfl
  rw [e, show 0 + (k + 1) * 2 + 0 = (0 + k * 2 + 0) + 1 + 1 by omega, List.set_cons_succ, List.set_cons_succ]
  exact congrArg (fun z => Value.int .i64 q.part :: Value.slice q.A q.word.length q.c :: z) ih
theorem pcO_setW : ∀ {l : List PcM} {k : Nat} {p : PcM} {A : OA} {c : Nat} {w : LB}, l[k]? = some p → (pcO l).set (0 + k * 2 + 1) (.slice A w.length c) = pcO (l.set k ⟨p.part, A, c, w⟩)
 | [], k, p, A, c, w, h => by simp at h
 | q :: l, 0, p, A, c, w, h => by simp at h; subst h; rfl
 | q :: l, k + 1, p, A, c, w, h => by
  have ih := pcO_setW (l := l) (k := k) (p := p) (A := A) (c := c) (w := w) (by simpa using h)
  have e : ∀ (q : PcM) (l : List PcM), pcO (q :: l) = .int .i64 q.part :: .slice q.A q.word.length q.c :: pcO l := fun _ _ => rfl
  rw [e, show 0 + (k + 1) * 2 + 1 = (0 + k * 2 + 1) + 1 + 1 by omega, List.set_cons_succ, List.set_cons_succ, ih, List.set_cons_succ, e]
theorem pcR_setP {l : List PcM} {k : Nat} {v : Int} (h : l[k]? = some p) : pcR (l.set k { p with part := v }) = pcR l := by
 apply List.ext_getElem?
 intro j
 simp only [pcR, List.getElem?_map, List.getElem?_set]
 by_cases e : k = j
 ·subst e
  have := (gE h).1
  rw [if_pos rfl, if_pos this, h]; rfl
 ·rw [if_neg e]
def SplitW (m : List (BA × Int)) (kind : Int) (n : Nat) (w : LB) (ps : List Piece) : Prop :=
 (kind = 1 ∧ w ≠ [] ∧ ∃ s, w[0]? = some s ∧ ps = [⟨pt m s, w⟩] ∧ ∀ t ∈ w, pt m t = pt m s) ∨
 (kind = 4 ∧ (ps.map (·.word)).flatten = w ∧ (∀ p ∈ ps, ∀ s ∈ p.word, pt m s = p.part) ∧ ps ≠ [] ∧ (∀ p ∈ ps, 0 ≤ p.part ∧ p.part < (n : Int)) ∧
  (∀ (i : Nat) (p q : Piece), ps[i]? = some p → ps[i + 1]? = some q → p.part ≠ q.part) ∧
  ∀ (i : Nat) (p : Piece), ps[i]? = some p → p.part ≠ 0 → i ≠ 0 ∧ ∃ q, ps[i + 1]? = some q ∧ q.part = 0) ∨
 (kind ≠ 1 ∧ kind ≠ 4 ∧ ps = (List.range n).map (fun (k : Nat) => ⟨(k : Int), w.filter fun s => decide (pt m s = (k : Int))⟩) ∧
  (kind = 2 → ∀ (i : Nat) (s t : BA), w[i]? = some s → w[i + 1]? = some t → pt m s ≤ pt m t))
section
open Go.Proofs.Tryz
attribute [local irreducible] TK Yl OpK AnyT wpList Code.wp
theorem c109 {C : Cut} (hl : Sl (rSl rStr) H C.parts A n c) (hn : n ≤ 140737488355328) : Ct PP 109 #[.agg #[.int .i64 C.kind, .slice A n c]] H [] fun v H' O' => (O' = [] ∧ v = .tuple #[.map none, .bool false]) ∨ ∃ b m r, O' = [.map b (mapL Value.string (Value.int .i64) m)] ∧ v = .tuple #[.map (some b), .bool r] ∧ PartM C.parts m ∧ (r = true → 2 ≤ n) := by
 have e9 := hl.len
 refine cB func109 ntmps109 fun I hD hI i4 => ?_
 refine g2a ?_
 intros
 refine bG fun b2 => ?_
 refine g5a ?_
 intros
 refine sq rfl (tMakeMap dC fun b4 => ?_)
 refine g11b ?_
 intros
 refine lp1 (fun D f E H' O m' => ∃ (i : Nat) (m : List (BA × Int)), H = H' ∧ (i ≤ n) ∧ (PartI C.parts i [] 0 m) ∧ m' = n - i ∧ O = [.map b4 (mapL Value.string (Value.int .i64) m), f] ∧ E = (15, .int .i64 (i : Int)) :: D) [1, 4, 13, 14] [0, 1] ⟨0, [], rfl, Nat.zero_le _, PartI.start, rfl, rfl, rfl⟩ ?_
 rintro _ _ _ _ ⟨i, m, rfl, hi, hP, rfl, rfl, rfl⟩ _ b8
 refine g5b ?_
 intros
 refine cD ?_ ?_ <;> intro d1
 refine g6b ?_
 intros
 obtain ⟨d6, h8⟩ := eX hl i
 obtain ⟨e8, o4, d8, e4, b9, d4⟩ := hl.at_ h8
 obtain ⟨A0, n0, c28, rfl, h4⟩ := b9
 refine g12b ?_
 intros
 refine g1 ?_
 have d5 := h4.len
 have e7 := h4.2.2.1
 refine lp1 (fun D f E H' O m => ∃ (k : Nat) (m' : List (BA × Int)), H = H' ∧ (k ≤ n0) ∧ (PartI C.parts i d6 k m') ∧ m = n0 - k ∧ O = [.map b4 (mapL Value.string (Value.int .i64) m'), f] ∧ E = (22, .int .i64 (k : Int)) :: D) [1, 4, 5, 6, 13, 14, 15, 20, 21] [0, 1] ⟨0, m, rfl, Nat.zero_le _, hP.enter, rfl, rfl, rfl⟩ ?_
 rintro _ _ _ _ ⟨k, m', rfl, hk, b7, rfl, rfl, rfl⟩ _ h9
 refine g5b ?_
 intros
 refine cD ?_ ?_ <;> intro d7
 refine g6b ?_
 intros
 obtain ⟨b5, h6⟩ := eX h4 k
 obtain ⟨f9, o6, e0, e5⟩ := h4.atS h6
 refine g10b ?_
 intros
 refine q (yLookupOk (k := b5) (g := (Value.int .i64)) (z := 0) (i := 0) uC (keyStr uC) nC rfl rfl rfl) rfl rfl rfl ?_
 refine g10a ?_
 intros
 refine sB 34 ?_ ?_ <;> intro h7
 refine g18 ?_
 refine g6a ?_
 intros
 refine kP [] ?_
 refine r2 results109 ?_
 exact .inl ⟨rfl, rfl⟩
 refine g1 ?_
 refine sqY rfl rfl rfl rfl (fS hD rfl call51 rfl c51 ?_)
 rintro v0 rfl
 refine g3 ?_
 refine sB 39 ?_ ?_ <;> intro b6
 refine g18a ?_
 intros
 refine g1 ?_
 refine kP [] ?_
 refine r2 results109 ?_
 exact .inl ⟨rfl, rfl⟩
 refine g3 ?_
 refine sD 42 ?_ ?_ <;> intro d9
 refine g3 ?_
 obtain ⟨f8, c0⟩ := Sl.ex h4 (i := ((k : Int) - 1 : Int).toNat) oM
 obtain ⟨e6, o5, d3, e1⟩ := h4.atS c0
 refine g7 ?_
 refine cN ?_ ?_ <;> intro e3
 refine g5a ?_
 intros
 refine kP [] ?_
 refine r2 results109 ?_
 exact .inl ⟨rfl, rfl⟩
 refine g5 ?_
 refine sq rfl (tMapUpd (m := m') (k := b5) (g := (Value.int .i64)) (v := (i : Int)) (i := 0) uC (keyStr uC) rfl rfl rfl rfl ?_)
 refine g4 ?_
 have h5 : (mget m' b5).isSome = false := by simpa using h7
 have c1 : isName b5 = true := by simpa using b6
 exact nK h9 ⟨k + 1, mput m' b5 (i : Int), rfl, oM, (b7.put h6 h5 c1), rfl, rfl, rfl⟩
 refine g15 ?_
 refine g1 ?_
 refine sq rfl (tMapUpd (m := m') (k := b5) (g := (Value.int .i64)) (v := (i : Int)) (i := 0) uC (keyStr uC) rfl rfl rfl rfl ?_)
 refine g4 ?_
 have h5 : (mget m' b5).isSome = false := by simpa using h7
 have c1 : isName b5 = true := by simpa using b6
 exact nK h9 ⟨k + 1, mput m' b5 (i : Int), rfl, oM, (b7.put h6 h5 c1), rfl, rfl, rfl⟩
 refine g7a ?_
 intros
 refine cD ?_ ?_ <;> intro e2
 refine g5a ?_
 intros
 refine kP [] ?_
 refine r2 results109 ?_
 exact .inl ⟨rfl, rfl⟩
 refine g4 ?_
 exact nK b8 ⟨i + 1, m', rfl, oM, (b7.next h8 oM (fun e => by simp [e] at d5; omega)), rfl, rfl, rfl⟩
 refine g2a ?_
 intros
 refine ts 17 fun _ => ?_
 refine tj 0 ?_
 refine g5 ?_
 refine sD 65 ?_ ?_ <;> intro d2
 refine tjY 6 ?_
 refine g4 ?_
 refine sD 70 ?_ ?_ <;> intro d0
 refine tjY 11 ?_
 refine g7 ?_
 refine kP [0] ?_
 refine r2 results109 ?_
 exact .inr ⟨_, m, _, rfl, rfl, hP.done oM, fun _ => by omega⟩
 refine tjN 11 ?_
 refine g7 ?_
 refine kP [0] ?_
 refine r2 results109 ?_
 exact .inr ⟨_, m, _, rfl, rfl, hP.done oM, fun h => by cases h⟩
 refine tjN 6 ?_
 refine g12 ?_
 refine kP [0] ?_
 refine r2 results109 ?_
 exact .inr ⟨_, m, _, rfl, rfl, hP.done oM, fun h => by cases h⟩
end
section
open Go.Lib
section
variable {P : Program} {n : Nat} {I : Init} {K : Act → World → Prop} {E : Env} {H : Ghost} {O : List HL} {Q : Exit → Act → World → Prop}
 {dst : Option Nat} {ty : TypeId} {pos : String} {af : Array Edge} {gd : Option (Nat × Bool)}
theorem nil_flat {l : List RowT} (hl : ∀ x ∈ l, x = (.slice none 0 0, 0, [])) : (l.flatMap fun x => vblk x.1) = [] := by
 rw [List.flatMap_eq_nil_iff]
 intro x hx; rw [hl x hx]; rfl
theorem newRowsNil (e k : Nat) (l : List RowT) (hl : ∀ x ∈ l, x = (.slice none 0 0, 0, [])) (h : TK n I K E H (.rows e k l :: O)) : TK n I K E H O := by
 have hf : fps (.rows e k l :: O) = fps O := by rw [fps_cons]; simp [HL.fp, nil_flat hl]
 refine TK.trade (O' := .rows e k l :: O) (fun w hs => ⟨hs.ghost, fun x hx => ?_, by rw [hf]; exact hs.apart, by rw [hf]; exact hs.nodup⟩) (fun b hb => by rw [hf] at hb; exact hb) h
 rcases List.mem_cons.1 hx with rfl | hx
 ·intro z hz; rw [hl z hz]; exact World.ownsRow_nil w 0 e k
 ·exact hs.own x hx
theorem rowsNil {e k q : Nat} {l : List RowT} (hO : O[q]? = some (.rows e k l)) (h : TK n I K E H (O.set q (.rows e k (l ++ [(.slice none 0 0, 0, [])])))) : TK n I K E H O := by
 have hp : (fps (O.set q (.rows e k (l ++ [(.slice none 0 0, 0, [])])))).Perm (fps O) := by
  have h1 := fps_perm (perm_set (h' := HL.rows e k (l ++ [(.slice none 0 0, 0, [])])) hO)
  have h2 := fps_perm (perm_at hO)
  rw [fps_append] at h1 h2
  have e1 : fps [HL.rows e k (l ++ [(.slice none 0 0, 0, [])])] = fps [HL.rows e k l] := by simp [fps, HL.fp, vblk]
  rw [e1] at h1
  exact h1.symm.trans h2
 refine TK.trade (fun w hs => ⟨hs.ghost, fun x hx => ?_, fun b hb => hs.apart b (hp.mem_iff.1 hb), hp.nodup_iff.2 hs.nodup⟩) (fun b hb => hp.mem_iff.1 hb) h
 rcases List.mem_or_eq_of_mem_set hx with hx | rfl
 ·exact hs.own x hx
 ·intro z hz
  rcases List.mem_append.1 hz with hz | hz
  ·exact hs.own (.rows e k l) (mG hO) z hz
  ·simp at hz; subst hz; exact World.ownsRow_nil w 0 e k
theorem tMakeK {t e d bytes : Nat} {m : Nat} {cs : LV} (ht : P.underlying t = some (.slice e)) (hi : InfoT P e z k bytes) (hcs : (madeCells z.cells (m * k)).toList = cs) (hx : ev E x = some (.int .i64 (m : Int))) (hy : ev E y = some (.int .i64 (m : Int))) (hb : bytes * m ≤ 140737488355328) (h63 : m ≤ 140737488355328) (hd : d < n) (h : ∀ b, TK n I K ((d, .slice (some ⟨b, 0, none⟩) m m) :: E) H (.row e k (.slice (some ⟨b, 0, none⟩) m m) m cs :: O)) : TK n I (OpK P ⟨some d, .makeSlice t x y, ty, pos, af, gd⟩ K Q) E H O := by
 obtain ⟨i0, h6, h5⟩ := Option.map_eq_some_iff.1 hi
 simp only [Prod.mk.injEq] at h5
 obtain ⟨h7, h8, h9⟩ := h5
 refine TK.run rfl hd fun a w ha hs => ?_
 have hr := run_make (P := P) w t e i0 z ht h6 h7 .i64 .i64 (m : Int) (m : Int) oM (Int.le_refl _) (by rw [h9]; omega) oM
 simp only [Int.toNat_natCast] at hr
 have h4 := World.ownsRow_lit (base := 0) (e := e) (size := k) w (madeCells z.cells (m * k)) m (Nat.zero_le _) (by simp only [maxLen]; omega) (size_madeCells _ _)
 rw [h8] at hr
 refine ⟨_, _, H, _, ?_, Step.new_ (O' := [.row e k (.slice (some ⟨w.heap.size, 0, none⟩) m m) m cs]) hs (fun h0 => Step.alloc h0 rfl (by rw [← hcs]; exact h4)), h _⟩
 simp only [execOp, ha.eval hx, ha.eval hy, Sem.run_bind, hr, Result.andThen_ok, Sem.run_pure]
end
theorem made2 (u v : Value) (m : Nat) : (madeCells #[u, v] (m * 2)).toList = (List.replicate m [u, v]).flatten := by
 apply List.ext_getElem?
 intro j
 simp only [madeCells, Array.toList_map, Array.toList_range, List.getElem?_map]
 have k0 : ∀ (m j : Nat), (List.replicate m [u, v]).flatten[j]? = if j < m * 2 then some (if j % 2 = 0 then u else v) else none := by
  intro m
  induction m with
  | zero => intro j; simp
  | succ m ih =>
   intro j
   rw [List.replicate_succ, List.flatten_cons]
   match j with
   | 0 => simp
   | 1 => simp; omega
   | j + 2 =>
    have : ([u, v] ++ (List.replicate m [u, v]).flatten)[j + 2]? = (List.replicate m [u, v]).flatten[j]? := by simp
    rw [this, ih]
    have e1 : (j + 2) % 2 = j % 2 := by omega
    rw [e1]
    by_cases h : j < m * 2
    ·rw [if_pos h, if_pos (show j + 2 < (m + 1) * 2 by omega)]
    ·rw [if_neg h, if_neg (show ¬ j + 2 < (m + 1) * 2 by omega)]
 rw [k0]
 by_cases h : j < m * 2
 ·rw [if_pos h, List.getElem?_range h]
  have h2 : j % 2 = 0 ∨ j % 2 = 1 := by omega
  have hs : (#[u, v] : Array Value).size = 2 := rfl
  simp only [Option.map_some, hs]
  rcases h2 with h2 | h2 <;> rw [h2] <;> rfl
 ·rw [if_neg h, List.getElem?_eq_none (by rw [List.length_range]; omega)]; rfl
def pcZero : PcM := ⟨0, none, 0, []⟩
theorem pcO_zero (m : Nat) : (madeCells (Value.agg #[.int .i64 0, .slice none 0 0]).cells (m * 2)).toList = pcO (List.replicate m pcZero) := by
 rw [show (Value.agg #[.int .i64 0, .slice none 0 0]).cells = #[.int .i64 0, .slice none 0 0] from rfl, made2]
 induction m with
 | zero => rfl
 | succ m ih => rw [List.replicate_succ, List.flatten_cons, ih, List.replicate_succ]; rfl
theorem pcR_zero (m : Nat) : ∀ x ∈ pcR (List.replicate m pcZero), x = (.slice none 0 0, 0, []) := by
 intro x hx
 obtain ⟨p, hp, rfl⟩ := List.mem_map.1 hx
 rw [List.eq_of_mem_replicate hp]; rfl
def toPc (p : PcM) : Piece := ⟨p.part, p.word⟩
section
variable {n : Nat} {I : Init} {K : Act → World → Prop} {E : Env} {H : Ghost} {O : List HL}
theorem tSealPc {k p q c : Nat} {B : OA} {l : List PcM} (hpq : p ≠ q) (hO : O[p]? = some (.row 187 2 (.slice B k c) k (pcO l))) (hR : O[q]? = some (.rows 9 1 (pcR l))) (hk : k ≤ 1000000) (hw : ∀ x ∈ l, x.word.length ≤ 1000000) (h : ∀ H', Ghost.le H H' → Sl rPiece H' (l.map toPc) B k c → TK n I K E H' ((O.eraseIdx q).eraseIdx (if p < q then p else p - 1))) : TK n I K E H O := by
 refine tSealRows (r := rStr) dC (l := pcR l) (xs := l.map fun x => x.word) (q := q) (by simp [pcR]) hR (fun i x ys hi hy => ?_) fun H1 hle h6 => ?_
 ·rw [List.getElem?_map] at hy
  obtain ⟨z, hz, rfl⟩ := Option.map_eq_some_iff.1 hy
  rw [pcR_at hz] at hi
  cases hi
  exact ⟨⟨_, _, rfl⟩, repsS _, by have := hw z (mG hz); simp only; omega⟩
 ·have hlen : (O.eraseIdx q)[if p < q then p else p - 1]? = some (.row 187 2 (.slice B k c) k (pcO l)) := by
   by_cases h1 : p < q
   ·rw [if_pos h1, List.getElem?_eraseIdx, if_pos h1]; exact hO
   ·rw [if_neg h1, List.getElem?_eraseIdx, if_neg oM, show p - 1 + 1 = p by omega]; exact hO
  have h4 : Reps rPiece H1 (l.map toPc) (pcO l) := by
   have k0 : ∀ l : List PcM, (∀ (i : Nat) (z : PcM), l[i]? = some z → Sl rStr H1 z.word z.A z.word.length z.c) → Reps rPiece H1 (l.map toPc) (pcO l) := by
    intro l
    induction l with
    | nil => intro _; exact .nil
    | cons z l ih => intro h2; exact Reps.cons (r := rPiece) (c := [_, _]) ⟨_, _, _, rfl, h2 0 z rfl⟩ (ih fun i y hy => h2 (i + 1) y (by simpa using hy))
   exact k0 l fun i z hz => h6 i _ _ _ _ _ (pcR_at hz) (by rw [List.getElem?_map, hz]; rfl)
  exact tSealRow (r := rPiece) (ys := l.map toPc) hlen h4 dC oM fun H2 h5 h7 => h H2 (hle.trans h5) h7
end
end
section
open Go.Proofs.Tryz
attribute [local irreducible] TK Yl OpK AnyT wpList Code.wp
theorem c22o {h1 : HL} {caps : LV} {p : BA → Bool} (hl : Sl rStr H xs A n c) (hn : n ≤ 140737488355328) (hg : ∀ (args : Array Value) (w : World), (callFunc g args).run PP w = .ok (.enter g args) w) (hf : ∀ x ∈ xs, Ct PP g ([.string x] ++ caps : LV).toArray H [h1] fun v H' O' => O' = [h1] ∧ v = .bool (p x)) : Ct PP 22 #[.slice A n c, .func (.func g) #[] caps.toArray] H [h1] fun v H' O' => O' = [h1] ∧ v = .int .i64 (idxOf p xs) := by
 refine cB func22 ntmps22 fun I hD hI b6 => ?_
 refine g12c ?_
 intros
 refine lp0 (fun D E H' O m => ∃ (i : Nat), H = H' ∧ (i ≤ n) ∧ (∀ (j : Nat) (y : BA), j < i → xs[j]? = some y → p y = false) ∧ m = n - i ∧ O = [h1] ∧ E = (8, .int .i64 (i : Int)) :: D) [0, 1, 7] [0] ⟨0, rfl, Nat.zero_le _, upto_zero, rfl, rfl, rfl⟩ ?_
 rintro _ _ _ _ ⟨i, rfl, hi, hp, rfl, rfl, rfl⟩ _ h7
 refine g5b ?_
 intros
 refine cD ?_ ?_ <;> intro h8
 refine g13c ?_
 intros
 obtain ⟨b4, h4⟩ := eX hl i
 obtain ⟨b5, o4, h9, h6⟩ := hl.atS h4
 refine g2 ?_
 refine sq rfl (TK.callRO hD (perm_of_pick [0] [] 1 rfl rfl rfl rfl) rfl rfl (entV hg rfl rfl) (hf _ (mG h4)) ?_)
 rintro v0 rfl
 refine g1 ?_
 refine cN ?_ ?_ <;> intro h5
 refine g5a ?_
 intros
 refine rT results22 ?_
 exact ⟨rfl, congrArg (Value.int .i64) (idxOf_found hp h4 h5).symm⟩
 refine g4 ?_
 exact nK h7 ⟨i + 1, rfl, oM, (upto_succ hp h4 h5), rfl, rfl, rfl⟩
 refine g5a ?_
 intros
 refine rT results22 ?_
 exact ⟨rfl, congrArg (Value.int .i64) (idxOf_none (upto_all hp (by rw [hl.len]; omega))).symm⟩
theorem c7o {h1 : HL} {caps : LV} {p : BA → Bool} (hl : Sl rStr H xs A n c) (hn : n ≤ 140737488355328) (hg : ∀ (args : Array Value) (w : World), (callFunc g args).run PP w = .ok (.enter g args) w) (hf : ∀ x ∈ xs, Ct PP g ([.string x] ++ caps : LV).toArray H [h1] fun v H' O' => O' = [h1] ∧ v = .bool (p x)) : Ct PP 7 #[.slice A n c, .func (.func g) #[] caps.toArray] H [h1] fun v H' O' => O' = [h1] ∧ v = .bool (xs.any p) := by
 refine cB func7 ntmps7 fun I hD hI h4 => ?_
 refine g8b ?_
 intros
 refine sq rfl (fR hD [0] [] rfl call22 rfl (c22o hl hn hg hf) ?_)
 rintro v3 rfl
 refine g3 ?_
 refine rT results7 ?_
 exact ⟨rfl, congrArg Value.bool (idxOf_any p xs)⟩
theorem c168 {s : BA} (hw : Sl rStr H w A n c) (hs0 : w[0]? = some s0) (h0 : 0 < n) (hq7 : HC H z7 0 [.map (some mb)]) (hq4 : HC H z4 0 [.slice A n c]) : Ct PP 168 #[.string s, .pointer (ad z7), .pointer (ad z4)] H [.map mb (mapL Value.string (Value.int .i64) m)] fun v H' O' => O' = [.map mb (mapL Value.string (Value.int .i64) m)] ∧ v = .bool (!decide (pt m s = pt m s0)) := by
 refine cB func168 ntmps168 fun I hD hI h6 => ?_
 refine g5b ?_
 intros
 refine ts 10 fun _ => ?_
 refine tj 0 ?_
 refine g1 ?_
 refine tk 2 rfl kR aS nP kS (yLookup (k := s) (g := (Value.int .i64)) (z := 0) (i := 0) uC (keyStr uC) nC rfl rfl rfl) rfl rfl rfl ?_
 refine g2 ?_
 obtain ⟨x5, h4⟩ := eX hw 0
 obtain ⟨b6, o7, h5, h7⟩ := hw.atS h4
 refine g2 ?_
 refine tk 7 rfl kR aS nP kS (yLookup (k := x5) (g := (Value.int .i64)) (z := 0) (i := 0) uC (keyStr uC) nC rfl rfl rfl) rfl rfl rfl ?_
 refine g4 ?_
 refine rT results168 ?_
 exact ⟨rfl, by have h := h4; rw [hs0] at h; cases h; rfl⟩
end
section
open Go.Proofs.Tryz Go.Lib
attribute [local irreducible] TK Yl OpK AnyT wpList Code.wp
theorem wrap_u8 (x : Int) : IntKind.u8.wrap x = x % 256 := by simp [IntKind.wrap, IntKind.bits, IntKind.signed]
theorem wrap_b (x : Int) : 0 ≤ IntKind.u8.wrap x ∧ IntKind.u8.wrap x ≤ 255 := by rw [wrap_u8]; omega
def keyL (l : LI) : List UInt8 := l.flatMap fun x => [UInt8.ofNat (IntKind.u8.wrap x).toNat, UInt8.ofNat (IntKind.u8.wrap (x / 2 ^ 8)).toNat]
def keyB (l : LI) : BA := ⟨(keyL l).toArray⟩
theorem keyL_next {l : LI} {i : Nat} (hx : l[i]? = some x) : keyL (l.take (i + 1)) = keyL (l.take i) ++ [UInt8.ofNat (IntKind.u8.wrap x).toNat] ++ [UInt8.ofNat (IntKind.u8.wrap (x / 2 ^ 8)).toNat] := by
 rw [List.take_add_one, hx]; simp [keyL]
theorem keyL_len (l : LI) : (keyL l).length = 2 * l.length := by
 induction l with
 | nil => rfl
 | cons x l ih => simp only [keyL, List.flatMap_cons, List.length_append, List.length_cons, List.length_nil] at ih ⊢; omega
theorem keyL_inj : ∀ {l l' : LI}, (∀ x ∈ l, 0 ≤ x ∧ x ≤ 65535) → (∀ x ∈ l', 0 ≤ x ∧ x ≤ 65535) → keyL l = keyL l' → l = l'
 | [], [], _, _, _ => rfl
 | [], y :: l', _, _, h => by have := congrArg List.length h; rw [keyL_len, keyL_len] at this; simp at this
 | x :: l, [], _, _, h => by have := congrArg List.length h; rw [keyL_len, keyL_len] at this; simp at this
 | x :: l, y :: l', h1, h2, h => by
  have e : ∀ (x : Int) (l : LI), keyL (x :: l) = UInt8.ofNat (IntKind.u8.wrap x).toNat :: UInt8.ofNat (IntKind.u8.wrap (x / 2 ^ 8)).toNat :: keyL l := fun x l => rfl
  rw [e, e] at h
  injection h with ha h
  injection h with hb h
  have hx := h1 x (by simp)
  have hy := h2 y (by simp)
  have h4 : IntKind.u8.wrap x = IntKind.u8.wrap y := by rw [← u8_of (wrap_b x).1 (wrap_b x).2, ← u8_of (wrap_b y).1 (wrap_b y).2, ha]
  have h5 : IntKind.u8.wrap (x / 2 ^ 8) = IntKind.u8.wrap (y / 2 ^ 8) := by rw [← u8_of (wrap_b _).1 (wrap_b _).2, ← u8_of (wrap_b (y / 2 ^ 8)).1 (wrap_b _).2, hb]
  rw [wrap_u8, wrap_u8] at h4 h5
  have : x = y := by omega
  rw [this, keyL_inj (fun z hz => h1 z (by simp [hz])) (fun z hz => h2 z (by simp [hz])) h]
theorem keyB_inj {l l' : LI} (h1 : ∀ x ∈ l, 0 ≤ x ∧ x ≤ 65535) (h2 : ∀ x ∈ l', 0 ≤ x ∧ x ≤ 65535) (h : keyB l = keyB l') : l = l' := by
 refine keyL_inj h1 h2 ?_
 have : (keyB l).data = (keyB l').data := by rw [h]
 have := congrArg Array.toList this
 simpa [keyB] using this
theorem c47 {l : LI} (hl : Sl rInt H l A n c) (hn : n ≤ 100000) : Ct PP 47 #[.slice A n c] H [] fun v H' O' => O' = [] ∧ v = .string (keyB l) := by
 have h9 := hl.len
 refine cB func47 ntmps47 fun I hD hI b6 => ?_
 refine g6b ?_
 intros
 refine aL fun b3 => ?_
 refine g9b ?_
 intros
 refine newRow 5 1 ?_
 refine lp0 (fun D E H' O m => ∃ (i : Nat) (p Aw : OA) (cw : Nat), H = H' ∧ (i ≤ n) ∧ (bAddr b3 p) ∧ m = n - i ∧ O = [.row 5 1 (.slice Aw (2 * i) cw) (2 * i) (byteCells (keyL (l.take i))), .blk b3 158 [.pointer p, .slice Aw (2 * i) cw]] ∧ E = (8, .int .i64 (i : Int)) :: D) [3, 6, 7] [0, 1] ⟨0, none, none, 0, rfl, Nat.zero_le _, (.inl rfl), rfl, rfl, rfl⟩ ?_
 rintro _ _ _ _ ⟨i, p, Aw, cw, rfl, hi, hp, rfl, rfl, rfl⟩ _ h5
 refine g5b ?_
 intros
 refine cD ?_ ?_ <;> intro h6
 refine g5b ?_
 intros
 obtain ⟨b4, h4⟩ := eX hl i
 obtain ⟨b5, o4, h7, h8⟩ := hl.atI h4
 refine g8a ?_
 intros
 refine sq rfl (fT hD [1, 0] [] rfl call91 rfl (c91 (y := IntKind.u8.wrap b4) (l := keyL (l.take i)) (n := 2 * i) hp (wrap_b _).1 (wrap_b _).2 oM) ?_)
 rintro v1 O3 ⟨rfl, A1, c25, rfl⟩
 refine g3 ?_
 refine q (yShr (m := 8) rfl rfl dC) rfl rfl rfl ?_
 refine g1 ?_
 refine sq rfl (fT hD [0, 1] [] rfl call91 rfl (c91 (y := IntKind.u8.wrap (b4 / 2 ^ 8)) (l := keyL (l.take i) ++ [UInt8.ofNat (IntKind.u8.wrap b4).toNat]) (n := 2 * i + 1) (.inr rfl) (wrap_b _).1 (wrap_b _).2 oM) ?_)
 rintro v2 O2 ⟨rfl, A0, c29, rfl⟩
 refine g4 ?_
 rw [show 2 * i + 1 + 1 = 2 * (i + 1) by omega, ← keyL_next h4]
 exact TK.nil (wP [1, 0] [] 2 (h5 _ _ _ _ ⟨i + 1, (ad b3), A0, c29, rfl, oM, (.inr rfl), rfl, rfl, rfl⟩ oM))
 refine g3a ?_
 intros
 refine sq rfl (fT hD [1, 0] [] rfl call92 rfl (c92 (l := keyL (l.take i)) oM) ?_)
 rintro v0 O1 ⟨rfl, rfl⟩
 refine g2 ?_
 refine kP [] ?_
 refine rT results47 ?_
 exact ⟨rfl, by rw [List.take_of_length_le oM]; rfl⟩
end
section
open Go.Proofs.Tryz
attribute [local irreducible] TK Yl OpK AnyT wpList Code.wp
theorem c129o {h1 h2 : HL} {caps : LV} {p : Int → Bool} (hl : Sl rInt H xs A n c) (hn : n ≤ 140737488355328) (hg : ∀ (args : Array Value) (w : World), (callFunc g args).run PP w = .ok (.enter g args) w) (hf : ∀ x ∈ xs, Ct PP g ([.int .i64 x] ++ caps : LV).toArray H [h1, h2] fun v H' O' => O' = [h1, h2] ∧ v = .bool (p x)) : Ct PP 129 #[.slice A n c, .func (.func g) #[] caps.toArray] H [h1, h2] fun v H' O' => O' = [h1, h2] ∧ v = .int .i64 (idxOf p xs) := by
 refine cB func129 ntmps129 fun I hD hI b6 => ?_
 refine g12c ?_
 intros
 refine lp0 (fun D E H' O m => ∃ (i : Nat), H = H' ∧ (i ≤ n) ∧ (∀ (j : Nat) (y : Int), j < i → xs[j]? = some y → p y = false) ∧ m = n - i ∧ O = [h1, h2] ∧ E = (8, .int .i64 (i : Int)) :: D) [0, 1, 7] [0, 1] ⟨0, rfl, Nat.zero_le _, upto_zero, rfl, rfl, rfl⟩ ?_
 rintro _ _ _ _ ⟨i, rfl, hi, hp, rfl, rfl, rfl⟩ _ h7
 refine g5b ?_
 intros
 refine cD ?_ ?_ <;> intro h8
 refine g13c ?_
 intros
 obtain ⟨b4, h4⟩ := eX hl i
 obtain ⟨b5, o4, h9, h6⟩ := hl.atI h4
 refine g2 ?_
 refine sq rfl (TK.callRO hD (perm_of_pick [0, 1] [] 2 rfl rfl rfl rfl) rfl rfl (entV hg rfl rfl) (hf _ (mG h4)) ?_)
 rintro v0 rfl
 refine g1 ?_
 refine cN ?_ ?_ <;> intro h5
 refine g5a ?_
 intros
 refine rT results129 ?_
 exact ⟨rfl, congrArg (Value.int .i64) (idxOf_found hp h4 h5).symm⟩
 refine g4 ?_
 exact nK h7 ⟨i + 1, rfl, oM, (upto_succ hp h4 h5), rfl, rfl, rfl⟩
 refine g5a ?_
 intros
 refine rT results129 ?_
 exact ⟨rfl, congrArg (Value.int .i64) (idxOf_none (upto_all hp (by rw [hl.len]; omega))).symm⟩
theorem c77o {h1 h2 : HL} {caps : LV} {p : Int → Bool} (hl : Sl rInt H xs A n c) (hn : n ≤ 140737488355328) (hg : ∀ (args : Array Value) (w : World), (callFunc g args).run PP w = .ok (.enter g args) w) (hf : ∀ x ∈ xs, Ct PP g ([.int .i64 x] ++ caps : LV).toArray H [h1, h2] fun v H' O' => O' = [h1, h2] ∧ v = .bool (p x)) : Ct PP 77 #[.slice A n c, .func (.func g) #[] caps.toArray] H [h1, h2] fun v H' O' => O' = [h1, h2] ∧ v = .bool (xs.any p) := by
 refine cB func77 ntmps77 fun I hD hI h4 => ?_
 refine g8b ?_
 intros
 refine sq rfl (fR hD [0, 1] [] rfl call129 rfl (c129o hl hn hg hf) ?_)
 rintro v3 rfl
 refine g3 ?_
 refine rT results77 ?_
 exact ⟨rfl, congrArg Value.bool (idxOf_any p xs)⟩
theorem c78 {k : Nat} {P : List Bool} {p : Int} (hP : P.length = k) (h0 : 0 ≤ p) (hk : p < k) : Ct PP 78 #[.int .i64 p, .pointer (ad z)] H [.blk z 78 [.slice (ad pb) k k], .row 4 1 (.slice (ad pb) k k) k (P.map Value.bool)] fun v H' O' => O' = [.blk z 78 [.slice (ad pb) k k], .row 4 1 (.slice (ad pb) k k) k (P.map Value.bool)] ∧ v = .bool (bget P p) := by
 refine cB func78 ntmps78 fun I hD hI h4 => ?_
 refine g9b ?_
 intros
 refine q (yLoad1 aC rfl (Mem.row1 (i := 1) rfl (bl_at (bget_at oM)))) rfl rfl rfl ?_
 refine g2 ?_
 refine rT results78 ?_
 exact ⟨rfl, rfl⟩
theorem c37 {x : Net} {from_ : Int} {back : Bool} (hl : Sl rTrans H x.trans A n c) (hv : validN x = true) (h0 : 0 ≤ from_) (h1 : from_ < x.places) : Ct PP 37 #[.agg #[.int .i64 x.places, .slice A n c, .int .i64 x.source, .int .i64 x.sink], .int .i64 from_, .bool back] H [] fun v H' O' => O' = [] ∧ ∃ P T PA TA pn pc tn tc, v = .tuple #[.slice PA pn pc, .slice TA tn tc] ∧ Sl rBool H' P PA pn pc ∧ Sl rBool H' T TA tn tc ∧ pn ≤ 1000000 ∧ tn ≤ 1000000 ∧ ReachR x back from_ P T := by
 have l3 := hl.len
 have k0 := validN_iff.1 hv
 have r3 := k0.1
 have o8 := k0.2.1
 have n9 := k0.2.2.1
 refine cB func37 ntmps37 fun I hD hI r1 => ?_
 refine g2a ?_
 intros
 refine bG fun b2 => ?_
 refine g3 ?_
 refine TK.seq fun K4 k8 => ?_
 have d3 : ∀ (z : Nat) (pb : Nat) (tb : Nat), TK 69 I K4 [(1, .int .i64 from_), (2, .bool back), (3, .pointer (ad b2)), (8, .pointer (ad z)), (9, .slice (ad tb) n n)] H [.blk b2 44 [.int .i64 x.places, .slice A n c, .int .i64 x.source, .int .i64 x.sink], .blk z 78 [.slice (ad pb) ((x.places : Int).toNat) ((x.places : Int).toNat)], .row 4 1 (.slice (ad pb) ((x.places : Int).toNat) ((x.places : Int).toNat)) ((x.places : Int).toNat) (List.replicate ((x.places : Int).toNat) (.bool false)), .row 4 1 (.slice (ad tb) n n) n (List.replicate n (.bool false))] := by
  intro z pb tb
  refine k8 _ _ _ ?_
  refine eO4 (fun e0 e1 _ _ => [e0, e1, .row 4 1 (.slice (ad pb) ((x.places : Int).toNat) ((x.places : Int).toNat)) ((x.places : Int).toNat) ((List.replicate ((x.places : Int).toNat) false).map Value.bool), .row 4 1 (.slice (ad tb) n n) n ((List.replicate n false).map Value.bool)]) ?_ (he := by simp only [List.map_replicate])
  refine g4a ?_
  intros
  have n8 : from_.toNat < x.places.toNat := by omega
  refine g1 ?_
  refine sq rfl (rS 2 ?_)
  rw [bl_set]
  refine g7b ?_
  intros
  refine lp2 (fun D f f1 E H' O m => ∃ (P T : List Bool) (ch : Bool), H = H' ∧ (RInv x back from_ P T) ∧ (ch = false → RDone x back P T x.trans.length) ∧ m = 2 * nfal T + (if ch = true then 1 else 0) ∧ O = [f, f1, .row 4 1 (.slice (ad pb) ((x.places : Int).toNat) ((x.places : Int).toNat)) ((x.places : Int).toNat) (P.map Value.bool), .row 4 1 (.slice (ad tb) n n) n (T.map Value.bool)] ∧ E = (10, .bool ch) :: D) [2, 3, 8, 9] [0, 1, 2, 3] ⟨((List.replicate ((x.places : Int).toNat) false).set from_.toNat true), (List.replicate n false), true, rfl, (by rw [← l3]; exact RInv.start h0 h1), (fun h => by cases h), rfl, rfl, rfl⟩ ?_
  rintro _ _ _ _ ⟨P, T, ch, rfl, hR, hd, rfl, rfl, rfl⟩ _ i8
  refine g5b ?_
  intros
  refine cN ?_ ?_ <;> intro i4
  refine g12b ?_
  intros
  refine g2 ?_
  refine lp2 (fun D f f1 E H' O m => ∃ (i : Nat) (P' T' : List Bool) (c' : Bool), H = H' ∧ (i ≤ n) ∧ (RInv x back from_ P' T') ∧ (c' = false → RDone x back P' T' i) ∧ (nfal T' ≤ nfal T) ∧ (c' = true → nfal T' < nfal T) ∧ m = n - i ∧ O = [f, f1, .row 4 1 (.slice (ad pb) ((x.places : Int).toNat) ((x.places : Int).toNat)) ((x.places : Int).toNat) (P'.map Value.bool), .row 4 1 (.slice (ad tb) n n) n (T'.map Value.bool)] ∧ E = (10, .bool c') :: (31, .int .i64 (i : Int)) :: D) [2, 3, 8, 9, 29, 30] [0, 1, 2, 3] ⟨0, P, T, false, rfl, Nat.zero_le _, hR, (fun _ => RDone.zero), Nat.le_refl _, (fun h => by cases h), rfl, rfl, rfl⟩ ?_
  rintro _ _ _ _ ⟨i, P', T', c', rfl, hi, h7, f9, d2, e3, rfl, rfl, rfl⟩ _ b4
  have l2 := h7.lt
  refine g5b ?_
  intros
  refine cD ?_ ?_ <;> intro n2
  refine g6b ?_
  intros
  obtain ⟨i5, h5⟩ := eX hl i
  obtain ⟨o7, o6, n7, l5, k2, n4⟩ := hl.at_ h5
  obtain ⟨A1, n0, c42, A0, n1, c46, rfl, h8, h9⟩ := k2
  refine g2 ?_
  refine aL fun o9 => ?_
  refine g1 ?_
  refine sG 0 ?_
  refine g2a ?_
  intros
  refine ts 6 fun _ => ?_
  refine tj 0 ?_
  refine g12b ?_
  intros
  refine cN ?_ ?_ <;> intro n3
  subst back
  refine g9b ?_
  intros
  have b8 := (validN_iff.1 hv).2.2.2.1 _ (mG h5)
  refine g3 ?_
  obtain ⟨t2, b9⟩ := ex_i (l := T') (i := i) (by have := h7.lt; omega)
  refine q (yLoad1 aC rfl (Mem.row1 (i := 4) rfl (bl_at b9))) rfl rfl rfl ?_
  refine g1 ?_
  refine sB 47 ?_ ?_ <;> intro d9
  have h4 : T'[i]? = some true := by rw [← d9]; exact b9
  refine g11 ?_
  exact nK b4 ⟨i + 1, P', T', c', rfl, oM, h7, (fun h => (f9 h).skip h5 (.inl h4)), d2, e3, rfl, rfl, rfl⟩
  have h4 : T'[i]? = some false := by rw [← d9]; exact b9
  refine g2 ?_
  have e8 : ∀ p ∈ i5.outs, 0 ≤ p ∧ p < x.places := okTr_outs b8
  have k9 := h7.lp
  refine sqY rfl rfl rfl rfl (fR hD [2, 3] [0, 1, 4] rfl call77 rfl (c77o (p := bget P') h9 (by have := h9.2.2.1; omega) call78 (fun p hp => c78 oM (e8 p hp).1 (by have := e8 p hp; omega))) ?_)
  rintro v0 rfl
  refine g3 ?_
  refine cN ?_ ?_ <;> intro j3
  refine g4 ?_
  exact nK b4 ⟨i + 1, P', T', c', rfl, oM, h7, (fun h => (f9 h).skip h5 (.inr (by simpa [rIn] using j3))), d2, e3, rfl, rfl, rfl⟩
  refine g6a ?_
  intros
  refine sq rfl (rS 4 ?_)
  rw [bl_set]
  refine g9a ?_
  intros
  refine lp4 (fun D f f1 f2 f3 E H' O m => ∃ (qq : Nat) (P0 : List Bool), H = H' ∧ (qq ≤ n0) ∧ (P0.length = P'.length) ∧ (∀ r, bget P' r = true → bget P0 r = true) ∧ (∀ (j : Nat) (y : Int), j < qq → i5.ins[j]? = some y → bget P0 y = true) ∧ m = n0 - qq ∧ O = [f, f1, f2, .row 4 1 (.slice (ad pb) ((x.places : Int).toNat) ((x.places : Int).toNat)) ((x.places : Int).toNat) (P0.map Value.bool), f3] ∧ E = (58, .int .i64 (qq : Int)) :: D) [2, 3, 8, 9, 10, 29, 30, 31, 56, 57] [0, 1, 2, 3, 4] ⟨0, P', rfl, Nat.zero_le _, rfl, (fun r h => h), upto_zero, rfl, rfl, rfl⟩ ?_
  rintro _ _ _ _ ⟨qq, P0, rfl, hq, d1, c0, c1, rfl, rfl, rfl⟩ _ j7
  refine g5b ?_
  intros
  refine cD ?_ ?_ <;> intro l1
  refine g5b ?_
  intros
  obtain ⟨e4, d5⟩ := eX h8 qq
  obtain ⟨r0, o5, l8, l6⟩ := h8.atI d5
  refine g5 ?_
  have l0 := okTr_ins b8 _ (mG d5)
  have e9 := h7.lp
  have l9 := h8.2.2.1
  refine g3 ?_
  refine sq rfl (rS 3 ?_)
  rw [bl_set]
  refine g4 ?_
  exact nK j7 ⟨qq + 1, P0.set ((e4 : Int).toNat) true, rfl, oM, (by rw [List.length_set]; exact d1), (fun r hr => (bget_set (P := P0) (p := e4) oM).2 (.inr (c0 r hr))), (upto_succ (p := fun q => bget (P0.set ((e4 : Int).toNat) true) q = true) (fun j y hj hy => (bget_set (P := P0) (p := e4) oM).2 (.inr (c1 j y hj hy))) d5 ((bget_set (P := P0) (p := e4) oM).2 (.inl rfl))), rfl, rfl, rfl⟩
  refine g4 ?_
  exact nK b4 ⟨i + 1, P0, T'.set i true, true, rfl, oM, (h7.take h5 d1 c0 (fun j q hj => c1 j q (by have := h8.len; simp only [rOut] at hj; omega))), (fun h => by cases h), (by have := nfal_set h4; omega), (fun _ => by have := nfal_set h4; omega), rfl, rfl, rfl⟩
  subst back
  refine g4b ?_
  intros
  have b8 := (validN_iff.1 hv).2.2.2.1 _ (mG h5)
  refine g3 ?_
  obtain ⟨t1, b5⟩ := ex_i (l := T') (i := i) (by have := h7.lt; omega)
  refine q (yLoad1 aC rfl (Mem.row1 (i := 4) rfl (bl_at b5))) rfl rfl rfl ?_
  refine g1 ?_
  refine sB 47 ?_ ?_ <;> intro e2
  have h6 : T'[i]? = some true := by rw [← e2]; exact b5
  refine g11 ?_
  exact nK b4 ⟨i + 1, P', T', c', rfl, oM, h7, (fun h => (f9 h).skip h5 (.inl h6)), d2, e3, rfl, rfl, rfl⟩
  have h6 : T'[i]? = some false := by rw [← e2]; exact b5
  refine g2 ?_
  have e8 : ∀ p ∈ i5.ins, 0 ≤ p ∧ p < x.places := okTr_ins b8
  have k9 := h7.lp
  refine sqY rfl rfl rfl rfl (fR hD [2, 3] [0, 1, 4] rfl call77 rfl (c77o (p := bget P') h8 (by have := h8.2.2.1; omega) call78 (fun p hp => c78 oM (e8 p hp).1 (by have := e8 p hp; omega))) ?_)
  rintro v1 rfl
  refine g3 ?_
  refine cN ?_ ?_ <;> intro j2
  refine g4 ?_
  exact nK b4 ⟨i + 1, P', T', c', rfl, oM, h7, (fun h => (f9 h).skip h5 (.inr (by simpa [rIn] using j2))), d2, e3, rfl, rfl, rfl⟩
  refine g6a ?_
  intros
  refine sq rfl (rS 4 ?_)
  rw [bl_set]
  refine g9a ?_
  intros
  refine lp4 (fun D f f1 f2 f3 E H' O m => ∃ (qq : Nat) (P0 : List Bool), H = H' ∧ (qq ≤ n1) ∧ (P0.length = P'.length) ∧ (∀ r, bget P' r = true → bget P0 r = true) ∧ (∀ (j : Nat) (y : Int), j < qq → i5.outs[j]? = some y → bget P0 y = true) ∧ m = n1 - qq ∧ O = [f, f1, f2, .row 4 1 (.slice (ad pb) ((x.places : Int).toNat) ((x.places : Int).toNat)) ((x.places : Int).toNat) (P0.map Value.bool), f3] ∧ E = (58, .int .i64 (qq : Int)) :: D) [2, 3, 8, 9, 10, 29, 30, 31, 56, 57] [0, 1, 2, 3, 4] ⟨0, P', rfl, Nat.zero_le _, rfl, (fun r h => h), upto_zero, rfl, rfl, rfl⟩ ?_
  rintro _ _ _ _ ⟨qq, P0, rfl, hq, d1, c0, c1, rfl, rfl, rfl⟩ _ i9
  refine g5b ?_
  intros
  refine cD ?_ ?_ <;> intro l4
  refine g5b ?_
  intros
  obtain ⟨b7, b6⟩ := eX h9 qq
  obtain ⟨n6, o4, k5, k6⟩ := h9.atI b6
  refine g5 ?_
  have l0 := okTr_outs b8 _ (mG b6)
  have e9 := h7.lp
  have l9 := h9.2.2.1
  refine g3 ?_
  refine sq rfl (rS 3 ?_)
  rw [bl_set]
  refine g4 ?_
  exact nK i9 ⟨qq + 1, P0.set ((b7 : Int).toNat) true, rfl, oM, (by rw [List.length_set]; exact d1), (fun r hr => (bget_set (P := P0) (p := b7) oM).2 (.inr (c0 r hr))), (upto_succ (p := fun q => bget (P0.set ((b7 : Int).toNat) true) q = true) (fun j y hj hy => (bget_set (P := P0) (p := b7) oM).2 (.inr (c1 j y hj hy))) b6 ((bget_set (P := P0) (p := b7) oM).2 (.inl rfl))), rfl, rfl, rfl⟩
  refine g4 ?_
  exact nK b4 ⟨i + 1, P0, T'.set i true, true, rfl, oM, (h7.take h5 d1 c0 (fun j q hj => c1 j q (by have := h9.len; simp only [rOut] at hj; omega))), (fun h => by cases h), (by have := nfal_set h6; omega), (fun _ => by have := nfal_set h6; omega), rfl, rfl, rfl⟩
  exact nE i8 ⟨P', T', c', rfl, h7, (fun h => by have h2 := f9 h; intro j t hj; exact h2 j t oM), rfl, rfl, rfl⟩ (hm := by have l7 := i4; subst l7; cases hcc : c' with | true => (have := e3 hcc; simp; omega) | false => (simp; omega))
  refine g8a ?_
  intros
  obtain rfl : ch = false := by simpa using i4
  refine tR 2 (r := rBool) (ys := P) (repsB _) fun H1 d4 d0 => ?_
  have hl := hl.mono d4
  refine tR 2 (r := rBool) (ys := T) (repsB _) fun H0 d8 f8 => ?_
  have ⟨d0, hl⟩ := mo2 d8 d0 hl
  have k7 := d0
  have n5 := f8
  refine kP [] ?_
  refine r2 results37 ?_
  exact ⟨rfl, P, T, _, _, _, _, _, _, rfl, k7, n5, by omega, by omega, hR, hd rfl⟩
 refine ts 10 fun _ => ?_
 refine tj 0 ?_
 refine g1 ?_
 refine tj 3 ?_
 refine g2 ?_
 refine tm3 2 6 7 ?_ ?_ ?_
 refine tMake uC iC rfl rfl rfl oM oM oM dC fun d7 => ?_
 refine g1 ?_
 refine tm2 6 7 ?_ ?_
 refine tMake uC iC rfl rfl rfl oM oM oM dC fun j1 => ?_
 refine g1 ?_
 refine oI 7 rfl kR (tAlloc zC dC fun i6 => ?_)
 refine g1 ?_
 refine oI 8 rfl kR (tStore1 (i := 0) rfl sC rfl rfl rfl nL ?_)
 refine g3 ?_
 exact TK.nil (wP [3, 0, 2, 1] [] 4 (d3 i6 d7 j1))
 refine tAlloc zC dC fun e7 => ?_
 refine g1 ?_
 refine tm2 6 8 ?_ ?_
 refine tMake uC iC rfl rfl rfl oM oM oM dC fun k3 => ?_
 refine g1 ?_
 refine oI 8 rfl kR (tStore1 (i := 1) rfl sC rfl rfl rfl nL ?_)
 refine g3 ?_
 exact TK.nil (wP [3, 1, 2, 0] [] 4 (d3 e7 d7 k3))
 refine tStore1 (i := 0) rfl sC rfl rfl rfl nL ?_
 refine g1 ?_
 refine oI 6 rfl kR (tMake uC iC rfl rfl rfl oM oM oM dC fun j4 => ?_)
 refine g1 ?_
 refine tj 9 ?_
 refine g1 ?_
 exact TK.nil (wP [3, 1, 2, 0] [] 4 (d3 e7 d7 j4))
 refine tMake uC iC rfl rfl rfl oM oM oM dC fun e6 => ?_
 refine g1 ?_
 refine tm2 2 7 ?_ ?_
 refine tMake uC iC rfl rfl rfl oM oM oM dC fun k4 => ?_
 refine g1 ?_
 refine oI 7 rfl kR (tAlloc zC dC fun j9 => ?_)
 refine g1 ?_
 refine oI 8 rfl kR (tStore1 (i := 0) rfl sC rfl rfl rfl nL ?_)
 refine g3 ?_
 exact TK.nil (wP [3, 0, 1, 2] [] 4 (d3 j9 k4 e6))
 refine tAlloc zC dC fun i7 => ?_
 refine g1 ?_
 refine oI 2 rfl kR (tMake uC iC rfl rfl rfl oM oM oM dC fun j8 => ?_)
 refine g1 ?_
 refine oI 8 rfl kR (tStore1 (i := 1) rfl sC rfl rfl rfl nL ?_)
 refine g3 ?_
 exact TK.nil (wP [3, 1, 0, 2] [] 4 (d3 i7 j8 e6))
 refine tAlloc zC dC fun d6 => ?_
 refine g1 ?_
 refine tm2 2 6 ?_ ?_
 refine tMake uC iC rfl rfl rfl oM oM oM dC fun e5 => ?_
 refine g1 ?_
 refine tm2 6 8 ?_ ?_
 refine tMake uC iC rfl rfl rfl oM oM oM dC fun j6 => ?_
 refine g1 ?_
 refine oI 8 rfl kR (tStore1 (i := 2) rfl sC rfl rfl rfl nL ?_)
 refine g3 ?_
 exact TK.nil (wP [3, 2, 1, 0] [] 4 (d3 d6 e5 j6))
 refine tStore1 (i := 1) rfl sC rfl rfl rfl nL ?_
 refine g1 ?_
 refine oI 6 rfl kR (tMake uC iC rfl rfl rfl oM oM oM dC fun k1 => ?_)
 refine g1 ?_
 refine tj 9 ?_
 refine g1 ?_
 exact TK.nil (wP [3, 2, 1, 0] [] 4 (d3 d6 e5 k1))
 refine tMake uC iC rfl rfl rfl oM oM oM dC fun j0 => ?_
 refine g1 ?_
 refine oI 2 rfl kR (tMake uC iC rfl rfl rfl oM oM oM dC fun j5 => ?_)
 refine g1 ?_
 refine oI 8 rfl kR (tStore1 (i := 2) rfl sC rfl rfl rfl nL ?_)
 refine g3 ?_
 exact TK.nil (wP [3, 2, 0, 1] [] 4 (d3 d6 j5 j0))
theorem c15 {t : Tree} {x : Net} (hx : x = netOf t) (hok : okT t = true) (hl : Sl rTrans H x.trans A n c) (hv : validN x = true) : Ct PP 15 #[.agg #[.int .i64 x.places, .slice A n c, .int .i64 x.source, .int .i64 x.sink]] H [] fun v H' O' => O' = [] ∧ v = .bool true := by
 have i6 := hl.len
 have f8 := validN_iff.1 hv
 have i7 := f8.2.2.1
 have e2 : x.source = 0 := by subst hx; rfl
 have d8 : x.sink = 1 := by subst hx; rfl
 have i8 := okTr_src hv
 have j3 := okTr_sink hv
 refine cB func15 ntmps15 fun I hD hI j4 => ?_
 refine g2a ?_
 intros
 refine bG fun b2 => ?_
 refine g6b ?_
 intros
 refine sq rfl (fS hD rfl call35 rfl ((by have h := c35 hl; rw [hv] at h; exact h)) ?_)
 rintro v5 rfl
 refine g9 ?_
 refine cD ?_ ?_ <;> intro j2
 refine g4a ?_
 intros
 refine kP [] ?_
 refine rT results15 ?_
 exfalso; omega
 refine g10b ?_
 intros
 refine lp1 (fun D f E H' O m => ∃ (i : Nat), H = H' ∧ (i ≤ n) ∧ m = n - i ∧ O = [f] ∧ E = (23, .int .i64 (i : Int)) :: D) [1, 21, 22] [0] ⟨0, rfl, Nat.zero_le _, rfl, rfl, rfl⟩ ?_
 rintro _ _ _ _ ⟨i, rfl, hi, rfl, rfl, rfl⟩ _ b9
 refine g5b ?_
 intros
 refine cD ?_ ?_ <;> intro i4
 refine g5b ?_
 intros
 obtain ⟨d6, h8⟩ := eX hl i
 obtain ⟨j0, o4, e5, e9, d5, f9⟩ := hl.at_ h8
 obtain ⟨A1, n1, c31, A0, n0, c35, rfl, b6, b7⟩ := d5
 refine g2 ?_
 refine aL fun j1 => ?_
 refine sG 0 ?_
 refine g7a ?_
 intros
 have c0 : memB x.source d6.outs = false := by rw [Bool.eq_false_iff]; intro hm; have hm := memB_iff.1 hm; rw [e2] at hm; exact net_outs (t := t) _ (hx ▸ mG h8) hm
 refine sq rfl (fS hD rfl call36 rfl ((by have h := c36 (y := x.source) b7 (by have := b7.2.2.1; omega); rw [c0] at h; exact h)) ?_)
 rintro v4 rfl
 refine g5 ?_
 have d3 : memB x.sink d6.ins = false := by rw [Bool.eq_false_iff]; intro hm; have hm := memB_iff.1 hm; rw [d8] at hm; exact net_ins (t := t) _ (hx ▸ mG h8) hm
 refine sqY rfl rfl rfl rfl (fS hD rfl call36 rfl ((by have h := c36 (y := x.sink) b6 (by have := b6.2.2.1; omega); rw [d3] at h; exact h)) ?_)
 rintro v7 rfl
 refine g7 ?_
 exact nK b9 ⟨i + 1, rfl, oM, rfl, rfl, rfl⟩
 refine g4b ?_
 intros
 refine sq rfl (tBSlice (k := 1) (out := [.bool false, .bool true]) uC sC nC rfl (fun zs hz => fillAll [.bool false, .bool true] zs hz) rfl dC dC dC dC fun i9 => ?_)
 refine g4 ?_
 refine lp2 (fun D f f1 E H' O m => ∃ (j : Nat), Ghost.le H H' ∧ (j ≤ 2) ∧ m = 2 - j ∧ O = [f, f1] ∧ E = (42, .int .i64 (j : Int)) :: D) [1, 40, 41] [0, 1] ⟨0, Ghost.le.refl _, oM, rfl, rfl, rfl⟩ ?_
 rintro _ _ _ _ ⟨j, h4, hj, rfl, rfl, rfl⟩ _ b4
 have hl := hl.mono h4
 refine g5b ?_
 intros
 refine cD ?_ ?_ <;> intro i5
 refine g6b ?_
 intros
 obtain ⟨b5, h9⟩ : ∃ b, [Value.bool false, .bool true][0 + j * 1]? = some (.bool b) := by (have : j = 0 ∨ j = 1 := by omega); rcases this with rfl | rfl <;> exact ⟨_, rfl⟩
 refine q (yLoad1 aC rfl (Mem.row1 (i := 0) rfl h9)) rfl rfl rfl ?_
 refine g13c ?_
 intros
 refine cN ?_ ?_ <;> intro e4
 subst b5
 refine g10a ?_
 intros
 refine sq rfl (fP hD rfl call37 rfl (c37 (from_ := x.sink) (back := true) hl hv oM oM) ?_)
 rintro v6 H1 ⟨P2, T1, P1, T4, d9, e0, t2, t4, rfl, d0, d2, e3, e7, d1⟩ h7
 have hl := hl.mono h7
 have h5 : memB false P2 = false ∧ memB false T1 = false := by subst hx; exact ReachR.all hok hv d1
 refine g9a ?_
 intros
 refine sq rfl (fS hD rfl call38 rfl ((by have h := c38 (y := false) d0 oM; rw [h5.1] at h; exact h)) ?_)
 rintro v8 rfl
 refine g2 ?_
 refine sqY rfl rfl rfl rfl (fS hD rfl call38 rfl ((by have h := c38 (y := false) d2 oM; rw [h5.2] at h; exact h)) ?_)
 rintro v2 rfl
 refine g7 ?_
 exact nK b4 ⟨j + 1, (h4.trans h7), oM, rfl, rfl, rfl⟩
 subst b5
 refine g6a ?_
 intros
 refine sq rfl (fP hD rfl call37 rfl (c37 (from_ := x.source) (back := false) hl hv oM oM) ?_)
 rintro v3 H0 ⟨P0, T2, P3, T3, e1, d7, t1, t3, rfl, d4, b8, e8, e6, c1⟩ h6
 have hl := hl.mono h6
 have h5 : memB false P0 = false ∧ memB false T2 = false := by subst hx; exact ReachR.all hok hv c1
 refine g9a ?_
 intros
 refine sq rfl (fS hD rfl call38 rfl ((by have h := c38 (y := false) d4 oM; rw [h5.1] at h; exact h)) ?_)
 rintro v1 rfl
 refine g2 ?_
 refine sqY rfl rfl rfl rfl (fS hD rfl call38 rfl ((by have h := c38 (y := false) b8 oM; rw [h5.2] at h; exact h)) ?_)
 rintro v0 rfl
 refine g7 ?_
 exact nK b4 ⟨j + 1, (h4.trans h6), oM, rfl, rfl, rfl⟩
 refine g5a ?_
 intros
 refine kP [] ?_
 refine rT results15 ?_
 exact ⟨rfl, rfl⟩
end
section
structure Node where
 k : Int
 m : LI
 run : LI
def rNode : Rep Node :=
 ⟨3, fun H x cs => ∃ A n c A' n' c', cs = [.int .i64 x.k, .slice A n c, .slice A' n' c'] ∧ Sl rInt H x.m A n c ∧ Sl rInt H x.run A' n' c', fun hle ⟨A, n, c, A', n', c', h, hs, hs'⟩ => ⟨A, n, c, A', n', c', h, hs.mono hle, hs'.mono hle⟩,
  fun ⟨_, _, _, _, _, _, h, _⟩ => by rw [h]; rfl, fun ⟨_, _, _, _, _, _, h, _⟩ => by rw [h]; simp [Value.oneCell']⟩
theorem Mem.reps {α : Type} {r : Rep α} {H : Ghost} {O : List HL} {xs : List α} {i b m c' e : Nat} (h : Reps r H xs cs) (hO : O[i]? = some (.row e r.k (.slice (some ⟨b, 0, none⟩) m c') m cs)) {j : Nat} {x : α} (hj : xs[j]? = some x) : ∃ d, r.rel H x d ∧ Mem H O b (0 + j * r.k) d := by
 rw [Nat.zero_add]; exact h.mem hO hj
section
variable {n : Nat} {I : Init} {K : Act → World → Prop} {E : Env} {H : Ghost} {O : List HL}
theorem row_capD {i e k m c : Nat} {A : OA} {cs : LV} (hO : O[i]? = some (.row e k (.slice A m c) m cs)) (h : m ≤ c → TK n I K E H O) : TK n I K E H O := by
 intro a w ha hs
 refine h ?_ a w ha hs
 have h4 : w.ownsRow 0 e k (.slice A m c) m cs := hs.st.own _ (mG hO)
 rcases h4.2 with ⟨hv, h0⟩ | ⟨g, cap, cur, hv, _, _, hle, _⟩
 ·omega
 ·injection hv with h1 h2 h3; omega
end
theorem cutA_someD {b c l : Nat} (h : l < c) : cutA (some ⟨b, 0, none⟩) c l k = some ⟨b, 0 + l * k, none⟩ := by
 unfold cutA; rw [if_neg oM, Option.map_some, Addr.add_lit]
def doneB (x : Net) (w : LB) (nd : Node) : Bool := decide (nd.k = (w.length : Int)) && decide (nd.m = oneM x x.sink)
theorem foldl_max_ge : ∀ (l : LI) (a : Int), a ≤ l.foldl max a ∧ ∀ y ∈ l, y ≤ l.foldl max a
 | [], a => ⟨Int.le_refl _, by simp⟩
 | b :: l, a => by
  obtain ⟨h1, h2⟩ := foldl_max_ge l (max a b)
  refine ⟨by rw [List.foldl_cons]; omega, fun y hy => ?_⟩
  rw [List.foldl_cons]
  rcases List.mem_cons.1 hy with rfl | hy
  ·omega
  ·exact h2 y hy
theorem maxL_ge {l : LI} {y : Int} (hy : y ∈ l) : y ≤ maxL l := by
 cases l with
 | nil => simp at hy
 | cons b l =>
  obtain ⟨h1, h2⟩ := foldl_max_ge l b
  rcases List.mem_cons.1 hy with rfl | hy
  ·exact h1
  ·exact h2 y hy
theorem MkL.self {m : LI} : MkL m.length m (getM m) := ⟨rfl, fun k hk => by have := getM_at (m := m) (p := (k : Int)) (by rw [Int.toNat_natCast]; exact hk); rwa [Int.toNat_natCast] at this⟩
theorem fire_ok {m' : LI} {t : Nat} {tr : Trans} (hv : validN x = true) (hm : okM x m) (ht : x.trans[t]? = some tr) (hf : fireM x m (t : Int) = (m', 0)) : okM x m' := by
 rw [fireM_at oM (by rw [Int.toNat_natCast]; exact ht)] at hf
 unfold fireT at hf
 split at hf
 ·cases hf
 ·rename_i hen
  split at hf
  ·cases hf
  ·rename_i hmax
   cases hf
   have h6 := (validN_iff.1 hv).2.2.2.1 tr (mG ht)
   have h4 := h6
   unfold okTr at h4
   rw [Bool.and_eq_true, Bool.and_eq_true] at h4
   have hi := okTr_ins h6
   have ho := okTr_outs h6
   have hl := hm.1
   have hs := (MkL.self (m := m).sub (placesB_nodup h4.1.2) fun p hp => by have := hi p hp; omega).add (placesB_nodup h4.2) fun p hp => by have := ho p hp; omega
   have h5 : MkL m.length (nextM tr m) (fun y => getM m y - ind tr.ins y + ind tr.outs y) := hs
   refine ⟨by rw [h5.1, hl], fun k hk => ⟨?_, by have := maxL_ge hk; omega⟩⟩
   obtain ⟨j, hj⟩ := List.getElem?_of_mem hk
   have h7 := (gE hj).1
   rw [h5.2 j (by rw [← h5.1]; exact h7)] at hj
   cases hj
   have hb := bnd_get (m := m) (p := (j : Int)) hm.2 (by rw [Int.toNat_natCast, ← h5.1]; exact h7)
   have h8 : 0 ≤ ind tr.outs (j : Int) := by unfold ind; split <;> omega
   have h9 : ind tr.ins (j : Int) ≤ getM m (j : Int) := by
    unfold ind
    split
    ·rename_i hji
     have b4 : ¬ getM m (j : Int) = 0 := by
      intro e
      apply hen
      unfold enB
      rw [Bool.not_eq_false', List.any_eq_true]
      exact ⟨_, hji, by simp [e]⟩
     omega
    ·exact hb.1
   simp only
   omega
structure NodeOk (x : Net) (w : LB) (nd : Node) : Prop where
 k : 0 ≤ nd.k ∧ nd.k ≤ (w.length : Int)
 m : okM x nd.m
 run : ∀ t ∈ nd.run, 0 ≤ t ∧ t < (x.trans.length : Int)
 word : wordN x nd.run = w.take nd.k.toNat
theorem NodeOk.start {w : LB} (hv : validN x = true) : NodeOk x w ⟨0, oneM x x.source, []⟩ where
 k := by simp only; omega
 m := by
  have hs := okTr_src hv
  refine ⟨by simp [oneM], fun k hk => ?_⟩
  unfold oneM at hk
  rcases List.mem_or_eq_of_mem_set hk with hk | rfl
  ·rw [List.eq_of_mem_replicate hk]; omega
  ·omega
 run := by simp
 word := by simp [wordN]
def kNext (tr : Trans) (k : Int) : Int := if tr.label = ⟨#[]⟩ then k else k + 1
def fitsL (w : LB) (tr : Trans) (k : Int) : Prop := tr.label = ⟨#[]⟩ ∨ w[k.toNat]? = some tr.label
theorem NodeOk.next {w : LB} {nd : Node} (hv : validN x = true) (h : NodeOk x w nd) {t : Nat} {tr : Trans} (ht : x.trans[t]? = some tr) (hl : fitsL w tr nd.k) {m' : LI} (hf : fireM x nd.m (t : Int) = (m', 0)) : NodeOk x w ⟨kNext tr nd.k, m', nd.run ++ [(t : Int)]⟩ where
 k := by
  have := h.k
  unfold kNext
  split
  ·exact this
  ·rename_i hn
   rcases hl with hl | hl
   ·exact absurd hl hn
   ·have := (gE hl).1; simp only; omega
 m := fire_ok hv h.m ht hf
 run := by
  intro s hs
  rcases List.mem_append.1 hs with hs | hs
  ·exact h.run s hs
  ·simp at hs; subst hs; have := (gE ht).1; omega
 word := by
  have hw := h.word
  have hk := h.k
  have e : wordN x (nd.run ++ [(t : Int)]) = wordN x nd.run ++ (if tr.label = ⟨#[]⟩ then [] else [tr.label]) := by
   unfold wordN
   rw [List.filterMap_append]
   congr 1
   simp only [List.filterMap_cons, Int.toNat_natCast, ht, List.filterMap_nil]
   by_cases hlab : tr.label = ⟨#[]⟩
   ·simp [hlab]
   ·simp [hlab]
  rw [e, hw]
  unfold kNext
  rcases hl with hl | hl
  ·rw [if_pos hl, if_pos hl, List.append_nil]
  ·by_cases hn : tr.label = ⟨#[]⟩
   ·rw [if_pos hn, if_pos hn, List.append_nil]
   ·rw [if_neg hn, if_neg hn, show (nd.k + 1).toNat = nd.k.toNat + 1 by omega, List.take_add_one, hl]; rfl
theorem NodeOk.done {w : LB} {nd : Node} (h : NodeOk x w nd) (hd : doneB x w nd = true) : wordN x nd.run = w := by
 unfold doneB at hd
 rw [Bool.and_eq_true, decide_eq_true_eq] at hd
 rw [h.word, hd.1, Int.toNat_natCast, List.take_length]
def SeenOk (nodes : List Node) (mp : List (BA × Bool)) : Prop := ∀ s, (mget mp s).getD false = true → ∃ nd ∈ nodes, keyB (nd.k :: nd.m) = s
theorem SeenOk.start (nd : Node) : SeenOk [nd] (mput [] (keyB (nd.k :: nd.m)) true) := fun s h => by
 rw [mget_mput] at h
 split at h
 ·rename_i h2; exact ⟨nd, by simp, h2⟩
 ·simp [mget] at h
theorem SeenOk.add (h : SeenOk nodes mp) (nd : Node) : SeenOk (nodes ++ [nd]) (mput mp (keyB (nd.k :: nd.m)) true) := fun s hs => by
 rw [mget_mput] at hs
 split at hs
 ·rename_i h2; exact ⟨nd, by simp, h2⟩
 ·obtain ⟨n', hn, he⟩ := h s hs; exact ⟨n', by simp [hn], he⟩
def Met (nodes : List Node) (k : Int) (m : LI) : Prop := ∃ nd ∈ nodes, nd.k = k ∧ nd.m = m
theorem Met.mono {k : Int} {m : LI} (h : Met nodes k m) (nd : Node) : Met (nodes ++ [nd]) k m := by obtain ⟨n', hn, he⟩ := h; exact ⟨n', by simp [hn], he⟩
theorem node_key {w : LB} (hw : w.length ≤ 200) (h : NodeOk x w nd) : ∀ y ∈ nd.k :: nd.m, 0 ≤ y ∧ y ≤ 65535 := by
 intro y hy
 rcases List.mem_cons.1 hy with rfl | hy
 ·have := h.k; omega
 ·have := h.m.2 y hy; omega
theorem SeenOk.met {w : LB} (hw : w.length ≤ 200) (h : SeenOk nodes mp) (hok : ∀ nd ∈ nodes, NodeOk x w nd) {nd : Node} (hn : NodeOk x w nd) (hs : (mget mp (keyB (nd.k :: nd.m))).getD false = true) : Met nodes nd.k nd.m := by
 obtain ⟨n', h1, h2⟩ := h _ hs
 have := keyB_inj (node_key hw (hok n' h1)) (node_key hw hn) h2
 injection this with h3 h4
 exact ⟨n', h1, h3, h4⟩
def Look (x : Net) (w : LB) (nodes : List Node) (nd : Node) (u : Nat) : Prop := ∀ (t : Nat) (tr : Trans) (m' : LI), t < u → x.trans[t]? = some tr → fitsL w tr nd.k → fireM x nd.m (t : Int) = (m', 0) → Met nodes (kNext tr nd.k) m'
theorem Look.zero {w : LB} {nd : Node} : Look x w nodes nd 0 := fun t tr m' h => by omega
theorem Look.mono {w : LB} {nd nd' : Node} (h : Look x w nodes nd u) : Look x w (nodes ++ [nd']) nd u := fun t tr m' h1 h2 h3 h4 => (h t tr m' h1 h2 h3 h4).mono _
theorem Look.skip {w : LB} {nd : Node} {tr : Trans} (h : Look x w nodes nd u) (ht : x.trans[u]? = some tr) (hs : fitsL w tr nd.k → (fireM x nd.m (u : Int)).2 = 0 → Met nodes (kNext tr nd.k) (fireM x nd.m (u : Int)).1) : Look x w nodes nd (u + 1) := fun t t1 m' h1 h2 h3 h4 => by
 rcases Nat.lt_or_ge t u with h5 | h5
 ·exact h t t1 m' h5 h2 h3 h4
 ·obtain rfl : t = u := by omega
  rw [ht] at h2; cases h2
  have := hs h3 (by rw [h4])
  rw [h4] at this; exact this
def Looked (x : Net) (w : LB) (nodes : List Node) (i : Nat) : Prop := ∀ (j : Nat) (nd : Node), j < i → nodes[j]? = some nd → doneB x w nd = false ∧ Look x w nodes nd x.trans.length
theorem Looked.zero {w : LB} : Looked x w nodes 0 := fun j nd h => by omega
theorem Looked.mono {w : LB} {nodes : List Node} {nd' : Node} {i : Nat} (hi : i ≤ nodes.length) (h : Looked x w nodes i) : Looked x w (nodes ++ [nd']) i := fun j nd h1 h2 => by
 rw [List.getElem?_append_left oM] at h2
 obtain ⟨h3, h4⟩ := h j nd h1 h2
 exact ⟨h3, h4.mono⟩
theorem Looked.step {w : LB} {nd : Node} (h : Looked x w nodes i) (hn : nodes[i]? = some nd) (hd : doneB x w nd = false) (hl : Look x w nodes nd u) (hu : x.trans.length ≤ u) : Looked x w nodes (i + 1) := fun j n0 h1 h2 => by
 rcases Nat.lt_or_ge j i with h3 | h3
 ·exact h j n0 h3 h2
 ·obtain rfl : j = i := by omega
  rw [hn] at h2; cases h2
  exact ⟨hd, fun t tr m' h4 => hl t tr m' oM⟩
theorem Looked.none {w : LB} (h : Looked x w nodes nodes.length) {m : LI} (h0 : Met nodes 0 m) (hr : RunL x m s w (oneM x x.sink)) : False := by
 have k0 : ∀ {m m' : LI} {s : List Nat} {v : Word}, RunL x m s v m' → ∀ {k : Int}, Met nodes k m → 0 ≤ k → w.drop k.toNat = v → k.toNat + v.length = w.length → m' = oneM x x.sink → False := by
  intro m m' s v hr
  induction hr with
  | nil _ =>
   intro k ⟨nd, hn, hk, hm⟩ h8 hv hlen he
   obtain ⟨j, hj⟩ := List.getElem?_of_mem hn
   have := (h j nd (gE hj).1 hj).1
   unfold doneB at this
   rw [Bool.and_eq_false_iff, decide_eq_false_iff_not, decide_eq_false_iff_not] at this
   simp only [List.length_nil] at hlen
   rcases this with h1 | h1
   ·exact h1 (by rw [hk]; omega)
   ·exact h1 (by rw [hm, he])
  | @step m m1 m2 i t s v ht _ hf _ ih =>
   intro k ⟨nd, hn, hk, hm⟩ h8 hv hlen he
   obtain ⟨j, hj⟩ := List.getElem?_of_mem hn
   have hl := (h j nd (gE hj).1 hj).2
   subst hm hk
   have h6 : fitsL w t nd.k := by
    by_cases hlab : t.label = ⟨#[]⟩
    ·exact .inl hlab
    ·right
     have h5 : labW t = [t.label] := if_neg hlab
     have : (w.drop nd.k.toNat)[0]? = some t.label := by rw [hv, h5]; rfl
     rw [List.getElem?_drop] at this
     simpa using this
   have h4 := hl i t m1 (gE ht).1 ht h6 hf
   by_cases hlab : t.label = ⟨#[]⟩
   ·have h5 : labW t = [] := if_pos hlab
    have h7 : kNext t nd.k = nd.k := if_pos hlab
    rw [h7] at h4
    rw [h5] at hv hlen
    exact ih h4 h8 hv hlen he
   ·have h5 : labW t = [t.label] := if_neg hlab
    have h7 : kNext t nd.k = nd.k + 1 := if_neg hlab
    rw [h7] at h4
    rw [h5] at hv hlen
    refine ih h4 oM ?_ ?_ he
    ·rw [show (nd.k + 1).toNat = nd.k.toNat + 1 by omega, ← List.drop_drop, hv]; rfl
    ·simp only [List.length_append, List.length_singleton] at hlen; omega
 exact k0 hr h0 (Int.le_refl _) (by simp) (by simp) rfl
end
end Go.Proofs.YtookcfeogbeooaaGreatDoor
