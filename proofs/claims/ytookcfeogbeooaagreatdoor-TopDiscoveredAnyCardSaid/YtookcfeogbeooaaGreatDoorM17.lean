/-
How the pieces of a word grow. Words that are split, 2. More operations: a map taken out of many and put back. Variants that are split among the parts of a cut. Variants that are split.
Conditions: those that each theorem states.
-/
import Derived.Test.YtookcfeogbeooaaGreatDoorM16
set_option linter.all false
set_option maxRecDepth 100000
set_option maxHeartbeats 8000000
set_option autoImplicit true
set_option relaxedAutoImplicit true
namespace Go.Proofs.YtookcfeogbeooaaGreatDoor
open Go Go.Proofs
section
theorem Mem.row2 {H : Ghost} {O : List HL} {i b m c off e k : Nat} {arr : LV} (hO : O[i]? = some (.row e k (.slice (some ⟨b, 0, none⟩) m c) m arr)) (h0 : arr[off + 0]? = some u) (h1 : arr[off + 1]? = some v) : Mem H O b off [u, v] := by
 intro w hs j x hj
 match j with
 | 0 => simp at hj; subst hj; exact Mem.row1 (H := H) hO h0 w hs 0 _ rfl
 | 1 =>
  simp at hj; subst hj
  have := Mem.row1 (H := H) hO h1 w hs 0 _ rfl
  simpa using this
 | j + 2 => simp at hj
theorem set_last {α : Type} {x y : α} : ∀ l : List α, (l ++ [x]).set l.length y = l ++ [y]
 | [] => rfl
 | a :: l => by rw [List.cons_append, List.length_cons, List.set_cons_succ, set_last l]; rfl
theorem pcO_snoc {l : List PcM} : pcO l ++ [.int .i64 0, .slice none 0 0] = pcO (l ++ [pcZero]) := by simp [pcO, pcZero]
theorem pcR_snoc {l : List PcM} : pcR l ++ [(.slice none 0 0, 0, [])] = pcR (l ++ [pcZero]) := by simp [pcR, pcZero]
theorem pcR_app {l : List PcM} {k : Nat} {p : PcM} {A : OA} {c : Nat} {s : BA} : (pcR l).set k (.slice A (p.word.length + 1) c, p.word.length + 1, (p.word.map fun s => Value.string s) ++ [.string s]) = pcR (l.set k ⟨p.part, A, c, p.word ++ [s]⟩) := by simp [pcR, List.map_set]
theorem pcO_app {l : List PcM} {k : Nat} {A : OA} {c : Nat} {s : BA} (h : l[k]? = some p) : (pcO l).set (0 + k * 2 + 1) (.slice A (p.word.length + 1) c) = pcO (l.set k ⟨p.part, A, c, p.word ++ [s]⟩) := by
 have := pcO_setW (A := A) (c := c) (w := p.word ++ [s]) h
 rwa [List.length_append, List.length_singleton] at this
section
variable {m : List (BA × Int)} {n i : Nat} {w : LB} {l : List PcM} {s t : BA} {p p2 : PcM} {A : OA} {c k : Nat}
structure LoopI (m : List (BA × Int)) (n : Nat) (w : LB) (i : Nat) (l : List PcM) : Prop where
 flat : (l.map (·.word)).flatten = w.take i
 pts : ∀ p ∈ l, ∀ s ∈ p.word, pt m s = p.part
 ne : l ≠ []
 rng : ∀ p ∈ l, 0 ≤ p.part ∧ p.part < (n : Int)
 adj : ∀ (j : Nat) (p q : PcM), l[j]? = some p → l[j + 1]? = some q → p.part ≠ q.part
 last : ∀ (s : BA) (p : PcM), 0 < i → w[i - 1]? = some s → l[l.length - 1]? = some p → p.part = pt m s
 zero : i = 0 → ∃ A c, l = [⟨0, A, c, []⟩]
 len : l.length ≤ i + 1
 wlen : ∀ p ∈ l, p.word.length ≤ i
theorem LoopI.start (hn : 0 < n) : LoopI m n w 0 [pcZero] where
 flat := rfl
 pts p hp s hs := by simp at hp; subst hp; simp [pcZero] at hs
 ne := by simp
 rng p hp := by simp at hp; subst hp; simp only [pcZero]; omega
 adj j p q h1 h2 := by
  have := (gE h2).1
  simp at this
 last s p h := by omega
 zero _ := ⟨_, _, rfl⟩
 len := by simp
 wlen p hp := by simp at hp; subst hp; simp [pcZero]
theorem LoopI.first (h : LoopI m n w 0 l) (hs : w[0]? = some s) (hr : 0 ≤ pt m s ∧ pt m s < (n : Int)) (hk : k + 1 = l.length) (hp : l[k]? = some p) (hp2 : (l.set k { p with part := pt m s })[k]? = some p2) :
  LoopI m n w (0 + 1) ((l.set k { p with part := pt m s }).set k ⟨p2.part, A, c, p2.word ++ [s]⟩) := by
 obtain ⟨A0, c0, rfl⟩ := h.zero rfl
 simp at hk
 subst hk
 simp at hp
 subst hp
 simp at hp2
 subst hp2
 simp only [List.set_cons_zero, List.nil_append]
 have hw : w.take 1 = [s] := by rw [List.take_add_one, hs]; rfl
 refine ⟨by rw [hw]; rfl, fun q hq t ht => ?_, by simp, fun q hq => ?_, fun j q r h1 h2 => ?_, fun t q _ ht hq => ?_, fun h => by omega, by simp, fun q hq => ?_⟩
 ·simp at hq; subst hq; simp at ht; subst ht; rfl
 ·simp at hq; subst hq; exact hr
 ·have := (gE h2).1
  simp at this
 ·simp at hq ht; subst hq; rw [hs] at ht; cases ht; rfl
 ·simp at hq; subst hq; simp
theorem flat_set {l : List PcM} {k : Nat} {A : OA} {c : Nat} {s : BA} {v : Int} (hk : k + 1 = l.length) (hp : l[k]? = some p) : ((l.set k ⟨v, A, c, p.word ++ [s]⟩).map (·.word)).flatten = (l.map (·.word)).flatten ++ [s] := by
 obtain ⟨l', rfl⟩ : ∃ l', l = l' ++ [p] := by
  have h4 : l ≠ [] := by intro e; subst e; simp at hk
  refine ⟨l.dropLast, ?_⟩
  have h1 := List.dropLast_concat_getLast h4
  have hg : l.getLast h4 = p := by
   rw [List.getLast_eq_getElem]
   obtain ⟨h6, he⟩ := gE hp
   rw [← he]
   congr 1
   omega
  rw [hg] at h1
  exact h1.symm
 have h5 : k = l'.length := by simp at hk; omega
 subst h5
 rw [set_last]
 simp
theorem LoopI.same (h : LoopI m n w i l) (hi : 0 < i) (hs : w[i]? = some s) (ht : w[i - 1]? = some t) (he : pt m s = pt m t) (hk : k + 1 = l.length) (hp : l[k]? = some p) : LoopI m n w (i + 1) (l.set k ⟨p.part, A, c, p.word ++ [s]⟩) := by
 have h6 : k = l.length - 1 := by omega
 have h4 := h.last t p hi ht (by rw [← h6]; exact hp)
 have h5 := mG hp
 refine ⟨by rw [flat_set hk hp, h.flat, List.take_add_one, hs]; rfl, fun q hq u hu => ?_, fun e => h.ne (by simpa using e), fun q hq => ?_, fun j q r h1 h2 => ?_, fun u q _ hu hq => ?_, fun h => by omega, by rw [List.length_set]; have := h.len; omega, fun q hq => ?_⟩
 ·rcases List.mem_or_eq_of_mem_set hq with hq | rfl
  ·exact h.pts q hq u hu
  ·simp only at hu ⊢
   rcases List.mem_append.1 hu with hu | hu
   ·exact h.pts p h5 u hu
   ·simp at hu; subst hu; rw [he, h4]
 ·rcases List.mem_or_eq_of_mem_set hq with hq | rfl
  ·exact h.rng q hq
  ·exact h.rng p h5
 ·rw [List.getElem?_set] at h1 h2
  split at h2
  ·rename_i e
   subst e
   rw [if_neg oM] at h1
   split at h2
   ·cases h2; exact h.adj j q p h1 hp
   ·cases h2
  ·split at h1
   ·rename_i e; subst e; exfalso; have := (gE h2).1; omega
   ·exact h.adj j q r h1 h2
 ·rw [List.length_set, ← h6] at hq
  have hl : k < l.length := by omega
  simp [hl] at hq
  subst hq
  rw [show i + 1 - 1 = i by omega, hs] at hu
  cases hu
  simp only
  rw [h4, he]
 ·rcases List.mem_or_eq_of_mem_set hq with hq | rfl
  ·have := h.wlen q hq; omega
  ·have := h.wlen p h5; simp; omega
theorem LoopI.new (h : LoopI m n w i l) (hi : 0 < i) (hs : w[i]? = some s) (ht : w[i - 1]? = some t) (he : pt m s ≠ pt m t) (hr : 0 ≤ pt m s ∧ pt m s < (n : Int)) (hk : k = l.length) (hp : (l ++ [pcZero])[k]? = some p) (hp2 : ((l ++ [pcZero]).set k { p with part := pt m s })[k]? = some p2) :
  LoopI m n w (i + 1) (((l ++ [pcZero]).set k { p with part := pt m s }).set k ⟨p2.part, A, c, p2.word ++ [s]⟩) := by
 subst hk
 have e0 : p = pcZero := by rw [List.getElem?_append_right oM] at hp; simpa using hp.symm
 subst e0
 have hl : l.length < (l ++ [pcZero]).length := by simp
 have e1 : p2 = { pcZero with part := pt m s } := by rw [List.getElem?_set, if_pos rfl, if_pos hl] at hp2; exact (Option.some.inj hp2).symm
 subst e1
 have e2 : ((l ++ [pcZero]).set l.length { pcZero with part := pt m s }).set l.length ⟨pt m s, A, c, [] ++ [s]⟩ = l ++ [⟨pt m s, A, c, [s]⟩] := by
  rw [List.set_set, set_last]; rfl
 show LoopI m n w (i + 1) (((l ++ [pcZero]).set l.length { pcZero with part := pt m s }).set l.length ⟨pt m s, A, c, [] ++ [s]⟩)
 rw [e2]
 have h4 : ∀ q, q ∈ l ++ [(⟨pt m s, A, c, [s]⟩ : PcM)] → q ∈ l ∨ q = ⟨pt m s, A, c, [s]⟩ := fun q hq => by simpa using hq
 refine ⟨by rw [List.map_append, List.flatten_append, h.flat, List.take_add_one, hs]; rfl, fun q hq u hu => ?_, by simp, fun q hq => ?_, fun j q r h1 h2 => ?_, fun u q _ hu hq => ?_, fun h => by omega, by have := h.len; simp; omega, fun q hq => ?_⟩
 ·rcases h4 q hq with hq | rfl
  ·exact h.pts q hq u hu
  ·simp at hu; subst hu; rfl
 ·rcases h4 q hq with hq | rfl
  ·exact h.rng q hq
  ·exact hr
 ·have hj := (gE h2).1
  simp at hj
  rw [List.getElem?_append_left oM] at h1
  rcases Nat.lt_or_ge (j + 1) l.length with h3 | h3
  ·rw [List.getElem?_append_left h3] at h2; exact h.adj j q r h1 h2
  ·rw [List.getElem?_append_right h3, show j + 1 - l.length = 0 by omega] at h2
   simp at h2
   subst h2
   have := h.last t q hi ht (by rw [show l.length - 1 = j by omega]; exact h1)
   rw [this]; exact fun e => he e.symm
 ·rw [List.length_append, List.length_singleton, show l.length + 1 - 1 = l.length by omega, List.getElem?_append_right oM] at hq
  simp at hq
  subst hq
  rw [show i + 1 - 1 = i by omega, hs] at hu
  cases hu
  rfl
 ·rcases h4 q hq with hq | rfl
  ·have := h.wlen q hq; omega
  ·simp
theorem LoopI.split (h : LoopI m n w i l) (hi : w.length ≤ i) (hc : ∀ (j : Nat) (p : PcM), l[j]? = some p → p.part ≠ 0 → j ≠ 0 ∧ ∃ q, l[j + 1]? = some q ∧ q.part = 0) : SplitW m 4 n w (l.map toPc) := by
 refine .inr (.inl ⟨rfl, ?_, fun p hp s hs => ?_, by simpa using h.ne, fun p hp => ?_, fun j p q h1 h2 => ?_, fun j p h1 h2 => ?_⟩)
 ·rw [List.map_map]
  have := h.flat
  rw [List.take_of_length_le hi] at this
  exact this
 ·obtain ⟨x, hx, rfl⟩ := List.mem_map.1 hp; exact h.pts x hx s hs
 ·obtain ⟨x, hx, rfl⟩ := List.mem_map.1 hp; exact h.rng x hx
 ·rw [List.getElem?_map] at h1 h2
  obtain ⟨x, hx, rfl⟩ := Option.map_eq_some_iff.1 h1
  obtain ⟨y, hy, rfl⟩ := Option.map_eq_some_iff.1 h2
  exact h.adj j x y hx hy
 ·rw [List.getElem?_map] at h1
  obtain ⟨x, hx, rfl⟩ := Option.map_eq_some_iff.1 h1
  obtain ⟨h3, q, h4, h5⟩ := hc j x hx h2
  exact ⟨h3, toPc q, by rw [List.getElem?_map, h4]; rfl, h5⟩
structure PartsI (m : List (BA × Int)) (kind : Int) (n : Nat) (w : LB) (i : Nat) (l : List PcM) : Prop where
 len : l.length = n
 word : ∀ (k : Nat) (p : PcM), l[k]? = some p → p.word = (w.take i).filter fun s => decide (pt m s = (k : Int))
 asc : kind = 2 → ∀ (j : Nat) (s t : BA), j + 1 < i → w[j]? = some s → w[j + 1]? = some t → pt m s ≤ pt m t
theorem PartsI.start {kind : Int} : PartsI m kind n w 0 (List.replicate n pcZero) where
 len := by simp
 word k p h := by
  have := mG h
  rw [List.eq_of_mem_replicate this]; simp [pcZero]
 asc _ j s t h := by omega
theorem PartsI.step {kind : Int} (h : PartsI m kind n w i l) (hs : w[i]? = some s) (hk : (k : Int) = pt m s) (hp : l[k]? = some p) (ha : kind = 2 → 0 < i → ∀ t, w[i - 1]? = some t → pt m t ≤ pt m s) : PartsI m kind n w (i + 1) (l.set k ⟨p.part, A, c, p.word ++ [s]⟩) where
 len := by rw [List.length_set]; exact h.len
 word j q hq := by
  rw [List.take_add_one, hs, Option.toList_some, List.filter_append]
  rw [List.getElem?_set] at hq
  split at hq
  ·rename_i e
   subst e
   split at hq
   ·cases hq
    rw [h.word k p hp]
    simp [hk]
   ·cases hq
  ·rename_i e
   rw [h.word j q hq]
   have : ¬ pt m s = (j : Int) := by omega
   simp [this]
 asc hkd j u t hj hu ht := by
  rcases Nat.lt_or_ge (j + 1) i with h1 | h1
  ·exact h.asc hkd j u t h1 hu ht
  ·obtain rfl : i = j + 1 := by omega
   rw [hs] at ht; cases ht
   exact ha hkd oM u (by simpa using hu)
theorem PartsI.setP {kind v : Int} (h : PartsI m kind n w i l) (hp : l[k]? = some p) : PartsI m kind n w i (l.set k { p with part := v }) where
 len := by rw [List.length_set]; exact h.len
 word j q hq := by
  rw [List.getElem?_set] at hq
  split at hq
  ·rename_i e
   subst e
   split at hq
   ·cases hq; exact h.word k p hp
   ·cases hq
  ·exact h.word j q hq
 asc := h.asc
theorem PartsI.split {kind : Int} (h : PartsI m kind n w i l) (hi : w.length ≤ i) (h1 : kind ≠ 1) (h4 : kind ≠ 4) (hp : ∀ (k : Nat) (p : PcM), l[k]? = some p → p.part = (k : Int)) : SplitW m kind n w (l.map toPc) := by
 refine .inr (.inr ⟨h1, h4, ?_, fun h2 j s t hs ht => h.asc h2 j s t (by have := (gE ht).1; omega) hs ht⟩)
 apply List.ext_getElem?
 intro k
 rw [List.getElem?_map, List.getElem?_map]
 rcases Nat.lt_or_ge k n with hk | hk
 ·rw [List.getElem?_range hk]
  obtain ⟨p, h5⟩ := ex_i (l := l) (i := k) (by rw [h.len]; exact hk)
  rw [h5]
  simp only [Option.map_some]
  congr 1
  have e1 := h.word k p h5
  rw [List.take_of_length_le hi] at e1
  unfold toPc
  rw [hp k p h5, e1]
 ·rw [List.getElem?_eq_none (by rw [h.len]; exact hk), List.getElem?_eq_none (by simpa using hk)]; rfl
end
end
section
open Go.Proofs.Tryz
attribute [local irreducible] TK Yl OpK AnyT wpList Code.wp
theorem chk_step {u : Nat} {l : List PcM} (h : ∀ (j : Nat) (p : PcM), j < u → l[j]? = some p → p.part ≠ 0 → j ≠ 0 ∧ ∃ q, l[j + 1]? = some q ∧ q.part = 0) (hx : l[u]? = some x) (hp : x.part ≠ 0 → u ≠ 0 ∧ ∃ q, l[u + 1]? = some q ∧ q.part = 0) : ∀ (j : Nat) (p : PcM), j < u + 1 → l[j]? = some p → p.part ≠ 0 → j ≠ 0 ∧ ∃ q, l[j + 1]? = some q ∧ q.part = 0 := by
 intro j p hj h1 h2
 rcases Nat.lt_or_ge j u with h3 | h3
 ·exact h j p h3 h1 h2
 ·have e : j = u := by omega
  subst e
  rw [hx] at h1; cases h1
  exact hp h2
theorem wlen_snoc {N : Nat} {l : List PcM} (h : ∀ q ∈ l, q.word.length ≤ N) : ∀ q ∈ l ++ [pcZero], q.word.length ≤ N := fun q hq => by
 rcases List.mem_append.1 hq with h1 | h1
 ·exact h q h1
 ·simp at h1; subst h1; simp [pcZero]
theorem wlen_set {N k j : Nat} {l : List PcM} {v : Int} (h : ∀ q ∈ l, q.word.length ≤ N) (hp : l[k]? = some p) (hp2 : (l.set k { p with part := v })[j]? = some p2) : p2.word.length ≤ N := by
 rcases List.mem_or_eq_of_mem_set (mG hp2) with h1 | rfl
 ·exact h _ h1
 ·exact h p (mG hp)
theorem parts_set {u : Nat} {l : List PcM} {p : PcM} (h : ∀ (k : Nat) (p : PcM), k < u → l[k]? = some p → p.part = (k : Int)) (hp : l[u]? = some p) : ∀ (k : Nat) (q : PcM), k < u + 1 → (l.set u { p with part := (u : Int) })[k]? = some q → q.part = (k : Int) := by
 intro k q hk hq
 rw [List.getElem?_set] at hq
 split at hq
 ·rename_i e
  subst e
  split at hq
  ·cases hq; rfl
  ·cases hq
 ·rename_i e
  exact h k q oM hq
theorem prev_at {α : Type} {w : List α} {i : Nat} {x : α} (h : w[((i : Int) - 1 : Int).toNat]? = some x) : w[i - 1]? = some x := by
 rwa [show ((i : Int) - 1 : Int).toNat = i - 1 by omega] at h
theorem c110 {n : Nat} {kind : Int} (hw : Sl rStr H w A nw cw) (hw200 : nw ≤ 200) (hn0 : 0 < n) (hn : n ≤ 1000) (hrg : ∀ s ∈ w, 0 ≤ pt m s ∧ pt m s < (n : Int)) : Ct PP 110 #[.slice A nw cw, .int .i64 kind, .int .i64 (n : Int), .map (some mb)] H [.map mb (mapL Value.string (Value.int .i64) m)] fun v H' O' => O' = [.map mb (mapL Value.string (Value.int .i64) m)] ∧ (v = .tuple #[.slice none 0 0, .bool false] ∨ ∃ B k c ps, v = .tuple #[.slice B k c, .bool true] ∧ Sl rPiece H' ps B k c ∧ SplitW m kind n w ps ∧ k ≤ 1000) := by
 have t2 := hw.len
 refine cB func110 ntmps110 fun I hD hI u9 => ?_
 refine g2a ?_
 intros
 refine bX [.slice A nw cw] fun b2 => ?_
 refine bX [.map (some mb)] fun b3 => ?_
 refine g6b ?_
 intros
 refine tSeal (i := 1) rfl fun H6 k9 e3 => ?_
 have hw := hw.mono k9
 have u0 := e3
 refine tSeal (i := 0) rfl fun H9 k4 d1 => ?_
 have ⟨hw, e3⟩ := mo2 k4 hw e3
 refine g8a ?_
 intros
 refine cD ?_ ?_ <;> intro r9
 refine g7b ?_
 intros
 refine sD 25 ?_ ?_ <;> intro r4
 refine g11a ?_
 intros
 refine r2 results110 ?_
 exact ⟨rfl, .inl rfl⟩
 refine g2 ?_
 obtain ⟨s0, l0⟩ := ex_i (l := w) (i := 0) oM
 refine sqY rfl rfl rfl rfl (fR hD [0] [] rfl call7 rfl (c7o (p := fun s => !decide (pt m s = pt m s0)) (caps := [.pointer (ad b3), .pointer (ad b2)]) hw oM call168 (fun x hx => c168 hw l0 oM d1 e3)) ?_)
 rintro v0 rfl
 refine g2 ?_
 refine cN ?_ ?_ <;> intro l6
 refine g5a ?_
 intros
 refine r2 results110 ?_
 exact ⟨rfl, .inl rfl⟩
 refine g2a ?_
 intros
 refine ts 6 fun _ => ?_
 refine tj 0 ?_
 refine g1 ?_
 obtain ⟨j6, i8⟩ := eX hw 0
 obtain ⟨u3, u4, r6, j4⟩ := hw.atS i8
 refine g2 ?_
 refine tk 4 rfl kR aS nP kS (yLookup (k := j6) (g := (Value.int .i64)) (z := 0) (i := 0) uC (keyStr uC) nC rfl rfl rfl) rfl rfl rfl ?_
 refine g3 ?_
 refine sq rfl (bS [.int .i64 ((mget m j6).getD 0), .slice A nw cw] fun u1 => ?_)
 refine g3 ?_
 have l7 : ∀ t ∈ w, pt m t = pt m s0 := by have h := l6; rw [List.any_eq_false] at h; intro t ht; simpa using h t ht
 have r5 : j6 = s0 := by have h := i8; rw [l0] at h; cases h; rfl
 refine tR 0 (r := rPiece) (ys := [(⟨pt m j6, w⟩ : Piece)]) (.single ⟨_, _, _, rfl, hw⟩) fun H2 j3 l8 => ?_
 have ⟨hw, e3, d1, j4⟩ := mo4 j3 hw e3 d1 j4
 have j7 := l8
 have i7 : SplitW m kind n w [(⟨pt m j6, w⟩ : Piece)] := .inl ⟨by omega, (fun e => by simp [e] at t2; omega), s0, l0, by rw [r5], l7⟩
 refine r2 results110 ?_
 exact ⟨rfl, .inr ⟨_, _, _, _, rfl, j7, i7, by omega⟩⟩
 refine g5a ?_
 intros
 refine cD ?_ ?_ <;> intro s7
 refine g3a ?_
 intros
 refine sq rfl (bS [.int .i64 0, .slice none 0 0] fun s3 => ?_)
 refine g10b ?_
 intros
 refine newRowsNil 9 1 (pcR [pcZero]) (pcR_zero 1) ?_
 refine lp1 (fun D f E H O m' => ∃ (i : Nat) (l : List PcM) (K : Nat) (Aq : OA) (cq : Nat), H9 = H ∧ (i ≤ nw) ∧ (l.length = K) ∧ (LoopI m n w i l) ∧ m' = nw - i ∧ O = [.rows 9 1 (pcR (l)), .row 187 2 (.slice Aq K cq) K (pcO (l)), f] ∧ E = (10, .slice Aq K cq) :: (44, .int .i64 (i : Int)) :: D) [4, 7, 42, 43] [0, 1, 2] ⟨0, [pcZero], 1, some ⟨s3, 0, none⟩, 1, rfl, Nat.zero_le _, rfl, (LoopI.start hn0), rfl, rfl, rfl⟩ ?_
 rintro _ _ _ _ ⟨i, l, K, Aq, cq, rfl, hi, hK, hI, rfl, rfl, rfl⟩ _ i4
 have s8 := hI.len
 have u7 := List.length_pos_iff.2 hI.ne
 refine g5b ?_
 intros
 refine cD ?_ ?_ <;> intro t9
 refine g6b ?_
 intros
 obtain ⟨b5, d2⟩ := eX hw i
 obtain ⟨u6, u5, t7, s9⟩ := hw.atS d2
 refine g2 ?_
 have e8 := hrg _ (mG d2)
 have l3 : 0 ≤ (mget m b5).getD 0 ∧ (mget m b5).getD 0 < (n : Int) := e8
 refine g5b ?_
 intros
 refine ts 15 fun _ => ?_
 refine tj 0 ?_
 refine g2 ?_
 refine sD 51 ?_ ?_ <;> intro t8
 refine tjN 3 ?_
 refine g12 ?_
 refine g8b ?_
 intros
 refine cD ?_ ?_ <;> intro r7
 exfalso; omega
 refine g8 ?_
 refine q (yLookup (k := b5) (g := (Value.int .i64)) (z := 0) (i := 2) uC (keyStr uC) nC rfl rfl rfl) rfl rfl rfl ?_
 refine row_addr (i := 1) rfl oM fun l2 l1 => ?_
 subst l1
 refine g2 ?_
 obtain ⟨d9, d3⟩ := ex_i (l := l) (i := ((K : Int) - 1 : Int).toNat) oM
 refine sq rfl (rS 1 ?_ (ho := by rw [pcO_len]; omega))
 try simp only [Int.toNat_natCast]
 rw [pcO_setP d3, ← pcR_setP (v := (mget m b5).getD 0) d3]
 refine g12 ?_
 obtain ⟨e0, h9⟩ := ex_i (l := (l).set (((K : Int) - 1 : Int).toNat) { d9 with part := (mget m b5).getD 0 }) (i := ((K : Int) - 1 : Int).toNat) (by simp; omega)
 refine q (yLoad1 aC rfl (Mem.row1 (i := 1) rfl (pcO_at h9).2)) rfl rfl rfl ?_
 refine g1 ?_
 refine sq rfl (bS [.string b5] fun o7 => ?_)
 have k3 := (wlen_set hI.wlen d3 h9)
 refine sq rfl (TK.rowOut (O := [.row 9 1 (.slice (ad o7) 1 1) 1 [.string b5], .rows 9 1 (pcR ((l).set (((K : Int) - 1 : Int).toNat) { d9 with part := (mget m b5).getD 0 })), .row 187 2 (.slice (ad l2) K cq) K (pcO ((l).set (((K : Int) - 1 : Int).toNat) { d9 with part := (mget m b5).getD 0 })), .map mb (mapL Value.string (Value.int .i64) m)]) (q := 1) (i := ((K : Int) - 1 : Int).toNat) rfl (pcR_at h9) (tAppend hD (i := 0) (m := e0.word.length) (news := [.string b5]) rfl uC iC rfl dC rfl rfl (Mem.row (i := 1) rfl rfl) rfl oC oM oM dC fun A3 n5 => TK.rowIn (O := [.row 9 1 (.slice (ad o7) 1 1) 1 [.string b5], .rows 9 1 (pcR ((l).set (((K : Int) - 1 : Int).toNat) { d9 with part := (mget m b5).getD 0 })), .row 187 2 (.slice (ad l2) K cq) K (pcO ((l).set (((K : Int) - 1 : Int).toNat) { d9 with part := (mget m b5).getD 0 })), .map mb (mapL Value.string (Value.int .i64) m)]) (q := 1) (i := ((K : Int) - 1 : Int).toNat) (y := (.slice A3 (e0.word.length + 1) n5, e0.word.length + 1, (e0.word.map fun s => Value.string s) ++ [.string b5])) rfl (pcR_at h9) rfl ?_))
 rw [pcR_app]
 refine g2 ?_
 refine sq rfl (rS 2 ?_ (ho := by rw [pcO_len]; simp; omega))
 rw [pcO_app (s := b5) h9]
 refine g4 ?_
 exact nK i4 ⟨i + 1, ((l).set (((K : Int) - 1 : Int).toNat) { d9 with part := (mget m b5).getD 0 }).set (((K : Int) - 1 : Int).toNat) ⟨e0.part, A3, n5, e0.word ++ [b5]⟩, K, some ⟨l2, 0, none⟩, cq, rfl, oM, (by simp; omega), (by obtain rfl : i = 0 := oM; exact hI.first d2 (hrg _ (mG d2)) oM d3 h9), rfl, rfl, rfl⟩
 refine tjY 3 ?_
 refine g1 ?_
 refine tkY 5 rfl kR aS nP kS (yLookup (k := b5) (g := (Value.int .i64)) (z := 0) (i := 2) uC (keyStr uC) nC rfl rfl rfl) rfl rfl rfl rfl rfl rfl ?_
 refine g4 ?_
 obtain ⟨t3, e7⟩ := Sl.ex hw (i := ((i : Int) - 1 : Int).toNat) oM
 obtain ⟨v1, u2, r3, s6⟩ := hw.atS e7
 refine g2 ?_
 refine tkY 12 rfl kR aS nP kS (yLookup (k := t3) (g := (Value.int .i64)) (z := 0) (i := 2) uC (keyStr uC) nC rfl rfl rfl) rfl rfl rfl rfl rfl rfl ?_
 refine g4 ?_
 refine cN ?_ ?_ <;> intro i6
 refine g6b ?_
 intros
 refine cD ?_ ?_ <;> intro t1
 refine g3 ?_
 refine sq rfl (bS [.int .i64 0, .slice none 0 0] fun r0 => ?_)
 refine sq rfl (aR 2 fun A6 c84 => ?_)
 rw [pcO_snoc]
 refine rowsNil (q := 1) rfl ?_
 rw [pcR_snoc]
 refine g9 ?_
 refine q (yLookup (k := b5) (g := (Value.int .i64)) (z := 0) (i := 3) uC (keyStr uC) nC rfl rfl rfl) rfl rfl rfl ?_
 refine row_addr (i := 2) rfl oM fun k8 k7 => ?_
 subst k7
 refine g2 ?_
 obtain ⟨d7, d4⟩ := ex_i (l := l ++ [pcZero]) (i := (((K + 1 : Nat) : Int) - 1 : Int).toNat) (by simp; omega)
 refine sq rfl (rS 2 ?_ (ho := by rw [pcO_len]; simp; omega))
 try simp only [Int.toNat_natCast]
 rw [pcO_setP d4, ← pcR_setP (v := (mget m b5).getD 0) d4]
 refine g12 ?_
 obtain ⟨d6, h8⟩ := ex_i (l := (l ++ [pcZero]).set ((((K + 1 : Nat) : Int) - 1 : Int).toNat) { d7 with part := (mget m b5).getD 0 }) (i := (((K + 1 : Nat) : Int) - 1 : Int).toNat) (by simp; omega)
 refine q (yLoad1 aC rfl (Mem.row1 (i := 2) rfl (pcO_at h8).2)) rfl rfl rfl ?_
 refine g1 ?_
 refine sq rfl (bS [.string b5] fun n6 => ?_)
 have k3 := (wlen_set (wlen_snoc hI.wlen) d4 h8)
 refine sq rfl (TK.rowOut (O := [.row 9 1 (.slice (ad n6) 1 1) 1 [.string b5], .row 187 2 (.slice (ad r0) 1 1) 1 [.int .i64 0, .slice none 0 0], .rows 9 1 (pcR ((l ++ [pcZero]).set ((((K + 1 : Nat) : Int) - 1 : Int).toNat) { d7 with part := (mget m b5).getD 0 })), .row 187 2 (.slice (ad k8) (K + 1) c84) (K + 1) (pcO ((l ++ [pcZero]).set ((((K + 1 : Nat) : Int) - 1 : Int).toNat) { d7 with part := (mget m b5).getD 0 })), .map mb (mapL Value.string (Value.int .i64) m)]) (q := 2) (i := (((K + 1 : Nat) : Int) - 1 : Int).toNat) rfl (pcR_at h8) (tAppend hD (i := 0) (m := d6.word.length) (news := [.string b5]) rfl uC iC rfl dC rfl rfl (Mem.row (i := 1) rfl rfl) rfl oC oM oM dC fun A5 c93 => TK.rowIn (O := [.row 9 1 (.slice (ad n6) 1 1) 1 [.string b5], .row 187 2 (.slice (ad r0) 1 1) 1 [.int .i64 0, .slice none 0 0], .rows 9 1 (pcR ((l ++ [pcZero]).set ((((K + 1 : Nat) : Int) - 1 : Int).toNat) { d7 with part := (mget m b5).getD 0 })), .row 187 2 (.slice (ad k8) (K + 1) c84) (K + 1) (pcO ((l ++ [pcZero]).set ((((K + 1 : Nat) : Int) - 1 : Int).toNat) { d7 with part := (mget m b5).getD 0 })), .map mb (mapL Value.string (Value.int .i64) m)]) (q := 2) (i := (((K + 1 : Nat) : Int) - 1 : Int).toNat) (y := (.slice A5 (d6.word.length + 1) c93, d6.word.length + 1, (d6.word.map fun s => Value.string s) ++ [.string b5])) rfl (pcR_at h8) rfl ?_))
 rw [pcR_app]
 refine g2 ?_
 refine sq rfl (rS 3 ?_ (ho := by rw [pcO_len]; simp; omega))
 rw [pcO_app (s := b5) h8]
 refine g4 ?_
 exact nK i4 ⟨i + 1, ((l ++ [pcZero]).set ((((K + 1 : Nat) : Int) - 1 : Int).toNat) { d7 with part := (mget m b5).getD 0 }).set ((((K + 1 : Nat) : Int) - 1 : Int).toNat) ⟨d6.part, A5, c93, d6.word ++ [b5]⟩, K + 1, some ⟨k8, 0, none⟩, c84, rfl, oM, (by simp; omega), (hI.new oM d2 (prev_at e7) (by simpa [pt] using i6) (hrg _ (mG d2)) oM d4 h8), rfl, rfl, rfl⟩
 exfalso; omega
 refine g10 ?_
 refine row_addr (i := 1) rfl oM fun k6 l5 => ?_
 subst l5
 refine g2 ?_
 obtain ⟨d8, b9⟩ := ex_i (l := l) (i := ((K : Int) - 1 : Int).toNat) oM
 refine q (yLoad1 aC rfl (Mem.row1 (i := 1) rfl (pcO_at b9).2)) rfl rfl rfl ?_
 refine g1 ?_
 refine sq rfl (bS [.string b5] fun o8 => ?_)
 have k3 := (hI.wlen _ (mG b9))
 refine sq rfl (TK.rowOut (O := [.row 9 1 (.slice (ad o8) 1 1) 1 [.string b5], .rows 9 1 (pcR (l)), .row 187 2 (.slice (ad k6) K cq) K (pcO (l)), .map mb (mapL Value.string (Value.int .i64) m)]) (q := 1) (i := ((K : Int) - 1 : Int).toNat) rfl (pcR_at b9) (tAppend hD (i := 0) (m := d8.word.length) (news := [.string b5]) rfl uC iC rfl dC rfl rfl (Mem.row (i := 1) rfl rfl) rfl oC oM oM dC fun A4 c100 => TK.rowIn (O := [.row 9 1 (.slice (ad o8) 1 1) 1 [.string b5], .rows 9 1 (pcR (l)), .row 187 2 (.slice (ad k6) K cq) K (pcO (l)), .map mb (mapL Value.string (Value.int .i64) m)]) (q := 1) (i := ((K : Int) - 1 : Int).toNat) (y := (.slice A4 (d8.word.length + 1) c100, d8.word.length + 1, (d8.word.map fun s => Value.string s) ++ [.string b5])) rfl (pcR_at b9) rfl ?_))
 rw [pcR_app]
 refine g2 ?_
 refine sq rfl (rS 2 ?_ (ho := by rw [pcO_len]; omega))
 rw [pcO_app (s := b5) b9]
 refine g4 ?_
 exact nK i4 ⟨i + 1, (l).set (((K : Int) - 1 : Int).toNat) ⟨d8.part, A4, c100, d8.word ++ [b5]⟩, K, some ⟨k6, 0, none⟩, cq, rfl, oM, (by simp; omega), (hI.same oM d2 (prev_at e7) (by simpa [pt] using i6) oM b9), rfl, rfl, rfl⟩
 refine g9b ?_
 intros
 refine lp3 (fun D f f1 f2 E H O m' => ∃ (u : Nat), H9 = H ∧ (u ≤ K) ∧ (∀ (j : Nat) (p : PcM), j < u → l[j]? = some p → p.part ≠ 0 → j ≠ 0 ∧ ∃ q, l[j + 1]? = some q ∧ q.part = 0) ∧ m' = K - u ∧ O = [f, f1, f2] ∧ E = (98, .int .i64 (u : Int)) :: D) [10, 96, 97] [0, 1, 2] ⟨0, rfl, Nat.zero_le _, (fun j p h => by omega), rfl, rfl, rfl⟩ ?_
 rintro _ _ _ _ ⟨u, rfl, hu, l4, rfl, rfl, rfl⟩ _ e5
 refine g5b ?_
 intros
 refine cD ?_ ?_ <;> intro o9
 refine g6b ?_
 intros
 refine row_addr (i := 1) rfl oM fun t6 i9 => ?_
 subst i9
 refine g1 ?_
 obtain ⟨d5, c1⟩ := ex_i (l := l) (i := u) oM
 refine q (yLoadA (cs := [.int .i64 d5.part, .slice d5.A d5.word.length d5.c]) aC sC rfl (Mem.row2 (i := 1) rfl (pcO_at c1).1 (pcO_at c1).2) rfl) rfl rfl rfl ?_
 refine aL fun t4 => ?_
 refine g1 ?_
 refine sG 0 ?_
 refine g7a ?_
 intros
 refine sB 106 ?_ ?_ <;> intro j8
 refine g3 ?_
 refine sD 109 ?_ ?_ <;> intro n7
 refine g18 ?_
 refine g5a ?_
 intros
 refine kP [3] ?_
 refine r2 results110 ?_
 exact ⟨rfl, .inl rfl⟩
 refine g7 ?_
 refine sD 116 ?_ ?_ <;> intro o4
 refine g12a ?_
 intros
 refine g4 ?_
 refine kP [3] ?_
 refine r2 results110 ?_
 exact ⟨rfl, .inl rfl⟩
 refine g5 ?_
 obtain ⟨j9, e2⟩ := ex_i (l := l) (i := (u + 1)) oM
 refine qY (yLoad1 aC rfl (Mem.row1 (i := 2) rfl (pcO_at e2).1)) rfl rfl rfl rfl rfl rfl ?_
 refine g4 ?_
 refine cN ?_ ?_ <;> intro k0
 refine g5a ?_
 intros
 refine kP [3] ?_
 refine r2 results110 ?_
 exact ⟨rfl, .inl rfl⟩
 refine g4 ?_
 exact nK e5 ⟨u + 1, rfl, oM, (chk_step l4 c1 (fun _ => ⟨by omega, j9, e2, by simpa using k0⟩)), rfl, rfl, rfl⟩
 refine g18 ?_
 refine g7 ?_
 exact nK e5 ⟨u + 1, rfl, oM, (chk_step l4 c1 (fun h => absurd (by simpa using j8) h)), rfl, rfl, rfl⟩
 refine g7a ?_
 intros
 refine tSealPc (p := 1) (q := 0) dC rfl rfl oM (fun x hx => by have := hI.wlen x hx; omega) fun H0 e9 e6 => ?_
 have ⟨hw, e3, d1⟩ := mo3 e9 hw e3 d1
 have j7 := e6
 have i7 : SplitW m kind n w ((l).map toPc) := (by have t5 : kind = 4 := oM; subst t5; exact hI.split oM (fun j p hj hp => l4 j p (by have := (gE hj).1; omega) hj hp))
 refine r2 results110 ?_
 exact ⟨rfl, .inr ⟨_, _, _, _, rfl, j7, i7, by omega⟩⟩
 refine g4a ?_
 intros
 refine sq rfl (tMakeK (m := n) uC iC (pcO_zero n) rfl rfl oM oM dC fun d0 => ?_)
 refine g10b ?_
 intros
 refine newRowsNil 9 1 (pcR (List.replicate n pcZero)) (pcR_zero n) ?_
 refine lp1 (fun D f E H O m' => ∃ (i : Nat) (l : List PcM), H9 = H ∧ (i ≤ nw) ∧ (PartsI m kind n w i l) ∧ m' = nw - i ∧ O = [.rows 9 1 (pcR (l)), .row 187 2 (.slice (ad d0) n n) n (pcO (l)), f] ∧ E = (132, .int .i64 (i : Int)) :: D) [1, 4, 7, 15, 130, 131] [0, 1, 2] ⟨0, List.replicate n pcZero, rfl, Nat.zero_le _, PartsI.start, rfl, rfl, rfl⟩ ?_
 rintro _ _ _ _ ⟨i, l, rfl, hi, hI, rfl, rfl, rfl⟩ _ e1
 have s8 := hI.len
 refine g5b ?_
 intros
 refine cD ?_ ?_ <;> intro n2
 refine g6b ?_
 intros
 obtain ⟨b4, h7⟩ := eX hw i
 obtain ⟨s2, r8, n0, n9⟩ := hw.atS h7
 refine g2 ?_
 have e8 := hrg _ (mG h7)
 have l3 : 0 ≤ (mget m b4).getD 0 ∧ (mget m b4).getD 0 < (n : Int) := e8
 refine g5b ?_
 intros
 refine ts 19 fun _ => ?_
 refine tj 0 ?_
 refine g2 ?_
 refine sD 139 ?_ ?_ <;> intro n8
 refine tjY 3 ?_
 refine g3 ?_
 refine sD 143 ?_ ?_ <;> intro n1
 refine tjY 7 ?_
 refine g1 ?_
 refine tkY 9 rfl kR aS nP kS (yLookup (k := b4) (g := (Value.int .i64)) (z := 0) (i := 2) uC (keyStr uC) nC rfl rfl rfl) rfl rfl rfl rfl rfl rfl ?_
 refine g4 ?_
 obtain ⟨l9, e4⟩ := Sl.ex hw (i := ((i : Int) - 1 : Int).toNat) oM
 obtain ⟨r1, s4, n4, o5⟩ := hw.atS e4
 refine g2 ?_
 refine tkY 16 rfl kR aS nP kS (yLookup (k := l9) (g := (Value.int .i64)) (z := 0) (i := 2) uC (keyStr uC) nC rfl rfl rfl) rfl rfl rfl rfl rfl rfl ?_
 refine g4 ?_
 refine cD ?_ ?_ <;> intro j1
 refine g5a ?_
 intros
 refine kP [2] ?_
 refine r2 results110 ?_
 exact ⟨rfl, .inl rfl⟩
 refine g1 ?_
 refine tss (.cons _ (.cons_cons _ (.cons_cons _ (List.nil_sublist _)))) 14 fun _ => ?_
 refine tj 0 ?_
 refine g2 ?_
 refine tk 3 rfl kR aS nP kS (yLookup (k := b4) (g := (Value.int .i64)) (z := 0) (i := 1) uC (keyStr uC) nC rfl rfl rfl) rfl rfl rfl ?_
 refine g3 ?_
 refine tk 7 rfl kR aS nP kS (yLookup (k := b4) (g := (Value.int .i64)) (z := 0) (i := 1) uC (keyStr uC) nC rfl rfl rfl) rfl rfl rfl ?_
 refine tk 8 rfl kR aS nP kS (yIndexAddr uC sC rfl rfl (by unfold pt at *; omega) (by unfold pt at *; omega)) rfl rfl rfl ?_
 refine g1 ?_
 obtain ⟨b8, h4⟩ := ex_i (l := l) (i := ((mget m b4).getD 0 : Int).toNat) oM
 refine tk 10 rfl kR aS nP kS (yLoad1 aC rfl (Mem.row1 (i := 0) rfl (pcO_at h4).2)) rfl rfl rfl ?_
 refine g1 ?_
 refine oI 12 rfl kR (bS [.string b4] fun j5 => ?_)
 refine g1 ?_
 have k3 := (by have h := hI.word _ _ h4; rw [h]; have := List.length_filter_le (fun s => decide (pt m s = ((((mget m b4).getD 0 : Int).toNat : Nat) : Int))) (w.take i); have := List.length_take_le i w; omega : b8.word.length ≤ 200)
 refine oI 13 rfl kR (TK.rowOut (O := [.row 9 1 (.slice (ad j5) 1 1) 1 [.string b4], .rows 9 1 (pcR (l)), .row 187 2 (.slice (ad d0) n n) n (pcO (l)), .map mb (mapL Value.string (Value.int .i64) m)]) (q := 1) (i := ((mget m b4).getD 0 : Int).toNat) rfl (pcR_at h4) (tAppend hD (i := 0) (m := b8.word.length) (news := [.string b4]) rfl uC In9 rfl dC rfl rfl (Mem.row (i := 1) rfl rfl) rfl oC oM oM dC fun A1 c172 => TK.rowIn (O := [.row 9 1 (.slice (ad j5) 1 1) 1 [.string b4], .rows 9 1 (pcR (l)), .row 187 2 (.slice (ad d0) n n) n (pcO (l)), .map mb (mapL Value.string (Value.int .i64) m)]) (q := 1) (i := ((mget m b4).getD 0 : Int).toNat) (y := (.slice A1 (b8.word.length + 1) c172, b8.word.length + 1, (b8.word.map fun s => Value.string s) ++ [.string b4])) rfl (pcR_at h4) rfl ?_))
 rw [pcR_app]
 refine g2 ?_
 refine q (yIndexAddr uC sC rfl rfl (by unfold pt at *; omega) (by unfold pt at *; omega)) rfl rfl rfl ?_
 refine g1 ?_
 refine sq rfl (rS 2 ?_ (ho := by rw [pcO_len]; omega))
 rw [pcO_app (s := b4) h4]
 refine g4 ?_
 exact nK e1 ⟨i + 1, (l).set (((mget m b4).getD 0 : Int).toNat) ⟨b8.part, A1, c172, b8.word ++ [b4]⟩, rfl, oM, (hI.step h7 (by have := hrg _ (mG h7); unfold pt at *; omega) h4 (fun _ _ t ht => by rw [(prev_at e4)] at ht; cases ht; simpa [pt] using j1)), rfl, rfl, rfl⟩
 refine tjN 7 ?_
 refine g15 ?_
 refine tss (.cons _ (.cons_cons _ (.cons_cons _ (List.nil_sublist _)))) 14 fun _ => ?_
 refine tj 0 ?_
 refine g2 ?_
 refine tk 3 rfl kR aS nP kS (yLookup (k := b4) (g := (Value.int .i64)) (z := 0) (i := 1) uC (keyStr uC) nC rfl rfl rfl) rfl rfl rfl ?_
 refine g3 ?_
 refine tk 7 rfl kR aS nP kS (yLookup (k := b4) (g := (Value.int .i64)) (z := 0) (i := 1) uC (keyStr uC) nC rfl rfl rfl) rfl rfl rfl ?_
 refine tk 8 rfl kR aS nP kS (yIndexAddr uC sC rfl rfl (by unfold pt at *; omega) (by unfold pt at *; omega)) rfl rfl rfl ?_
 refine g1 ?_
 obtain ⟨b6, h5⟩ := ex_i (l := l) (i := ((mget m b4).getD 0 : Int).toNat) oM
 refine tk 10 rfl kR aS nP kS (yLoad1 aC rfl (Mem.row1 (i := 0) rfl (pcO_at h5).2)) rfl rfl rfl ?_
 refine g1 ?_
 refine oI 12 rfl kR (bS [.string b4] fun j2 => ?_)
 refine g1 ?_
 have k3 := (by have h := hI.word _ _ h5; rw [h]; have := List.length_filter_le (fun s => decide (pt m s = ((((mget m b4).getD 0 : Int).toNat : Nat) : Int))) (w.take i); have := List.length_take_le i w; omega : b6.word.length ≤ 200)
 refine oI 13 rfl kR (TK.rowOut (O := [.row 9 1 (.slice (ad j2) 1 1) 1 [.string b4], .rows 9 1 (pcR (l)), .row 187 2 (.slice (ad d0) n n) n (pcO (l)), .map mb (mapL Value.string (Value.int .i64) m)]) (q := 1) (i := ((mget m b4).getD 0 : Int).toNat) rfl (pcR_at h5) (tAppend hD (i := 0) (m := b6.word.length) (news := [.string b4]) rfl uC In9 rfl dC rfl rfl (Mem.row (i := 1) rfl rfl) rfl oC oM oM dC fun A2 k2 => TK.rowIn (O := [.row 9 1 (.slice (ad j2) 1 1) 1 [.string b4], .rows 9 1 (pcR (l)), .row 187 2 (.slice (ad d0) n n) n (pcO (l)), .map mb (mapL Value.string (Value.int .i64) m)]) (q := 1) (i := ((mget m b4).getD 0 : Int).toNat) (y := (.slice A2 (b6.word.length + 1) k2, b6.word.length + 1, (b6.word.map fun s => Value.string s) ++ [.string b4])) rfl (pcR_at h5) rfl ?_))
 rw [pcR_app]
 refine g2 ?_
 refine q (yIndexAddr uC sC rfl rfl (by unfold pt at *; omega) (by unfold pt at *; omega)) rfl rfl rfl ?_
 refine g1 ?_
 refine sq rfl (rS 2 ?_ (ho := by rw [pcO_len]; omega))
 rw [pcO_app (s := b4) h5]
 refine g4 ?_
 exact nK e1 ⟨i + 1, (l).set (((mget m b4).getD 0 : Int).toNat) ⟨b6.part, A2, k2, b6.word ++ [b4]⟩, rfl, oM, (hI.step h7 (by have := hrg _ (mG h7); unfold pt at *; omega) h5 (fun h => by omega)), rfl, rfl, rfl⟩
 refine tjN 3 ?_
 refine g18 ?_
 refine g1 ?_
 refine tss (.cons _ (.cons_cons _ (.cons_cons _ (List.nil_sublist _)))) 14 fun _ => ?_
 refine tj 0 ?_
 refine g2 ?_
 refine tk 3 rfl kR aS nP kS (yLookup (k := b4) (g := (Value.int .i64)) (z := 0) (i := 1) uC (keyStr uC) nC rfl rfl rfl) rfl rfl rfl ?_
 refine g3 ?_
 refine tk 7 rfl kR aS nP kS (yLookup (k := b4) (g := (Value.int .i64)) (z := 0) (i := 1) uC (keyStr uC) nC rfl rfl rfl) rfl rfl rfl ?_
 refine tk 8 rfl kR aS nP kS (yIndexAddr uC sC rfl rfl (by unfold pt at *; omega) (by unfold pt at *; omega)) rfl rfl rfl ?_
 refine g1 ?_
 obtain ⟨b7, h6⟩ := ex_i (l := l) (i := ((mget m b4).getD 0 : Int).toNat) oM
 refine tk 10 rfl kR aS nP kS (yLoad1 aC rfl (Mem.row1 (i := 0) rfl (pcO_at h6).2)) rfl rfl rfl ?_
 refine g1 ?_
 refine oI 12 rfl kR (bS [.string b4] fun k1 => ?_)
 refine g1 ?_
 have k3 := (by have h := hI.word _ _ h6; rw [h]; have := List.length_filter_le (fun s => decide (pt m s = ((((mget m b4).getD 0 : Int).toNat : Nat) : Int))) (w.take i); have := List.length_take_le i w; omega : b7.word.length ≤ 200)
 refine oI 13 rfl kR (TK.rowOut (O := [.row 9 1 (.slice (ad k1) 1 1) 1 [.string b4], .rows 9 1 (pcR (l)), .row 187 2 (.slice (ad d0) n n) n (pcO (l)), .map mb (mapL Value.string (Value.int .i64) m)]) (q := 1) (i := ((mget m b4).getD 0 : Int).toNat) rfl (pcR_at h6) (tAppend hD (i := 0) (m := b7.word.length) (news := [.string b4]) rfl uC In9 rfl dC rfl rfl (Mem.row (i := 1) rfl rfl) rfl oC oM oM dC fun A0 c184 => TK.rowIn (O := [.row 9 1 (.slice (ad k1) 1 1) 1 [.string b4], .rows 9 1 (pcR (l)), .row 187 2 (.slice (ad d0) n n) n (pcO (l)), .map mb (mapL Value.string (Value.int .i64) m)]) (q := 1) (i := ((mget m b4).getD 0 : Int).toNat) (y := (.slice A0 (b7.word.length + 1) c184, b7.word.length + 1, (b7.word.map fun s => Value.string s) ++ [.string b4])) rfl (pcR_at h6) rfl ?_))
 rw [pcR_app]
 refine g2 ?_
 refine q (yIndexAddr uC sC rfl rfl (by unfold pt at *; omega) (by unfold pt at *; omega)) rfl rfl rfl ?_
 refine g1 ?_
 refine sq rfl (rS 2 ?_ (ho := by rw [pcO_len]; omega))
 rw [pcO_app (s := b4) h6]
 refine g4 ?_
 exact nK e1 ⟨i + 1, (l).set (((mget m b4).getD 0 : Int).toNat) ⟨b7.part, A0, c184, b7.word ++ [b4]⟩, rfl, oM, (hI.step h7 (by have := hrg _ (mG h7); unfold pt at *; omega) h6 (fun h => by omega)), rfl, rfl, rfl⟩
 refine g9b ?_
 intros
 refine lp1 (fun D f E H O m' => ∃ (u : Nat) (l' : List PcM), H9 = H ∧ (u ≤ n) ∧ (PartsI m kind n w i l') ∧ (∀ (k : Nat) (p : PcM), k < u → l'[k]? = some p → p.part = (k : Int)) ∧ m' = n - u ∧ O = [.rows 9 1 (pcR (l')), .row 187 2 (.slice (ad d0) n n) n (pcO (l')), f] ∧ E = (175, .int .i64 (u : Int)) :: D) [15, 174] [0, 1, 2] ⟨0, l, rfl, Nat.zero_le _, hI, (fun k p h => by omega), rfl, rfl, rfl⟩ ?_
 rintro _ _ _ _ ⟨u, l', rfl, hu, k5, n3, rfl, rfl, rfl⟩ _ i5
 have s5 := k5.len
 refine g5b ?_
 intros
 refine cD ?_ ?_ <;> intro o6
 refine g12b ?_
 intros
 refine g2 ?_
 obtain ⟨j0, c0⟩ := ex_i (l := l') (i := u) oM
 refine sq rfl (rS 1 ?_ (ho := by rw [pcO_len]; omega))
 try simp only [Int.toNat_natCast]
 rw [pcO_setP c0, ← pcR_setP (v := (u : Int)) c0]
 refine g4 ?_
 exact nK i5 ⟨u + 1, (l').set u { j0 with part := (u : Int) }, rfl, oM, (k5.setP c0), (parts_set n3 c0), rfl, rfl, rfl⟩
 refine g7a ?_
 intros
 refine tSealPc (p := 1) (q := 0) dC rfl rfl oM (fun x hx => by obtain ⟨k, hk⟩ := List.getElem?_of_mem hx; have h := k5.word k x hk; rw [h]; have := List.length_filter_le (fun s => decide (pt m s = (k : Int))) (w.take i); have := List.length_take_le i w; omega) fun H1 f8 f9 => ?_
 have ⟨hw, e3, d1⟩ := mo3 f8 hw e3 d1
 have j7 := f9
 have i7 : SplitW m kind n w ((l').map toPc) := (k5.split oM oM oM (fun k p hp => n3 k p (by have := (gE hp).1; omega) hp))
 refine r2 results110 ?_
 exact ⟨rfl, .inr ⟨_, _, _, _, rfl, j7, i7, by omega⟩⟩
end
section
open Go.Lib
section
variable {P : Program} {n : Nat} {I : Init} {K : Act → World → Prop} {E : Env} {H : Ghost} {O : List HL} {Q : Exit → Act → World → Prop}
 {dst : Option Nat} {ty : TypeId} {pos : String} {af : Array Edge} {gd : Option (Nat × Bool)}
abbrev MapT := Nat × List (Value × Value)
theorem fps_maps {l : List MapT} : fps [HL.maps l] = l.map (·.1) := by simp [fps, HL.fp]
theorem fps_mapCons {x : MapT} {l : List MapT} : fps [HL.map x.1 x.2, HL.maps l] = (x :: l).map (·.1) := by simp [fps, HL.fp]
theorem St.mapOut {q i : Nat} {l : List MapT} {w : World} (hO : O[q]? = some (.maps l)) (hi : l[i]? = some x) (h : St H O w) : St H (.map x.1 x.2 :: O.set q (.maps (l.eraseIdx i))) w := by
 have h1 : St H ([.map x.1 x.2, .maps (l.eraseIdx i)] ++ O.eraseIdx q) w := by
  refine h.trade (A := [.maps l]) (perm_at hO).symm ?_ ?_
  ·rw [fps_mapCons, fps_maps]
   exact ((eraseIdx_perm hi).map _).symm
  ·intro hs y hy
   have hr : ∀ z ∈ l, MapObj w.heap[z.1]? z.2 := hs (.maps l) (by simp)
   simp only [List.mem_cons, List.mem_nil_iff, or_false] at hy
   rcases hy with rfl | rfl
   ·exact hr x (mG hi)
   ·exact fun z hz => hr z (List.mem_of_mem_eraseIdx hz)
 exact h1.perm ((perm_set (h' := HL.maps (l.eraseIdx i)) hO).cons (HL.map x.1 x.2))
theorem St.mapIn {q i : Nat} {l : List MapT} {es : List (Value × Value)} {w : World} (hO : O[q]? = some (.maps l)) (hi : l[i]? = some x) (h : St H (.map x.1 es :: O.set q (.maps (l.eraseIdx i))) w) : St H (O.set q (.maps (l.set i (x.1, es)))) w := by
 have h1 : St H ([.maps (l.set i (x.1, es))] ++ O.eraseIdx q) w := by
  refine h.trade (A := [.map x.1 es, .maps (l.eraseIdx i)]) ((perm_set (h' := .maps (l.eraseIdx i)) hO).symm.cons _) ?_ ?_
  ·have : fps [HL.map x.1 es, .maps (l.eraseIdx i)] = ((x.1, es) :: l.eraseIdx i).map (·.1) := by simp [fps, HL.fp]
   rw [this, fps_maps]
   exact (set_perm' hi).map _
  ·intro hs z hz
   simp only [List.mem_singleton] at hz
   subst hz
   have ha : MapObj w.heap[x.1]? es := hs (.map x.1 es) (by simp)
   have hb : ∀ z ∈ l.eraseIdx i, MapObj w.heap[z.1]? z.2 := hs (.maps (l.eraseIdx i)) (by simp)
   intro z hz
   rcases List.mem_cons.1 ((set_perm' (y := (x.1, es)) hi).mem_iff.2 hz) with rfl | hz
   ·exact ha
   ·exact hb z hz
 exact h1.perm (perm_set hO)
theorem fps_mapOut {q i : Nat} {l : List MapT} (hO : O[q]? = some (.maps l)) (hi : l[i]? = some x) (es : List (Value × Value)) : (fps (.map x.1 es :: O.set q (.maps (l.eraseIdx i)))).Perm (fps O) := by
 have h0 : (fps [HL.map x.1 es, HL.maps (l.eraseIdx i)]).Perm (fps [HL.maps l]) := by
  have e1 : fps [HL.map x.1 es, HL.maps (l.eraseIdx i)] = (x :: l.eraseIdx i).map (·.1) := by simp [fps, HL.fp]
  rw [e1, fps_maps]
  exact (eraseIdx_perm hi).map _
 have h1 := fps_perm ((perm_set (h' := HL.maps (l.eraseIdx i)) hO).symm.cons (HL.map x.1 es))
 have h2 : fps (HL.map x.1 es :: ([HL.maps (l.eraseIdx i)] ++ O.eraseIdx q)) = fps [HL.map x.1 es, HL.maps (l.eraseIdx i)] ++ fps (O.eraseIdx q) := by rw [← fps_append]; rfl
 rw [h2] at h1
 have h3 := fps_perm (perm_at hO)
 rw [fps_append] at h3
 exact h1.trans ((h0.append_right _).trans h3)
theorem TK.mapOut {q i : Nat} {l : List MapT} (hO : O[q]? = some (.maps l)) (hi : l[i]? = some x) (h : TK n I K E H (.map x.1 x.2 :: O.set q (.maps (l.eraseIdx i)))) : TK n I K E H O :=
 TK.trade (fun w hs => St.mapOut hO hi hs) (fun b hb => (fps_mapOut hO hi x.2).mem_iff.1 hb) h
theorem TK.mapIn {q i : Nat} {l : List MapT} {es : List (Value × Value)} (hO : O[q]? = some (.maps l)) (hi : l[i]? = some x) {O1 : List HL} (hx : O1 = .map x.1 es :: O.set q (.maps (l.eraseIdx i))) (h : TK n I K E H (O.set q (.maps (l.set i (x.1, es))))) : TK n I K E H O1 := by
 subst hx
 refine TK.trade (fun w hs => St.mapIn hO hi hs) (fun b hb => ?_) h
 have hp := fps_mapOut hO hi es
 have hl : q < O.length := (gE hO).1
 have h6 : (O.set q (.maps (l.set i (x.1, es))))[q]? = some (.maps (l.set i (x.1, es))) := by simp [hl]
 have h7 : i < l.length := (gE hi).1
 have h5 : (l.set i (x.1, es))[i]? = some (x.1, es) := by simp [h7]
 have h4 := fps_mapOut h6 h5 es
 rw [List.set_set, List.eraseIdx_set_eq] at h4
 exact h4.mem_iff.2 hb
theorem Yl.mapOut {o : Oper} {q i : Nat} {l : List MapT} (hO : O[q]? = some (.maps l)) (hi : l[i]? = some x) (h : Yl P n E H (.map x.1 x.2 :: O.set q (.maps (l.eraseIdx i))) o v) : Yl P n E H O o v :=
 fun a w ha hs => h a w ha (St.mapOut hO hi hs)
theorem newMaps (h : TK n I K E H (.maps [] :: O)) : TK n I K E H O := by
 refine TK.trade (O' := .maps [] :: O) (fun w hs => ⟨hs.ghost, fun x hx => ?_, by simpa [fps, HL.fp] using hs.apart, by simpa [fps, HL.fp] using hs.nodup⟩) (by simp [fps, HL.fp]) h
 rcases List.mem_cons.1 hx with rfl | hx
 ·exact fun z hz => by simp at hz
 ·exact hs.own x hx
theorem mapsAdd {q : Nat} {l : List MapT} {b : Nat} {es : List (Value × Value)} {O1 : List HL} (hx : O1 = .map b es :: O) (hO : O[q]? = some (.maps l)) (h : TK n I K E H (O.set q (.maps (l ++ [(b, es)])))) : TK n I K E H O1 := by
 subst hx
 have h4 : (fps [HL.map b es, .maps l]).Perm (fps [HL.maps (l ++ [(b, es)])]) := by
  have e1 : fps [HL.map b es, .maps l] = ((b, es) :: l).map (·.1) := by simp [fps, HL.fp]
  rw [e1, fps_maps]
  exact ((List.perm_append_comm (l₁ := [(b, es)]) (l₂ := l))).map _
 refine TK.trade (O' := O.set q (.maps (l ++ [(b, es)]))) (fun w hs => ?_) (fun c hc => ?_) h
 ·have h1 : St H ([.maps (l ++ [(b, es)])] ++ O.eraseIdx q) w := by
   refine hs.trade (A := [.map b es, .maps l]) ((perm_at hO).symm.cons _) h4 ?_
   intro hs z hz
   simp only [List.mem_singleton] at hz
   subst hz
   have ha : MapObj w.heap[b]? es := hs (.map b es) (by simp)
   have hb : ∀ z ∈ l, MapObj w.heap[z.1]? z.2 := hs (.maps l) (by simp)
   intro z hz
   rcases List.mem_append.1 hz with hz | hz
   ·exact hb z hz
   ·simp only [List.mem_singleton] at hz; subst hz; exact ha
  exact h1.perm (perm_set hO)
 ·have h1 := (fps_perm (perm_set (h' := HL.maps (l ++ [(b, es)])) hO)).mem_iff.2 hc
  rw [fps_append] at h1
  have e0 : fps (HL.map b es :: O) = [b] ++ fps O := by rw [fps_cons]; rfl
  rw [e0]
  rcases List.mem_append.1 h1 with h1 | h1
  ·have h2 := h4.mem_iff.2 h1
   rw [show [HL.map b es, HL.maps l] = [HL.map b es] ++ [HL.maps l] from rfl, fps_append] at h2
   rcases List.mem_append.1 h2 with h2 | h2
   ·exact List.mem_append_left _ (by simpa [fps, HL.fp] using h2)
   ·exact List.mem_append_right _ ((fps_perm (perm_at hO)).mem_iff.1 (by rw [fps_append]; exact List.mem_append_left _ h2))
  ·exact List.mem_append_right _ ((fps_perm (perm_at hO)).mem_iff.1 (by rw [fps_append]; exact List.mem_append_right _ h1))
end
end
section
structure VE where
 A : OA
 n : Nat
 c : Nat
 w : LB
 cnt : Int
def veC (l : List VE) : LV := l.flatMap fun e => [.slice e.A e.n e.c, .int .i64 e.cnt]
def toV (e : VE) : Variant := ⟨e.w, e.cnt⟩
def veOk (H : Ghost) (l : List VE) : Prop := ∀ e ∈ l, Sl rStr H e.w e.A e.n e.c
theorem veC_len (l : List VE) : (veC l).length = l.length * 2 := by
 induction l with
 | nil => rfl
 | cons p l ih => simp only [veC, List.flatMap_cons, List.length_append, List.length_cons, List.length_nil] at ih ⊢; omega
theorem veC_at : ∀ {l : List VE} {k : Nat} {e : VE}, l[k]? = some e → (veC l)[0 + k * 2 + 0]? = some (.slice e.A e.n e.c) ∧ (veC l)[0 + k * 2 + 1]? = some (.int .i64 e.cnt)
 | [], k, p, h => by simp at h
 | q :: l, 0, p, h => by simp at h; subst h; exact ⟨rfl, rfl⟩
 | q :: l, k + 1, p, h => by
  obtain ⟨h1, h2⟩ := veC_at (l := l) (k := k) (e := p) (by simpa using h)
  have e : veC (q :: l) = .slice q.A q.n q.c :: .int .i64 q.cnt :: veC l := rfl
  rw [e, show 0 + (k + 1) * 2 + 0 = (0 + k * 2 + 0) + 1 + 1 by omega, show 0 + (k + 1) * 2 + 1 = (0 + k * 2 + 1) + 1 + 1 by omega]
  exact ⟨by simpa using h1, by simpa using h2⟩
theorem veC_set : ∀ {l : List VE} {k : Nat} {e : VE} {x : Int}, l[k]? = some e → (veC l).set (0 + k * 2 + 1) (.int .i64 x) = veC (l.set k { e with cnt := x })
 | [], k, p, v, h => by simp at h
 | q :: l, 0, p, v, h => by simp at h; subst h; rfl
 | q :: l, k + 1, p, v, h => by
  have ih := veC_set (l := l) (k := k) (e := p) (x := v) (by simpa using h)
  have e : veC (q :: l) = .slice q.A q.n q.c :: .int .i64 q.cnt :: veC l := rfl
  rw [e, show 0 + (k + 1) * 2 + 1 = (0 + k * 2 + 1) + 1 + 1 by omega, List.set_cons_succ, List.set_cons_succ]
  exact congrArg (fun z => Value.slice q.A q.n q.c :: Value.int .i64 q.cnt :: z) ih
theorem ve_reps : ∀ {l : List VE}, veOk H l → Reps rVariant H (l.map toV) (veC l)
 | [], _ => .nil
 | e :: l, h => Reps.cons (r := rVariant) (c := [_, _]) ⟨_, _, _, rfl, h e (by simp)⟩ (ve_reps fun x hx => h x (by simp [hx]))
structure PV where
 A : OA
 c : Nat
 vs : List VE
 m : List (BA × Int)
 mb : Nat
def pvO (l : List PV) : LV := l.map fun p => .slice p.A p.vs.length p.c
def pvR (l : List PV) : List RowT := l.map fun p => (.slice p.A p.vs.length p.c, p.vs.length, veC p.vs)
def pvA (l : List PV) : LV := l.map fun p => .map (some p.mb)
def pvM (l : List PV) : List MapT := l.map fun p => (p.mb, mapL Value.string (Value.int .i64) p.m)
section
variable {l : List PV} {k : Nat} {p : PV}
theorem pvO_at (h : l[k]? = some p) : (pvO l)[0 + k * 1]? = some (.slice p.A p.vs.length p.c) := by rw [Nat.zero_add, Nat.mul_one]; simp [pvO, h]
theorem pvA_at (h : l[k]? = some p) : (pvA l)[0 + k * 1]? = some (.map (some p.mb)) := by rw [Nat.zero_add, Nat.mul_one]; simp [pvA, h]
theorem pvR_at (h : l[k]? = some p) : (pvR l)[k]? = some (.slice p.A p.vs.length p.c, p.vs.length, veC p.vs) := by simp [pvR, h]
theorem pvM_at (h : l[k]? = some p) : (pvM l)[k]? = some (p.mb, mapL Value.string (Value.int .i64) p.m) := by simp [pvM, h]
theorem map_set_same {α β : Type} {f : α → β} {l : List α} {k : Nat} {p p' : α} (h : l[k]? = some p) (he : f p' = f p) : (l.set k p').map f = l.map f := by
 apply List.ext_getElem?
 intro j
 rw [List.getElem?_map, List.getElem?_map, List.getElem?_set]
 by_cases e : k = j
 ·subst e
  rw [if_pos rfl, if_pos (gE h).1, h, Option.map_some, Option.map_some, he]
 ·rw [if_neg e]
theorem pvM_put : (pvM l).set k (p.mb, mapL Value.string (Value.int .i64) m') = pvM (l.set k { p with m := m' }) := by simp [pvM, List.map_set]
theorem pvR_new {A a : OA} {c n cc : Nat} {w : LB} {m' : List (BA × Int)} : (pvR l).set k (.slice A (p.vs.length + 1) c, p.vs.length + 1, veC p.vs ++ [.slice a n cc, .int .i64 0]) = pvR (l.set k ⟨A, c, p.vs ++ [⟨a, n, cc, w, 0⟩], m', p.mb⟩) := by simp [pvR, List.map_set, veC]
theorem pvO_new {A a : OA} {c n cc : Nat} {w : LB} {m' : List (BA × Int)} : (pvO l).set (0 + k * 1) (.slice A (p.vs.length + 1) c) = pvO (l.set k ⟨A, c, p.vs ++ [⟨a, n, cc, w, 0⟩], m', p.mb⟩) := by rw [Nat.zero_add, Nat.mul_one]; simp [pvO, List.map_set]
theorem pvA_new {A : OA} {c : Nat} {vs : List VE} {m' : List (BA × Int)} (h : l[k]? = some p) : pvA (l.set k ⟨A, c, vs, m', p.mb⟩) = pvA l := map_set_same h rfl
theorem pvM_new {A : OA} {c : Nat} {vs : List VE} {m' : List (BA × Int)} : pvM (l.set k { p with m := m' }) = pvM (l.set k ⟨A, c, vs, m', p.mb⟩) := by simp [pvM, List.map_set]
theorem pvR_cnt {j : Nat} {x : Int} (he : p.vs[j]? = some e) : (pvR l).set k (.slice p.A p.vs.length p.c, p.vs.length, (veC p.vs).set (0 + j * 2 + 1) (.int .i64 x)) = pvR (l.set k { p with vs := p.vs.set j { e with cnt := x } }) := by rw [veC_set he]; simp [pvR, List.map_set]
theorem pvO_cnt (h : l[k]? = some p) : pvO (l.set k { p with vs := p.vs.set j e }) = pvO l := map_set_same h (by simp)
theorem pvA_cnt {vs : List VE} (h : l[k]? = some p) : pvA (l.set k { p with vs := vs }) = pvA l := map_set_same h rfl
theorem pvM_cnt {vs : List VE} (h : l[k]? = some p) : pvM (l.set k { p with vs := vs }) = pvM l := map_set_same h rfl
end
structure PvI (p : PV) : Prop where
 key : ∀ (j : Nat) (e : VE), p.vs[j]? = some e → mget p.m (joinB e.w) = some (j : Int)
 inv : ∀ k v, mget p.m k = some v → ∃ (j : Nat) (e : VE), v = (j : Int) ∧ p.vs[j]? = some e ∧ joinB e.w = k
structure SpI (pm : List (BA × Int)) (n : Nat) (lv : List Variant) (l : List PV) (N : Nat) : Prop where
 len : l.length = n
 pv : ∀ p ∈ l, PvI p
 wd : ∀ (k : Nat) (p : PV), l[k]? = some p → ∀ e ∈ p.vs, e.w.length ≤ 200 ∧ ∀ s ∈ e.w, pt pm s = (k : Int) ∧ isName s = true ∧ ∃ v ∈ lv, s ∈ v.acts
 cnt : ∀ p ∈ l, p.vs.length ≤ N
def Has (l : List PV) (q : Piece) : Prop := ∃ p e, l[q.part.toNat]? = some p ∧ e ∈ p.vs ∧ e.w = q.word
def allOk (H : Ghost) (l : List PV) : Prop := ∀ p ∈ l, veOk H p.vs
theorem allOk.mono {H : Ghost} {l : List PV} (h : allOk H l) (hle : Ghost.le H H') : allOk H' l := fun p hp e he => (h p hp e he).mono hle
theorem allOk.set {H : Ghost} {l : List PV} {k : Nat} {p : PV} (h : allOk H l) (hp : veOk H p.vs) : allOk H (l.set k p) := fun q hq => by
 rcases List.mem_or_eq_of_mem_set hq with hq | rfl
 ·exact h q hq
 ·exact hp
section
variable {pm : List (BA × Int)} {n N k j : Nat} {lv : List Variant} {l : List PV} {p : PV} {w : LB} {e : VE}
theorem SpI.known (h : SpI pm n lv l N) (hp : l[k]? = some p) (hv : mget p.m (joinB w) = some v) (hw : ∀ s ∈ w, isName s = true) : ∃ (j : Nat) (e : VE), v = (j : Int) ∧ p.vs[j]? = some e ∧ e.w = w := by
 obtain ⟨j, e, h1, h2, h3⟩ := (h.pv p (mG hp)).inv _ _ hv
 exact ⟨j, e, h1, h2, joinB_inj (fun s hs => ((h.wd k p hp e (mG h2)).2 s hs).2.1) hw h3⟩
theorem Has.set {p' : PV} {q : Piece} (h : Has l q) (hp : l[k]? = some p) (hs : ∀ e ∈ p.vs, ∃ e' ∈ p'.vs, e'.w = e.w) : Has (l.set k p') q := by
 obtain ⟨r, e, h1, h2, h3⟩ := h
 by_cases ek : k = q.part.toNat
 ·subst ek
  rw [hp] at h1; cases h1
  obtain ⟨e', h4, h5⟩ := hs e h2
  exact ⟨p', e', by rw [List.getElem?_set, if_pos rfl, if_pos (gE hp).1], h4, h5.trans h3⟩
 ·exact ⟨r, e, by rw [List.getElem?_set, if_neg ek]; exact h1, h2, h3⟩
theorem Has.count {q : Piece} {x : Int} (h : Has l q) (hp : l[k]? = some p) (he : p.vs[j]? = some e) : Has (l.set k { p with vs := p.vs.set j { e with cnt := x } }) q := by
 refine h.set hp fun e1 h1 => ?_
 obtain ⟨i, hi⟩ := List.getElem?_of_mem h1
 by_cases ei : j = i
 ·subst ei
  rw [he] at hi; cases hi
  exact ⟨{ e with cnt := x }, mG (i := j) (by rw [List.getElem?_set, if_pos rfl, if_pos (gE he).1]), rfl⟩
 ·exact ⟨e1, mG (i := i) (by rw [List.getElem?_set, if_neg ei]; exact hi), rfl⟩
theorem SpI.count {x : Int} (h : SpI pm n lv l N) (hp : l[k]? = some p) (he : p.vs[j]? = some e) : SpI pm n lv (l.set k { p with vs := p.vs.set j { e with cnt := x } }) N where
 len := by rw [List.length_set]; exact h.len
 pv q hq := by
  rcases List.mem_or_eq_of_mem_set hq with hq | rfl
  ·exact h.pv q hq
  ·have h0 := h.pv p (mG hp)
   have k0 : ∀ (i : Nat) (f : VE), (p.vs.set j { e with cnt := x })[i]? = some f → ∃ g, p.vs[i]? = some g ∧ g.w = f.w := fun i f hf => by
    rw [List.getElem?_set] at hf
    split at hf
    ·rename_i ei
     subst ei
     split at hf
     ·cases hf; exact ⟨e, he, rfl⟩
     ·cases hf
    ·exact ⟨f, hf, rfl⟩
   refine ⟨fun i f hf => ?_, fun kk v hv => ?_⟩
   ·obtain ⟨g, h1, h2⟩ := k0 i f hf
    rw [← h2]; exact h0.key i g h1
   ·obtain ⟨i, f, h1, h2, h3⟩ := h0.inv kk v hv
    by_cases ei : j = i
    ·subst ei
     rw [he] at h2; cases h2
     exact ⟨j, { e with cnt := x }, h1, by rw [List.getElem?_set, if_pos rfl, if_pos (gE he).1], h3⟩
    ·exact ⟨i, f, h1, by rw [List.getElem?_set, if_neg ei]; exact h2, h3⟩
 wd i q hq f hf := by
  rw [List.getElem?_set] at hq
  split at hq
  ·rename_i ei
   subst ei
   split at hq
   ·cases hq
    rcases List.mem_or_eq_of_mem_set hf with hf | rfl
    ·exact h.wd k p hp f hf
    ·exact h.wd k p hp e (mG he)
   ·cases hq
  ·exact h.wd i q hq f hf
 cnt q hq := by
  rcases List.mem_or_eq_of_mem_set hq with hq | rfl
  ·exact h.cnt q hq
  ·have := h.cnt p (mG hp); simpa using this
theorem SpI.mono {N' : Nat} (h : SpI pm n lv l N) (hN : N ≤ N') : SpI pm n lv l N' := { h with cnt := fun p hp => Nat.le_trans (h.cnt p hp) hN }
theorem SpI.new {A a : OA} {c n0 cc : Nat} (h : SpI pm n lv l N) (hp : l[k]? = some p) (hn : mget p.m (joinB w) = none) (hw : w.length ≤ 200 ∧ ∀ s ∈ w, pt pm s = (k : Int) ∧ isName s = true ∧ ∃ v ∈ lv, s ∈ v.acts) :
  SpI pm n lv (l.set k ⟨A, c, p.vs ++ [⟨a, n0, cc, w, 0⟩], mput p.m (joinB w) (p.vs.length : Int), p.mb⟩) (N + 1) where
 len := by rw [List.length_set]; exact h.len
 pv q hq := by
  rcases List.mem_or_eq_of_mem_set hq with hq | rfl
  ·exact h.pv q hq
  ·have h0 := h.pv p (mG hp)
   refine ⟨fun i f hf => ?_, fun kk v hv => ?_⟩
   ·simp only at hf ⊢
    rw [mget_mput]
    rcases Nat.lt_or_ge i p.vs.length with h1 | h1
    ·rw [List.getElem?_append_left h1] at hf
     have h2 := h0.key i f hf
     rw [if_neg (fun e => by rw [e, h2] at hn; cases hn)]
     exact h2
    ·rw [List.getElem?_append_right h1] at hf
     have h3 : i = p.vs.length := by
      rcases Nat.eq_zero_or_pos (i - p.vs.length) with h4 | h4
      ·omega
      ·rw [List.getElem?_eq_none (by simp; omega)] at hf; cases hf
     subst h3
     simp at hf
     subst hf
     rw [if_pos rfl]
   ·simp only at hv ⊢
    rw [mget_mput] at hv
    split at hv
    ·rename_i e
     cases hv
     exact ⟨p.vs.length, ⟨a, n0, cc, w, 0⟩, rfl, by simp, e⟩
    ·obtain ⟨i, f, h1, h2, h3⟩ := h0.inv kk v hv
     exact ⟨i, f, h1, by rw [List.getElem?_append_left (gE h2).1]; exact h2, h3⟩
 wd i q hq f hf := by
  rw [List.getElem?_set] at hq
  split at hq
  ·rename_i ei
   subst ei
   split at hq
   ·cases hq
    rcases List.mem_append.1 hf with hf | hf
    ·exact h.wd k p hp f hf
    ·simp at hf; subst hf; exact hw
   ·cases hq
  ·exact h.wd i q hq f hf
 cnt q hq := by
  rcases List.mem_or_eq_of_mem_set hq with hq | rfl
  ·have := h.cnt q hq; omega
  ·have := h.cnt p (mG hp); simp; omega
theorem SpI.nodup (h : SpI pm n lv l N) (hp : l[k]? = some p) : (p.vs.map (·.w)).Nodup := by
 have h0 := h.pv p (mG hp)
 rw [List.nodup_iff_pairwise_ne, List.pairwise_map, List.pairwise_iff_getElem]
 intro i j hi hj h4 e
 have h1 := h0.key i _ (List.getElem?_eq_getElem hi)
 have h2 := h0.key j _ (List.getElem?_eq_getElem hj)
 rw [e, h2] at h1
 have := Option.some.inj h1
 omega
end
theorem SplitW.piece {m : List (BA × Int)} {kind : Int} {n : Nat} {w : LB} (h : SplitW m kind n w ps) (hrg : ∀ s ∈ w, 0 ≤ pt m s ∧ pt m s < (n : Int)) : ∀ q ∈ ps, 0 ≤ q.part ∧ q.part < (n : Int) ∧ (∀ s ∈ q.word, pt m s = q.part ∧ s ∈ w) ∧ q.word.length ≤ w.length := by
 intro q hq
 rcases h with ⟨_, hne, s, hs, rfl, hall⟩ | ⟨_, hfl, hpt, hne, hr, _, _⟩ | ⟨_, _, rfl, _⟩
 ·simp at hq
  subst hq
  have := hrg s (mG hs)
  exact ⟨this.1, this.2, fun t ht => ⟨hall t ht, ht⟩, Nat.le_refl _⟩
 ·have h4 : q.word.Sublist w := by rw [← hfl]; exact List.sublist_flatten_of_mem (List.mem_map.2 ⟨q, hq, rfl⟩)
  exact ⟨(hr q hq).1, (hr q hq).2, fun t ht => ⟨hpt q hq t ht, h4.subset ht⟩, h4.length_le⟩
 ·obtain ⟨k, hk, rfl⟩ := List.mem_map.1 hq
  have := List.mem_range.1 hk
  refine ⟨by simp only; omega, by simp only; omega, fun t ht => ?_, List.length_filter_le _ _⟩
  obtain ⟨h1, h2⟩ := List.mem_filter.1 ht
  exact ⟨by simpa using h2, h1⟩
structure SplitR (pm : List (BA × Int)) (kind : Int) (n : Nat) (lv : List Variant) (P : List (List Variant)) : Prop where
 rg : ∀ v ∈ lv, ∀ s ∈ v.acts, 0 ≤ pt pm s ∧ pt pm s < (n : Int)
 len : P.length = n
 asc : ∀ vs ∈ P, ∀ (j : Nat) (x y : Variant), vs[j]? = some x → vs[j + 1]? = some y → cmpW x.acts y.acts < 0
 few : ∀ vs ∈ P, vs.length ≤ 300
 wd : ∀ (k : Nat) (vs : List Variant), P[k]? = some vs → ∀ v ∈ vs, v.acts.length ≤ 200 ∧ ∀ s ∈ v.acts, pt pm s = (k : Int) ∧ isName s = true ∧ ∃ u ∈ lv, s ∈ u.acts
 has : ∀ v ∈ lv, ∃ ps, SplitW pm kind n v.acts ps ∧ ∀ q ∈ ps, ∃ vs, P[q.part.toNat]? = some vs ∧ ∃ u ∈ vs, u.acts = q.word
theorem asc_of {ys : List Variant} (hp : ys.Perm xs) (hn : (xs.map (·.acts)).Nodup) (hs : ys.Pairwise fun x y => ¬ cmpW y.acts x.acts < 0) : ∀ (j : Nat) (x y : Variant), ys[j]? = some x → ys[j + 1]? = some y → cmpW x.acts y.acts < 0 := by
 intro j x y hx hy
 have h5 : (ys.map (·.acts)).Nodup := (hp.map _).nodup_iff.2 hn
 obtain ⟨h1, rfl⟩ := gE hx
 obtain ⟨h2, rfl⟩ := gE hy
 have h3 := List.pairwise_iff_getElem.1 hs j (j + 1) h1 h2 oM
 rw [List.nodup_iff_pairwise_ne, List.pairwise_map] at h5
 have h4 := List.pairwise_iff_getElem.1 h5 j (j + 1) h1 h2 oM
 rcases cmpW_lin.total ys[j].acts ys[j + 1].acts with h | h | h
 ·exact h
 ·exact absurd (cmpW_lin.eq _ _ h) h4
 ·exact absurd h h3
instance : Mo (allOk H l) H H' (allOk H' l) := ⟨fun h e => h.mono e⟩
end
section
open Go.Proofs.Tryz
attribute [local irreducible] TK Yl OpK AnyT wpList Code.wp
theorem c21v {vs : List VE} {B : OA} {n c : Nat} {caps : LV} (hn : vs.length = n) (hn2 : n ≤ 1000000) (hg : ∀ (args : Array Value) (w : World), (callFunc g args).run PP w = .ok (.enter g args) w) (hf : ∀ A n c cnt, Ct PP g ([.agg #[.slice A n c, .int .i64 cnt]] ++ caps : LV).toArray H [] fun v H' O' => O' = [] ∧ ∃ r, v = .bool r) : Ct PP 21 #[.slice B n c, .func (.func g) #[] caps.toArray] H [.row 26 2 (.slice B n c) n (veC vs)] fun v H' O' => O' = [.row 26 2 (.slice B n c) n (veC vs)] ∧ ∃ r, v = .int .i64 r := by
 refine cB func21 ntmps21 fun I hD hI h9 => ?_
 refine g12c ?_
 intros
 refine lp1 (fun D f E H' O m => ∃ (i : Nat), H = H' ∧ (i ≤ n) ∧ m = n - i ∧ O = [f] ∧ E = (8, .int .i64 (i : Int)) :: D) [0, 1, 7] [0] ⟨0, rfl, Nat.zero_le _, rfl, rfl, rfl⟩ ?_
 rintro _ _ _ _ ⟨i, rfl, hi, rfl, rfl, rfl⟩ _ h6
 refine g5b ?_
 intros
 refine cD ?_ ?_ <;> intro h7
 refine g13c ?_
 intros
 refine row_addr (i := 0) rfl oM fun b4 h5 => ?_
 subst h5
 refine g1 ?_
 obtain ⟨v0, h4⟩ := ex_i (l := vs) (i := i) oM
 refine q (yLoadA (cs := [.slice v0.A v0.n v0.c, .int .i64 v0.cnt]) aC sC rfl (Mem.row2 (i := 0) rfl (veC_at h4).1 (veC_at h4).2) rfl) rfl rfl rfl ?_
 refine sq rfl (TK.callS hD rfl rfl (entV hg rfl rfl) (hf _ _ _ _) ?_)
 rintro v1 ⟨r0, rfl⟩
 refine g1 ?_
 refine cN ?_ ?_ <;> intro h8
 refine g5a ?_
 intros
 refine rT results21 ?_
 exact ⟨rfl, _, rfl⟩
 refine g4 ?_
 exact nK h6 ⟨i + 1, rfl, oM, rfl, rfl, rfl⟩
 refine g5a ?_
 intros
 refine rT results21 ?_
 exact ⟨rfl, _, rfl⟩
theorem c5v {vs : List VE} {B : OA} {n c : Nat} {caps : LV} (hn : vs.length = n) (hn2 : n ≤ 1000000) (hg : ∀ (args : Array Value) (w : World), (callFunc g args).run PP w = .ok (.enter g args) w) (hf : ∀ A n c cnt, Ct PP g ([.agg #[.slice A n c, .int .i64 cnt]] ++ caps : LV).toArray H [] fun v H' O' => O' = [] ∧ ∃ r, v = .bool r) : Ct PP 5 #[.slice B n c, .func (.func g) #[] caps.toArray] H [.row 26 2 (.slice B n c) n (veC vs)] fun v H' O' => O' = [.row 26 2 (.slice B n c) n (veC vs)] ∧ ∃ r, v = .bool r := by
 refine cB func5 ntmps5 fun I hD hI h4 => ?_
 refine g8b ?_
 intros
 refine sq rfl (fR hD [0] [] rfl call21 rfl (c21v hn hn2 hg hf) ?_)
 rintro v4 ⟨r3, rfl⟩
 refine g3 ?_
 refine rT results5 ?_
 exact ⟨rfl, _, rfl⟩
theorem c113 {A : OA} {n c : Nat} {cnt : Int} : Ct PP 113 #[.agg #[.slice A n c, .int .i64 cnt]] H [] fun v H' O' => O' = [] ∧ ∃ r, v = .bool r := by
 refine cB func113 ntmps113 fun I hD hI h4 => ?_
 refine g2a ?_
 intros
 refine bG fun b2 => ?_
 refine g9a ?_
 intros
 refine kP [] ?_
 refine rT results113 ?_
 exact ⟨rfl, _, rfl⟩
end
end Go.Proofs.YtookcfeogbeooaaGreatDoor
