/-
The net of a tree: nothing leads to its source, nothing leads from its sink; its runs as the program plays them. What is reached in a net. Which activities reach which. slices.SortFunc at this program, 2: rows of one cell for each element. Closures of the cuts, 2. Cuts of graphs: what is told of them.
Conditions: those that each theorem states.
-/
import Derived.Test.YtookcfeogbeooaaGreatDoorM13
import Derived.Shelf.SlSortCmp.Whole1
set_option linter.all false
set_option maxRecDepth 100000
set_option maxHeartbeats 8000000
set_option autoImplicit true
set_option relaxedAutoImplicit true
namespace Go.Proofs.YtookcfeogbeooaaGreatDoor
open Go Go.Proofs
theorem bt_outs {z : Int} : ∀ (t : Tree) (p q : Int) (s : Bd), z < s.places → z ≠ q → ∀ tr ∈ (bt t p q s).trans, tr ∈ s.trans ∨ z ∉ tr.outs := by
 refine tree_ind fun t ih => ?_
 intro p q s hz hq tr h7
 have k0 : ∀ (l : List Tree) (ps : List (Int × Int)) (r : Bd), (∀ x ∈ l, x ∈ t.l) → z < r.places → (∀ y ∈ ps, z ≠ y.2) → ∀ tr ∈ (btL l ps r).trans, tr ∈ r.trans ∨ z ∉ tr.outs := by
  intro l
  induction l with
  | nil => intro ps r _ _ _ tr h; rw [btL] at h; exact .inl h
  | cons x l ihl =>
   intro ps r hm hz hp tr h
   cases ps with
   | nil => rw [btL] at h; exact .inl h
   | cons pq ps =>
    obtain ⟨a, b⟩ := pq
    rw [btL] at h
    have h2 := (bt_pre x a b r).2
    rcases ihl ps (bt x a b r) (fun y hy => hm y (by simp [hy])) oM (fun y hy => hp y (by simp [hy])) tr h with h | h
    ·exact ih x (hm x (by simp)) a b r hz (hp (a, b) (by simp)) tr h
    ·exact .inr h
 by_cases hf : 60 < s.trans.length ∨ 40 < s.places
 ·rw [bt_full hf] at h7; exact .inl h7
 simp only [not_or] at hf
 obtain ⟨h9, h8⟩ := hf
 by_cases h12 : t.op = 1 ∨ t.op = 2
 ·rw [bt_leaf h9 h8 h12] at h7
  simp only [Bd.add, List.mem_append, List.mem_singleton] at h7
  rcases h7 with h | rfl
  ·exact .inl h
  ·right; simp; exact hq
 by_cases h3 : t.op = 3
 ·rw [bt_seq h9 h8 h3] at h7
  have := k0 t.l (pairsS p q s.places t.l.length) (s.more ((t.l.length - 1 : Nat) : Int)) (fun x h => h) (by simp only [Bd.more]; omega) (fun y hy => by
   obtain ⟨i, hi, rfl⟩ := List.mem_map.1 hy
   simp only [seqAt]
   split
   ·omega
   ·split
    ·exact hq
    ·omega) tr h7
  exact this
 by_cases h4 : t.op = 4
 ·rw [bt_xor h9 h8 h4] at h7
  exact k0 t.l _ s (fun x h => h) hz (fun y hy => by rw [List.eq_of_mem_replicate hy]; exact hq) tr h7
 by_cases h5 : t.op = 5
 ·rw [bt_and h9 h8 h5] at h7
  simp only [Bd.add, List.mem_append, List.mem_singleton] at h7
  rcases h7 with h | rfl
  ·have := k0 t.l (pairsA s.places t.l.length) ((s.more (2 * (t.l.length : Int))).add ⟨#[]⟩ [p] (froms s.places t.l.length)) (fun x h => h) (by simp only [Bd.more, Bd.add]; omega) (fun y hy => by
    obtain ⟨i, hi, rfl⟩ := List.mem_map.1 hy
    simp only; omega) tr h
   rcases this with h | h
   ·simp only [Bd.add, Bd.more, List.mem_append, List.mem_singleton] at h
    rcases h with h | rfl
    ·exact .inl h
    ·right; intro h
     obtain ⟨i, hi, he⟩ := List.mem_map.1 h
     omega
   ·exact .inr h
  ·right; simp; exact hq
 by_cases h6 : t.op = 6
 ·rw [bt_loop h9 h8 h6] at h7
  simp only [Bd.add, List.mem_append, List.mem_singleton] at h7
  rcases h7 with h | rfl
  ·have := k0 t.l [(s.places, s.places + 1), (s.places + 1, s.places)] ((s.more 2).add ⟨#[]⟩ [p] [s.places]) (fun x h => h) (by simp only [Bd.more, Bd.add]; omega) (fun y hy => by
    simp at hy; rcases hy with rfl | rfl <;> simp only <;> omega) tr h
   rcases this with h | h
   ·simp only [Bd.add, Bd.more, List.mem_append, List.mem_singleton] at h
    rcases h with h | rfl
    ·exact .inl h
    ·right; simp; omega
   ·exact .inr h
  ·right; simp; exact hq
 ·rw [bt_other oM oM h3 h4 h5 h6] at h7; exact .inl h7
theorem bt_ins {z : Int} : ∀ (t : Tree) (p q : Int) (s : Bd), z < s.places → z ≠ p → ∀ tr ∈ (bt t p q s).trans, tr ∈ s.trans ∨ z ∉ tr.ins := by
 refine tree_ind fun t ih => ?_
 intro p q s hz hq tr h7
 have k0 : ∀ (l : List Tree) (ps : List (Int × Int)) (r : Bd), (∀ x ∈ l, x ∈ t.l) → z < r.places → (∀ y ∈ ps, z ≠ y.1) → ∀ tr ∈ (btL l ps r).trans, tr ∈ r.trans ∨ z ∉ tr.ins := by
  intro l
  induction l with
  | nil => intro ps r _ _ _ tr h; rw [btL] at h; exact .inl h
  | cons x l ihl =>
   intro ps r hm hz hp tr h
   cases ps with
   | nil => rw [btL] at h; exact .inl h
   | cons pq ps =>
    obtain ⟨a, b⟩ := pq
    rw [btL] at h
    have h2 := (bt_pre x a b r).2
    rcases ihl ps (bt x a b r) (fun y hy => hm y (by simp [hy])) oM (fun y hy => hp y (by simp [hy])) tr h with h | h
    ·exact ih x (hm x (by simp)) a b r hz (hp (a, b) (by simp)) tr h
    ·exact .inr h
 by_cases hf : 60 < s.trans.length ∨ 40 < s.places
 ·rw [bt_full hf] at h7; exact .inl h7
 simp only [not_or] at hf
 obtain ⟨h9, h8⟩ := hf
 by_cases h12 : t.op = 1 ∨ t.op = 2
 ·rw [bt_leaf h9 h8 h12] at h7
  simp only [Bd.add, List.mem_append, List.mem_singleton] at h7
  rcases h7 with h | rfl
  ·exact .inl h
  ·right; simp; exact hq
 by_cases h3 : t.op = 3
 ·rw [bt_seq h9 h8 h3] at h7
  have := k0 t.l (pairsS p q s.places t.l.length) (s.more ((t.l.length - 1 : Nat) : Int)) (fun x h => h) (by simp only [Bd.more]; omega) (fun y hy => by
   obtain ⟨i, hi, rfl⟩ := List.mem_map.1 hy
   have := List.mem_range.1 hi
   simp only [seqAt]
   split
   ·exact hq
   ·rw [if_neg oM]; omega) tr h7
  exact this
 by_cases h4 : t.op = 4
 ·rw [bt_xor h9 h8 h4] at h7
  exact k0 t.l _ s (fun x h => h) hz (fun y hy => by rw [List.eq_of_mem_replicate hy]; exact hq) tr h7
 by_cases h5 : t.op = 5
 ·rw [bt_and h9 h8 h5] at h7
  simp only [Bd.add, List.mem_append, List.mem_singleton] at h7
  rcases h7 with h | rfl
  ·have := k0 t.l (pairsA s.places t.l.length) ((s.more (2 * (t.l.length : Int))).add ⟨#[]⟩ [p] (froms s.places t.l.length)) (fun x h => h) (by simp only [Bd.more, Bd.add]; omega) (fun y hy => by
    obtain ⟨i, hi, rfl⟩ := List.mem_map.1 hy
    simp only; omega) tr h
   rcases this with h | h
   ·simp only [Bd.add, Bd.more, List.mem_append, List.mem_singleton] at h
    rcases h with h | rfl
    ·exact .inl h
    ·right; simp; exact hq
   ·exact .inr h
  ·right; intro h
   obtain ⟨i, hi, he⟩ := List.mem_map.1 h
   omega
 by_cases h6 : t.op = 6
 ·rw [bt_loop h9 h8 h6] at h7
  simp only [Bd.add, List.mem_append, List.mem_singleton] at h7
  rcases h7 with h | rfl
  ·have := k0 t.l [(s.places, s.places + 1), (s.places + 1, s.places)] ((s.more 2).add ⟨#[]⟩ [p] [s.places]) (fun x h => h) (by simp only [Bd.more, Bd.add]; omega) (fun y hy => by
    simp at hy; rcases hy with rfl | rfl <;> simp only <;> omega) tr h
   rcases this with h | h
   ·simp only [Bd.add, Bd.more, List.mem_append, List.mem_singleton] at h
    rcases h with h | rfl
    ·exact .inl h
    ·right; simp; exact hq
   ·exact .inr h
  ·right; simp; omega
 ·rw [bt_other oM oM h3 h4 h5 h6] at h7; exact .inl h7
theorem net_outs {t : Tree} : ∀ tr ∈ (netOf t).trans, (0 : Int) ∉ tr.outs := fun tr h => (bt_outs t 0 1 ⟨2, []⟩ dC dC tr h).resolve_left (by simp)
theorem net_ins {t : Tree} : ∀ tr ∈ (netOf t).trans, (1 : Int) ∉ tr.ins := fun tr h => (bt_ins t 0 1 ⟨2, []⟩ dC dC tr h).resolve_left (by simp)
def MkL (n : Nat) (m : LI) (f : Mk) : Prop := m.length = n ∧ ∀ k : Nat, k < n → m[k]? = some (f (k : Int))
theorem MkL.get {n : Nat} {m : LI} (h : MkL n m f) {p : Int} (h0 : 0 ≤ p) (h1 : p < n) : getM m p = f p := by
 have := h.2 p.toNat oM
 rw [getM, List.getD_eq_getElem?_getD, this, Option.getD_some]
 congr 1; omega
theorem MkL.set {n : Nat} {m : LI} (h : MkL n m f) {p : Int} (h0 : 0 ≤ p) (h1 : p < n) : MkL n (m.set p.toNat v) (fun x => if x = p then v else f x) := by
 refine ⟨by simp [h.1], fun k hk => ?_⟩
 rw [List.getElem?_set, h.2 k hk]
 by_cases h2 : p.toNat = k
 ·rw [if_pos h2, if_pos (by rw [h.1]; omega)]; simp only; rw [if_pos oM]
 ·rw [if_neg h2]; simp only; rw [if_neg oM]
theorem MkL.sub {n : Nat} : ∀ {l : LI} {m : LI} {f : Mk}, MkL n m f → l.Nodup → (∀ p ∈ l, 0 ≤ p ∧ p < n) → MkL n (subM m l) (fun x => f x - ind l x)
 | [], m, f, h, _, _ => by simpa [subM, ind] using h
 | p :: l, m, f, h, hn, hb => by
  have hp := hb p (by simp)
  have h1 := h.set (v := getM m p - 1) hp.1 hp.2
  have h2 := MkL.sub h1 (List.nodup_cons.1 hn).2 fun q hq => hb q (by simp [hq])
  have e : subM m (p :: l) = subM (m.set p.toNat (getM m p - 1)) l := rfl
  rw [e]
  refine ⟨h2.1, fun k hk => ?_⟩
  rw [h2.2 k hk]
  congr 1
  simp only [ind, List.mem_cons]
  by_cases h3 : (k : Int) = p
  ·rw [if_pos h3, if_neg (by rw [h3]; exact (List.nodup_cons.1 hn).1), if_pos (.inl h3), h.get hp.1 hp.2, h3]; omega
  ·rw [if_neg h3]; simp [h3]
theorem MkL.add {n : Nat} : ∀ {l : LI} {m : LI} {f : Mk}, MkL n m f → l.Nodup → (∀ p ∈ l, 0 ≤ p ∧ p < n) → MkL n (addM m l) (fun x => f x + ind l x)
 | [], m, f, h, _, _ => by simpa [addM, ind] using h
 | p :: l, m, f, h, hn, hb => by
  have hp := hb p (by simp)
  have h1 := h.set (v := getM m p + 1) hp.1 hp.2
  have h2 := MkL.add h1 (List.nodup_cons.1 hn).2 fun q hq => hb q (by simp [hq])
  have e : addM m (p :: l) = addM (m.set p.toNat (getM m p + 1)) l := rfl
  rw [e]
  refine ⟨h2.1, fun k hk => ?_⟩
  rw [h2.2 k hk]
  congr 1
  simp only [ind, List.mem_cons]
  by_cases h3 : (k : Int) = p
  ·rw [if_pos h3, if_neg (by rw [h3]; exact (List.nodup_cons.1 hn).1), if_pos (.inl h3), h.get hp.1 hp.2, h3]; omega
  ·rw [if_neg h3]; simp [h3]
theorem ascI_nodup {l : LI} (h : ascI l = true) : l.Nodup := by
 have : l.Pairwise (· < ·) := by
  induction l with
  | nil => exact .nil
  | cons a r ih =>
   cases r with
   | nil => exact List.pairwise_singleton _ _
   | cons b r =>
    simp only [ascI, Bool.and_eq_true, decide_eq_true_eq] at h
    have h2 := ih h.2
    refine List.pairwise_cons.2 ⟨fun x hx => ?_, h2⟩
    rcases List.mem_cons.1 hx with rfl | hx
    ·exact h.1
    ·have := (List.pairwise_cons.1 h2).1 x hx; omega
 exact this.imp fun h => by omega
theorem placesB_nodup {pl : Int} {l : LI} (h : placesB pl l = true) : l.Nodup := by
 unfold placesB at h; rw [Bool.and_eq_true] at h; exact ascI_nodup h.2
theorem maxL_le {l : LI} {k : Int} (hk : 0 ≤ k) (h : ∀ x ∈ l, x ≤ k) : maxL l ≤ k := by
 cases l with
 | nil => exact hk
 | cons x r =>
  have : ∀ (r : LI) (a : Int), a ≤ k → (∀ x ∈ r, x ≤ k) → r.foldl max a ≤ k := by
   intro r
   induction r with
   | nil => intro a ha _; exact ha
   | cons y r ih => intro a ha hr; exact ih _ (by have := hr y (by simp); omega) fun z hz => hr z (by simp [hz])
  exact this r x (h x (by simp)) fun z hz => h z (by simp [hz])
theorem MkL.fire {i : Nat} {t : Trans} {m : LI} {R R' : Int → Prop} (hv : validN x = true) (ht : x.trans[i]? = some t) (h : MkL x.places.toNat m f) (hf : OkF R f) (hf' : OkF R' (stepF t f)) (he : ∀ p ∈ t.ins, f p = 1) :
  fireM x m (i : Int) = (nextM t m, 0) ∧ MkL x.places.toNat (nextM t m) (stepF t f) ∧ okM x m ∧ okM x (nextM t m) := by
 obtain ⟨h1, h2, h3, h4, _, _⟩ := validN_iff.1 hv
 have h7 := h4 t (mG ht)
 have h5 := h7
 unfold okTr at h5
 rw [Bool.and_eq_true, Bool.and_eq_true] at h5
 have hi := okTr_ins h7
 have ho := okTr_outs h7
 have hs := (h.sub (placesB_nodup h5.1.2) fun p hp => by have := hi p hp; omega).add (placesB_nodup h5.2) fun p hp => by have := ho p hp; omega
 have h6 : MkL x.places.toNat (nextM t m) (stepF t f) := hs
 have b4 : ∀ {m : LI} {f : Mk} {R : Int → Prop}, MkL x.places.toNat m f → OkF R f → ∀ k ∈ m, 0 ≤ k ∧ k ≤ 1 := by
  intro m f R h hf k hk
  obtain ⟨j, hj⟩ := List.getElem?_of_mem hk
  have h9 := (gE hj).1
  rw [h.2 j (by rw [← h.1]; exact h9)] at hj
  cases hj
  rcases hf (j : Int) with h | h <;> omega
 have h8 : enB m t = true := by
  unfold enB
  rw [Bool.not_eq_true', List.any_eq_false]
  intro p hp
  have := hi p hp
  rw [h.get this.1 oM, he p hp]
  decide
 refine ⟨?_, h6, ⟨h.1, fun k hk => by have := b4 h hf k hk; omega⟩, ⟨h6.1, fun k hk => by have := b4 h6 hf' k hk; omega⟩⟩
 rw [fireM_at oM (by rw [Int.toNat_natCast]; exact ht)]
 unfold fireT
 rw [if_neg (by rw [h8]; decide), if_neg (by have := maxL_le (k := 1) oM fun k hk => (b4 h6 hf' k hk).2; omega)]
inductive RunL (x : Net) : LI → List Nat → Word → LI → Prop
 | nil {m : LI} : okM x m → RunL x m [] [] m
 | step {m m' m'' : LI} {i : Nat} {t : Trans} {s : List Nat} {w : Word} : x.trans[i]? = some t → okM x m → fireM x m (i : Int) = (m', 0) → RunL x m' s w m'' → RunL x m (i :: s) (labW t ++ w) m''
theorem RunF.list {R : Int → Prop} {w : Word} (hv : validN x = true) (h : RunF x.trans R f s w f') : ∀ {m : LI}, MkL x.places.toNat m f → ∃ m', MkL x.places.toNat m' f' ∧ RunL x m s w m' := by
 induction h with
 | nil h => intro m hm; exact ⟨m, hm, .nil ⟨hm.1, fun k hk => by
   obtain ⟨j, hj⟩ := List.getElem?_of_mem hk
   have h5 := (gE hj).1
   rw [hm.2 j (by rw [← hm.1]; exact h5)] at hj
   cases hj
   rcases h (j : Int) with h | h <;> omega⟩⟩
 | step h1 h2 h3 h4 ih =>
  intro m hm
  obtain ⟨e1, e2, e3, e4⟩ := hm.fire hv h1 h3 h4.ok h2
  obtain ⟨m', e5, e6⟩ := ih e2
  exact ⟨m', e5, .step h1 e3 e1 e6⟩
theorem MkL.ext {n : Nat} {m : LI} (h : MkL n m f) (h' : MkL n m' f) : m = m' := by
 apply List.ext_getElem?
 intro k
 rcases Nat.lt_or_ge k n with hk | hk
 ·rw [h.2 k hk, h'.2 k hk]
 ·rw [List.getElem?_eq_none (by rw [h.1]; exact hk), List.getElem?_eq_none (by rw [h'.1]; exact hk)]
theorem MkL.one {x : Net} {p : Int} (h0 : 0 ≤ p) (h1 : p < x.places) : MkL x.places.toNat (oneM x p) (ind [p]) := by
 have hz : MkL x.places.toNat (List.replicate x.places.toNat 0) (fun _ => 0) := ⟨by simp, fun k hk => by simp [hk]⟩
 have := hz.set (v := 1) h0 oM
 refine ⟨this.1, fun k hk => ?_⟩
 have h2 := this.2 k hk
 unfold oneM
 rw [h2]
 simp [ind]
theorem net_run {t : Tree} (h : okT t = true) (hv : validN (netOf t) = true) (hw : Lang t w) : ∃ s, RunL (netOf t) (oneM (netOf t) 0) s w (oneM (netOf t) 1) := by
 have hb := validN_bounds hv
 have hp := (bt_pre t 0 1 ⟨2, []⟩).2
 have h2 : (2 : Int) ≤ (netOf t).places := hp
 obtain ⟨z, hz⟩ := good t h 0 1 ⟨2, []⟩ dC dC dC hb.2 hb.1 w hw
 obtain ⟨m', h3, h4⟩ := RunF.list (x := netOf t) hv hz (MkL.one (x := netOf t) (p := 0) dC oM)
 have := h3.ext (MkL.one (x := netOf t) (p := 1) dC oM)
 subst this
 exact ⟨z, h4⟩
theorem ex_i {α : Type} {l : List α} {i : Nat} (h : i < l.length) : ∃ x, l[i]? = some x := ⟨l[i], List.getElem?_eq_getElem h⟩
def bget (P : List Bool) (p : Int) : Bool := P.getD p.toNat false
theorem bget_at {P : List Bool} {p : Int} (h : p.toNat < P.length) : P[p.toNat]? = some (bget P p) := by
 unfold bget; rw [List.getElem?_eq_getElem h, List.getD_eq_getElem?_getD, List.getElem?_eq_getElem h]; rfl
theorem bl_at {P : List Bool} {i : Nat} (h : P[i]? = some v) : (P.map Value.bool)[0 + i * 1]? = some (.bool v) := by rw [Nat.zero_add, Nat.mul_one, List.getElem?_map, h]; rfl
theorem bl_set {r : List Bool} {j : Nat} {v : Bool} : (r.map Value.bool).set (0 + j * 1) (.bool v) = (r.set j v).map Value.bool := by rw [Nat.zero_add, Nat.mul_one, List.map_set]
theorem bget_set {P : List Bool} {p q : Int} (hp : p.toNat < P.length) : bget (P.set p.toNat true) q = true ↔ q.toNat = p.toNat ∨ bget P q = true := by
 unfold bget
 rw [List.getD_eq_getElem?_getD, List.getElem?_set, List.getD_eq_getElem?_getD]
 by_cases h : p.toNat = q.toNat
 ·rw [if_pos h, if_pos hp]; simp [h]
 ·rw [if_neg h]; simp [Ne.symm h]
def nfal : List Bool → Nat
 | [] => 0
 | b :: l => (if b = false then 1 else 0) + nfal l
theorem nfal_set : ∀ {T : List Bool} {i : Nat}, T[i]? = some false → nfal (T.set i true) + 1 = nfal T
 | [], i, h => by simp at h
 | b :: l, 0, h => by simp at h; subst h; simp [nfal]; omega
 | b :: l, i + 1, h => by
  have := nfal_set (T := l) (i := i) (by simpa using h)
  simp only [List.set_cons_succ, nfal]; omega
def rIn : Bool → Trans → LI
 | true, t => t.outs
 | false, t => t.ins
def rOut : Bool → Trans → LI
 | true, t => t.ins
 | false, t => t.outs
structure RInv (x : Net) (back : Bool) (f : Int) (P T : List Bool) : Prop where
 lp : P.length = x.places.toNat
 lt : T.length = x.trans.length
 from_ : bget P f = true
 outs : ∀ (i : Nat) (t : Trans), x.trans[i]? = some t → T[i]? = some true → ∀ q ∈ rOut back t, bget P q = true
def RDone (x : Net) (back : Bool) (P T : List Bool) (k : Nat) : Prop := ∀ (j : Nat) (t : Trans), j < k → x.trans[j]? = some t → T[j]? = some true ∨ ∀ p ∈ rIn back t, bget P p = false
theorem RInv.start {x : Net} {back : Bool} {f : Int} (h0 : 0 ≤ f) (h1 : f < x.places) : RInv x back f ((List.replicate x.places.toNat false).set f.toNat true) (List.replicate x.trans.length false) where
 lp := by simp
 lt := by simp
 from_ := (bget_set (by simp; omega)).2 (.inl rfl)
 outs i t hi hT := by
  rw [List.getElem?_replicate] at hT
  split at hT <;> cases hT
theorem RDone.zero {back : Bool} : RDone x back P T 0 := fun j t h => by omega
theorem RDone.skip {back : Bool} {k : Nat} {t : Trans} (h : RDone x back P T k) (ht : x.trans[k]? = some t) (hs : T[k]? = some true ∨ (rIn back t).any (bget P) = false) : RDone x back P T (k + 1) := fun j t' hj h4 => by
 rcases Nat.lt_or_ge j k with h1 | h1
 ·exact h j t' h1 h4
 ·obtain rfl : j = k := by omega
  rw [ht] at h4; cases h4
  rcases hs with hs | hs
  ·exact .inl hs
  ·right; rw [List.any_eq_false] at hs; intro p hp; simpa using hs p hp
theorem RInv.take {back : Bool} {P' : List Bool} {i : Nat} {t : Trans} (h : RInv x back f P T) (ht : x.trans[i]? = some t) (hl : P'.length = P.length) (hm : ∀ q, bget P q = true → bget P' q = true) (ho : ∀ (j : Nat) (q : Int), j < (rOut back t).length → (rOut back t)[j]? = some q → bget P' q = true) : RInv x back f P' (T.set i true) where
 lp := hl.trans h.lp
 lt := by rw [List.length_set]; exact h.lt
 from_ := hm _ h.from_
 outs j t' hj hT q hq := by
  rw [List.getElem?_set] at hT
  by_cases hij : i = j
  ·subst hij; rw [ht] at hj; cases hj
   obtain ⟨k, hk⟩ := List.getElem?_of_mem hq
   exact ho k q (gE hk).1 hk
  ·rw [if_neg hij] at hT; exact hm _ (h.outs j t' hj hT q hq)
structure ReachR (x : Net) (back : Bool) (f : Int) (P T : List Bool) : Prop where
 inv : RInv x back f P T
 done : RDone x back P T x.trans.length
theorem ReachR.clo {back : Bool} (h : ReachR x back f P T) : Clo x.trans (rIn back) (rOut back) (fun q => bget P q = true) (fun i => T[i]? = some true) := by
 intro i t hi ⟨p, hp, hP⟩
 have hT : T[i]? = some true := by
  rcases h.done i t (gE hi).1 hi with h1 | h1
  ·exact h1
  ·have h4 : bget P p = true := hP
   rw [h1 p hp] at h4; cases h4
 exact ⟨hT, h.inv.outs i t hi hT⟩
theorem ReachR.all {t : Tree} (hok : okT t = true) (hv : validN (netOf t) = true) {back : Bool} (h : ReachR (netOf t) back (if back = true then 1 else 0) P T) : memB false P = false ∧ memB false T = false := by
 have h4 : (∀ x, 0 ≤ x → x < (netOf t).places → bget P x = true) ∧ ∀ i, i < (netOf t).trans.length → T[i]? = some true := by
  cases back with
  | true => exact net_bwd hok hv h.clo h.inv.from_
  | false => exact net_fwd hok hv h.clo h.inv.from_
 have k0 : ∀ l : List Bool, (∀ i, i < l.length → l[i]? = some true) → memB false l = false := fun l hl => by
  rw [Bool.eq_false_iff]; intro hm
  obtain ⟨i, hi⟩ := List.getElem?_of_mem (memB_iff.1 hm)
  rw [hl i (gE hi).1] at hi; cases hi
 refine ⟨k0 P fun i hi => ?_, k0 T fun i hi => h4.2 i (by rw [← h.inv.lt]; exact hi)⟩
 have h1 := h.inv.lp
 have h2 := h4.1 (i : Int) oM oM
 have h3 := bget_at (P := P) (p := (i : Int)) (by rw [Int.toNat_natCast]; exact hi)
 rw [Int.toNat_natCast, h2] at h3
 exact h3
section
open Go.Proofs.Tryz
attribute [local irreducible] TK Yl OpK AnyT wpList Code.wp
theorem info4 : (PP.info? 4).map (·.size) = some 1 := by kernel_rfl
theorem c158 (hR : RelAt H b A B S F c d e f k names M0 st en) (hk : k ≤ 1000000) : Ct PP 158 #[.pointer (ad b)] H [] fun v H' O' => O' = [] ∧ ∃ T C m, v = .slice C k m ∧ Sl (rSl rBool) H' T C k m ∧ (∀ r ∈ T, r.length = k) ∧ TrU T k := by
 have k5 := hR.cells
 have k6 := hR.names
 have e9 := hR.edge
 have k0 := hR.square
 have k9 := e9.len
 refine cB func158 ntmps158 fun I hD hI l4 => ?_
 refine g11b ?_
 intros
 refine sq rfl (fT hD [] [] rfl call197 rfl (c197 (k := k) hk) ?_)
 rintro v6 O7 ⟨i6, b8, rfl, e5, rfl⟩
 refine g10b ?_
 intros
 refine lp1 (fun D f E H' O m => ∃ (i : Nat) (M : List (List Bool)), H = H' ∧ (i ≤ k) ∧ (M.length = k) ∧ (∀ r ∈ M, r.length = k) ∧ m = k - i ∧ O = [f, .rows 4 1 (matL k b8 M)] ∧ E = (16, .int .i64 (i : Int)) :: D) [0, 3, 15] [0, 1] ⟨0, List.replicate k (List.replicate k false), rfl, Nat.zero_le _, (by simp), (fun r hr => by rw [List.eq_of_mem_replicate hr]; simp), rfl, rfl, rfl⟩ ?_
 rintro _ _ _ _ ⟨i, M, rfl, hi, f9, i5, rfl, rfl, rfl⟩ _ e2
 refine g5b ?_
 intros
 refine cD ?_ ?_ <;> intro k1
 refine g8b ?_
 intros
 refine ts 11 fun _ => ?_
 refine tj 0 ?_
 refine g2 ?_
 obtain ⟨e6, b7⟩ := ex_at (l := b8) (i := i) oM
 refine tk 3 rfl kR aS nP kS (yLoad1 aC rfl (Mem.row1 (i := 0) rfl (matO_at b7))) rfl rfl rfl ?_
 refine g5 ?_
 obtain ⟨f8, e1⟩ := eX e9 i
 obtain ⟨l0, o4, j7, j1, e7, j8⟩ := e9.at_ e1
 obtain ⟨A0, n0, c34, rfl, d9⟩ := e7
 refine g3 ?_
 obtain ⟨r7, c1⟩ := ex_at (l := M) (i := i) oM
 have k7 := k0 _ (mG e1)
 have l2 := d9.len
 refine sq rfl (TK.rowOut (O := [.row 78 1 (.slice (ad i6) k k) k (matO k b8), .rows 4 1 (matL k b8 M)]) (q := 1) (i := i) rfl (matL_at b7 c1) (tCopyB (i := 0) rfl uC info4 d9 oM rfl rfl dC (TK.rowIn (O := [.row 78 1 (.slice (ad i6) k k) k (matO k b8), .rows 4 1 (matL k b8 M)]) (q := 1) (i := i) (y := (.slice (ad e6) k k, k, f8.map Value.bool)) rfl (matL_at b7 c1) rfl ?_)))
 rw [matL_set b7 oM]
 refine g4 ?_
 exact nK e2 ⟨i + 1, M.set i f8, rfl, oM, (by simp [f9]), (rows_len i5 oM), rfl, rfl, rfl⟩
 refine g9b ?_
 intros
 refine lp1 (fun D f E H' O m => ∃ (ka : Nat) (M' : List (List Bool)), H = H' ∧ (ka ≤ k) ∧ (M'.length = k) ∧ (∀ r ∈ M', r.length = k) ∧ (TrU M' ka) ∧ m = k - ka ∧ O = [f, .rows 4 1 (matL k b8 M')] ∧ E = (34, .int .i64 (ka : Int)) :: D) [3, 33] [0, 1] ⟨0, M, rfl, Nat.zero_le _, f9, i5, (TrU.zero _), rfl, rfl, rfl⟩ ?_
 rintro _ _ _ _ ⟨ka, M', rfl, k8, d0, c0, hT, rfl, rfl, rfl⟩ _ e3
 refine g5b ?_
 intros
 refine cD ?_ ?_ <;> intro i9
 refine g15c ?_
 intros
 refine lp1 (fun D f E H' O m => ∃ (ia : Nat) (M2 : List (List Bool)), H = H' ∧ (ia ≤ k) ∧ (M2.length = k) ∧ (∀ r ∈ M2, r.length = k) ∧ (War M' M2 ka ia 0) ∧ m = k - ia ∧ O = [f, .rows 4 1 (matL k b8 M2)] ∧ E = (39, .int .i64 (ia : Int)) :: D) [3, 5, 33, 34, 38] [0, 1] ⟨0, M', rfl, Nat.zero_le _, d0, c0, (War.zero _ _), rfl, rfl, rfl⟩ ?_
 rintro _ _ _ _ ⟨ia, M2, rfl, l3, d6, d5, hW, rfl, rfl, rfl⟩ _ e4
 refine g5b ?_
 intros
 refine cD ?_ ?_ <;> intro j0
 refine g15c ?_
 intros
 refine lp1 (fun D f E H' O m => ∃ (ja : Nat) (M1 : List (List Bool)), H = H' ∧ (ja ≤ k) ∧ (M1.length = k) ∧ (∀ r ∈ M1, r.length = k) ∧ (War M' M1 ka ia ja) ∧ m = k - ja ∧ O = [f, .rows 4 1 (matL k b8 M1)] ∧ E = (44, .int .i64 (ja : Int)) :: D) [3, 5, 6, 33, 34, 38, 39, 43] [0, 1] ⟨0, M2, rfl, Nat.zero_le _, d6, d5, hW, rfl, rfl, rfl⟩ ?_
 rintro _ _ _ _ ⟨ja, M1, rfl, l1, h9, h4, hV, rfl, rfl, rfl⟩ _ d8
 refine g5b ?_
 intros
 refine cD ?_ ?_ <;> intro j2
 refine g8b ?_
 intros
 refine ts 30 fun _ => ?_
 refine tj 0 ?_
 refine g2 ?_
 obtain ⟨j9, h7⟩ := ex_at (l := b8) (i := ia) oM
 refine tk 3 rfl kR aS nP kS (yLoad1 aC rfl (Mem.row1 (i := 0) rfl (matO_at h7))) rfl rfl rfl ?_
 refine g4 ?_
 obtain ⟨k3, d7⟩ := ex_at (l := b8) (i := ia) oM
 refine tk 8 rfl kR aS nP kS (yLoad1 aC rfl (Mem.row1 (i := 0) rfl (matO_at d7))) rfl rfl rfl ?_
 refine g2 ?_
 obtain ⟨r5, b4⟩ := ex_at (l := M1) (i := ia) oM
 obtain ⟨t2, d1⟩ := ex_at (l := r5) (i := ja) (by have := h4 _ (mG b4); omega)
 have k2 := at2_of b4 d1
 refine tk 11 rfl kR aS nP kS (yLoad1 aC rfl (Mem.rows1 (q := 1) (i := ia) rfl (matL_at d7 b4) (bl_at d1))) rfl rfl rfl ?_
 refine g1 ?_
 refine sB 59 ?_ ?_ <;> intro j6
 refine tjN 13 ?_
 refine g18 ?_
 obtain ⟨r6, h8⟩ := ex_at (l := M1) (i := ia) oM
 have i7 := h4 _ (mG h8)
 refine sq rfl (tStoreRows1 (q := 1) (i := ia) rfl (matL_at h7 h8) sC rfl rfl rfl (by simp; omega) ?_)
 rw [bset_map, matL_set h7 oM]
 refine g4 ?_
 exact nK d8 ⟨ja + 1, M1.set ia (r6.set ja true), rfl, oM, (by simp [h9]), (rows_len h4 (by rw [List.length_set]; exact h4 _ (mG h8))), (hV.cell h8 oM (by simp_all)), rfl, rfl, rfl⟩
 refine tjY 13 ?_
 refine g2 ?_
 obtain ⟨k4, d2⟩ := ex_at (l := b8) (i := ia) oM
 refine tkY 16 rfl kR aS nP kS (yLoad1 aC rfl (Mem.row1 (i := 0) rfl (matO_at d2))) rfl rfl rfl rfl rfl rfl ?_
 refine g2 ?_
 obtain ⟨r3, b6⟩ := ex_at (l := M1) (i := ia) oM
 obtain ⟨t3, d4⟩ := ex_at (l := r3) (i := ka) (by have := h4 _ (mG b6); omega)
 have j5 := at2_of b6 d4
 refine tkY 19 rfl kR aS nP kS (yLoad1 aC rfl (Mem.rows1 (q := 1) (i := ia) rfl (matL_at d2 b6) (bl_at d4))) rfl rfl rfl rfl rfl rfl ?_
 refine g1 ?_
 refine sB 67 ?_ ?_ <;> intro j4
 refine tjY 21 ?_
 refine g2 ?_
 obtain ⟨i8, d3⟩ := ex_at (l := b8) (i := ka) oM
 refine tkY 24 rfl kR aS nP kS (yLoad1 aC rfl (Mem.row1 (i := 0) rfl (matO_at d3))) rfl rfl rfl rfl rfl rfl ?_
 refine g2 ?_
 obtain ⟨r4, b5⟩ := ex_at (l := M1) (i := ka) oM
 obtain ⟨t1, b9⟩ := ex_at (l := r4) (i := ja) (by have := h4 _ (mG b5); omega)
 have i4 := at2_of b5 b9
 refine tkY 27 rfl kR aS nP kS (yLoad1 aC rfl (Mem.rows1 (q := 1) (i := ka) rfl (matL_at d3 b5) (bl_at b9))) rfl rfl rfl rfl rfl rfl ?_
 refine g4 ?_
 obtain ⟨r0, h6⟩ := ex_at (l := M1) (i := ia) oM
 have i7 := h4 _ (mG h6)
 refine sq rfl (tStoreRows1 (q := 1) (i := ia) rfl (matL_at h7 h6) sC rfl rfl rfl (by simp; omega) ?_)
 rw [bset_map, matL_set h7 oM]
 refine g4 ?_
 exact nK d8 ⟨ja + 1, M1.set ia (r0.set ja t1), rfl, oM, (by simp [h9]), (rows_len h4 (by rw [List.length_set]; exact h4 _ (mG h6))), (hV.cell h6 oM (by simp_all)), rfl, rfl, rfl⟩
 refine tjN 21 ?_
 refine g10 ?_
 obtain ⟨r1, h5⟩ := ex_at (l := M1) (i := ia) oM
 have i7 := h4 _ (mG h5)
 refine sq rfl (tStoreRows1 (q := 1) (i := ia) rfl (matL_at h7 h5) sC rfl rfl rfl (by simp; omega) ?_)
 rw [bset_map, matL_set h7 oM]
 refine g4 ?_
 exact nK d8 ⟨ja + 1, M1.set ia (r1.set ja false), rfl, oM, (by simp [h9]), (rows_len h4 (by rw [List.length_set]; exact h4 _ (mG h5))), (hV.cell h5 oM (by simp_all)), rfl, rfl, rfl⟩
 refine g4 ?_
 exact nK e4 ⟨ia + 1, M1, rfl, oM, h9, h4, (hV.row (n := k) oM (fun a b h => at2_out d0 c0 a b (.inr h))), rfl, rfl, rfl⟩
 refine g4 ?_
 exact nK e3 ⟨ka + 1, M2, rfl, oM, d6, d5, (hW.tr (n := k) oM (fun a b h => at2_out d0 c0 a b (.inl h)) hT), rfl, rfl, rfl⟩
 refine g6a ?_
 intros
 refine tSealMat (p := 0) (q := 1) dC rfl rfl e5 d0 c0 hk fun H0 e8 e0 => ?_
 have j3 := e0
 refine rT results158 ?_
 exact ⟨rfl, _, _, _, rfl, j3, c0, (show k = ka by omega) ▸ hT⟩
end
end Go.Proofs.YtookcfeogbeooaaGreatDoor
namespace Go.Proofs
open Go.Shelf
def Tryz.sf160_ren : Go.Shelf.Ren := ⟨fun | 6 => 160 | 15 => 72 | 14 => 198 | 28 => 127 | 29 => 128 | 20 => 245 | 21 => 246 | 22 => 247 | 23 => 248 | 24 => 249 | 25 => 250 | 26 => 251 | 27 => 252 | 46 => 278 | 47 => 177 | 48 => 178 | 49 => 279 | 50 => 280 | 57 => 298 | n => n, fun | 22 => 100 | 24 => 50 | 25 => 237 | 3 => 3 | 39 => 138 | 0 => 0 | 53 => 201 | 55 => 203 | 4 => 4 | 46 => 194 | 45 => 193 | 50 => 133 | 5 => 5 | 9 => 9 | 66 => 246 | 70 => 250 | 76 => 275 | 77 => 276 | n => n, fun | n => n⟩
theorem Tryz.sf160 : Go.Proofs.SlLaysF.n6 Tryz.prog Tryz.sf160_ren := {
 mixed := by kernel_rfl
 f6 := ⟨Tryz.f160.name, by decide, Tryz.func160.trans (congrArg some (by kernel_rfl))⟩
 f14 := ⟨Tryz.f198.name, by decide, Tryz.func198.trans (congrArg some (by kernel_rfl))⟩
 f15 := Tryz.func72.trans (congrArg some (by kernel_rfl))
 f20 := ⟨Tryz.f245.name, by decide, Tryz.func245.trans (congrArg some (by kernel_rfl))⟩
 f21 := ⟨Tryz.f246.name, by decide, Tryz.func246.trans (congrArg some (by kernel_rfl))⟩
 f22 := ⟨Tryz.f247.name, by decide, Tryz.func247.trans (congrArg some (by kernel_rfl))⟩
 f23 := ⟨Tryz.f248.name, by decide, Tryz.func248.trans (congrArg some (by kernel_rfl))⟩
 f24 := ⟨Tryz.f249.name, by decide, Tryz.func249.trans (congrArg some (by kernel_rfl))⟩
 f25 := ⟨Tryz.f250.name, by decide, Tryz.func250.trans (congrArg some (by kernel_rfl))⟩
 f26 := ⟨Tryz.f251.name, by decide, Tryz.func251.trans (congrArg some (by kernel_rfl))⟩
 f27 := ⟨Tryz.f252.name, by decide, Tryz.func252.trans (congrArg some (by kernel_rfl))⟩
 f28 := Tryz.func127.trans (congrArg some (by kernel_rfl))
 f29 := Tryz.func128.trans (congrArg some (by kernel_rfl))
 f46 := ⟨Tryz.f278.name, by decide, Tryz.func278.trans (congrArg some (by kernel_rfl))⟩
 f47 := Tryz.func177.trans (congrArg some (by kernel_rfl))
 f48 := Tryz.func178.trans (congrArg some (by kernel_rfl))
 f49 := ⟨Tryz.f279.name, by decide, Tryz.func279.trans (congrArg some (by kernel_rfl))⟩
 f50 := ⟨Tryz.f280.name, by decide, Tryz.func280.trans (congrArg some (by kernel_rfl))⟩
 f57 := ⟨Tryz.f298.name, by decide, Tryz.func298.trans (congrArg some (by kernel_rfl))⟩
 t0 := Tryz.underlying0
 a0 := Tryz.isAgg0
 z0 := Tryz.sizeOf0
 v0 := Tryz.zeroValue0
 t3 := Tryz.underlying3
 a3 := Tryz.isAgg3
 z3 := Tryz.sizeOf3
 v3 := Tryz.zeroValue3
 t4 := Tryz.underlying4
 a4 := Tryz.isAgg4
 z4 := Tryz.sizeOf4
 v4 := Tryz.zeroValue4
 t5 := Tryz.underlying5
 a5 := Tryz.isAgg5
 z5 := Tryz.sizeOf5
 v5 := Tryz.zeroValue5
 t9 := Tryz.underlying9
 a9 := Tryz.isAgg9
 z9 := Tryz.sizeOf9
 v9 := Tryz.zeroValue9
 t22 := Tryz.underlying100
 a22 := Tryz.isAgg100
 z22 := Tryz.sizeOf100
 v22 := Tryz.zeroValue100
 a24 := Tryz.isAgg50
 z24 := Tryz.sizeOf50
 t25 := Tryz.underlying237
 a25 := Tryz.isAgg237
 z25 := Tryz.sizeOf237
 v25 := Tryz.zeroValue237
 t39 := Tryz.underlying138
 a39 := Tryz.isAgg138
 z39 := Tryz.sizeOf138
 v39 := Tryz.zeroValue138
 t45 := Tryz.underlying193
 a45 := Tryz.isAgg193
 z45 := Tryz.sizeOf193
 v45 := Tryz.zeroValue193
 t46 := Tryz.underlying194
 a46 := Tryz.isAgg194
 z46 := Tryz.sizeOf194
 v46 := Tryz.zeroValue194
 t50 := Tryz.underlying133
 a50 := Tryz.isAgg133
 z50 := Tryz.sizeOf133
 v50 := Tryz.zeroValue133
 t53 := Tryz.underlying201
 a53 := Tryz.isAgg201
 z53 := Tryz.sizeOf201
 v53 := Tryz.zeroValue201
 t55 := Tryz.underlying203
 a55 := Tryz.isAgg203
 z55 := Tryz.sizeOf203
 v55 := Tryz.zeroValue203
 t66 := Tryz.underlying246
 a66 := Tryz.isAgg246
 z66 := Tryz.sizeOf246
 v66 := Tryz.zeroValue246
 t70 := Tryz.underlying250
 a70 := Tryz.isAgg250
 z70 := Tryz.sizeOf250
 v70 := Tryz.zeroValue250
 t76 := Tryz.underlying275
 a76 := Tryz.isAgg275
 z76 := Tryz.sizeOf275
 v76 := Tryz.zeroValue275
 t77 := Tryz.underlying276
 a77 := Tryz.isAgg276
 z77 := Tryz.sizeOf276
 v77 := Tryz.zeroValue276 }
end Go.Proofs
namespace Go.Proofs.YtookcfeogbeooaaGreatDoor
open Go Go.Proofs Go.Sort Go.RowKit Go.Shelf
def CmpLaysV (P : Program) (g : Nat) (cb : Array Value) {α : Type} [Inhabited α] (enc : α → LV) (cf : α → α → Int) (blk off size : Nat) (w : World) : Prop :=
 ∀ (m : Nat) (os : Array Obj) (dk : Array α), dk.size = size → ∀ x y : α,
  Calls P g (#[(enc x).headD undef, (enc y).headD undef] ++ cb) (sortWorldK enc 1 w blk off m dk os) fun e w' => e = .returned (.int .i64 (cf x y)) ∧ ∃ q os', w' = grow ((sortWorldK enc 1 w blk off m dk os).drewN q) os'
def SortLaw1 (f : Nat) : Prop := ∀ (α : Type) [Inhabited α] (enc : α → LV) (_ : ∀ x, (enc x).length = 1) (_ : ∀ x, ∀ v ∈ enc x, v.oneCell' = true) (cf : α → α → Int) (_ : SWO (ltOf cf)) (g : Nat) (cb : Array Value) (blk cap : Nat) (d : Array α) (w : World),
 (∀ args w, (callFunc g args).run PP w = .ok (.enter g args) w) → CmpLaysV PP g cb enc cf blk 0 d.size w → HoldsK enc 1 w blk 0 d → blk < w.heap.size → d.size < 4611686018427387904 →
 Calls PP f #[.slice (some ⟨blk, 0, none⟩) d.size cap, .func (.func g) #[] cb] w fun e w' => e = .returned (.tuple #[]) ∧ ∃ d' n os, PermIn 0 d.size d d' ∧ SortedIn (ltOf cf) 0 d.size d' ∧ w' = sortWorldK enc 1 w blk 0 n d' os
theorem flat1 {α : Type} [Inhabited α] (enc : α → LV) (henc : ∀ x, (enc x).length = 1) (d : Array α) : flatK enc 1 d = d.map fun x => (enc x).headD undef := by
 apply Array.ext
 ·simp [flatK]
 ·intro t h1 h2
  have ht : t < d.size := by simpa using h2
  have h3 := henc d[t]
  simp only [flatK, Array.getElem_map, Array.getElem_range, Nat.div_one, Nat.mod_one]
  rw [getElem!_pos d t ht]
  match hz : enc d[t], h3 with
  | [v], _ => rfl
theorem putRow1 {α : Type} [Inhabited α] (e : α → Value) (w : World) (blk off : Nat) (d : Array α) : putRow e w blk off d = putRow id w blk off (d.map e) := by
 have : putCells e off d = putCells id off (d.map e) := by
  funext c
  unfold putCells
  apply Array.ext
  ·simp
  ·intro i h1 h2
   simp only [Array.getElem_mapIdx, Array.size_map]
   split
   ·rename_i h
    have h4 : i - off < d.size := by omega
    rw [getElem!_pos d _ h4, getElem!_pos (d.map e) _ (by simpa using h4)]
    simp
   ·rfl
 unfold putRow
 rw [this]
theorem law160 : SortLaw1 160 := fun α _ e0 hk h1 cf hO g cb blk cap d w eg hc hH hb hs => by
 have e1 : ∀ (m : Nat) (dk : Array α) (os : Array Obj), sortWorld (fun x => (e0 x).headD undef) w blk 0 m dk os = sortWorldK e0 1 w blk 0 m dk os := fun m dk os => by
  unfold sortWorld sortWorldK putRowK
  rw [putRow1, flat1 e0 hk]
 have h5 : OneCell fun x => (e0 x).headD undef := fun x => by
  have h2 := h1 x
  have h3 := hk x
  match hz : e0 x, h3 with
  | [v], _ => (show ((e0 x).headD undef).oneCell' = true; rw [hz]; exact h2 v (by rw [hz]; simp))
 have h6 : Holds (fun x => (e0 x).headD undef) w blk 0 d := by
  intro j hj
  unfold HoldsK at hH
  rw [flat1 e0 hk] at hH
  have := hH j (by simpa using hj)
  rw [getElem!_pos (d.map _) j (by simpa using hj)] at this
  rw [getElem!_pos d j hj]
  simpa using this
 have := Any.slices_SortFunc Tryz.sf160 (fun x => (e0 x).headD undef) h5 cf hO g cb blk 0 cap d w eg (fun m os dk h7 x y => by rw [e1]; exact hc m os dk h7 x y) h6 hb hs
 refine this.mono fun e w' h => ?_
 obtain ⟨h1, d', n, os, h2, h3, h4⟩ := h
 exact ⟨h1, d', n, os, h2, h3, by rw [h4, e1]⟩
section
variable {H : Ghost} {X : Type} {r : Rep X}
theorem sortCt1 {e m c : Nat} {B : OA} {caps : LV} (law : SortLaw1 f) (hrk : r.1 = 1) (hr : Reps r H xs cs) (hne : xs ≠ []) (hm : m < 4611686018427387904) (cf : X → X → Int) (hO : ∀ x ∈ xs, ∀ y ∈ xs, ∀ z ∈ xs, ¬ cf x x < 0 ∧ (cf x y < 0 → cf y z < 0 → cf x z < 0) ∧ (¬ cf x y < 0 → ¬ cf y z < 0 → ¬ cf x z < 0)) (eg : ∀ (args : Array Value) (w : World), (callFunc g args).run PP w = .ok (.enter g args) w) (hcmp : ∀ x ∈ xs, ∀ y ∈ xs, ∀ cx cy, r.rel H x [cx] → r.rel H y [cy] → CtD PP g ([cx, cy] ++ caps : LV).toArray H [] fun v H' O' => O' = [] ∧ v = .int .i64 (cf x y)) :
  Ct PP f #[.slice B m c, .func (.func g) #[] caps.toArray] H [.row e 1 (.slice B m c) m cs] fun v H' O' => ∃ ys cs', O' = [.row e 1 (.slice B m c) m cs'] ∧ Reps r H ys cs' ∧ ys.Perm xs ∧ ys.Pairwise fun x y => ¬ cf y x < 0 := by
 intro w hs
 have h8 : w.ownsRow 0 e 1 (.slice B m c) m cs := hs.own (.row e 1 (.slice B m c) m cs) (by simp)
 have d5 : 0 < 1 := Nat.one_pos
 have hlen : xs.length = m := by
  have h1 := h8.1
  have h2 := hr.len
  rw [hrk, h1] at h2
  exact (Nat.eq_of_mul_eq_mul_right d5 h2).symm
 have hm0 : 0 < m := by rw [← hlen]; exact List.length_pos_iff.2 hne
 rcases h8.2 with ⟨h1, h2⟩ | ⟨b, cap, cur, hv, hg, hh, hn, hc, hsz, htake⟩
 ·omega
 injection hv with h1 h2 h3
 subst h1 h3
 obtain ⟨ps, d1, d4⟩ := els_of hr (xs := xs) fun y hy => hy
 have e1 : ps ≠ [] := by rintro rfl; exact hne d1.symm
 obtain ⟨p0, e5⟩ := List.exists_mem_of_ne_nil ps e1
 letI : Inhabited (El r H xs) := ⟨p0⟩
 let e0 : El r H xs → LV := fun p => p.1.2
 let c0 : El r H xs → El r H xs → Int := fun p q => cf p.1.1 q.1.1
 have h5 : ∀ x, (e0 x).length = 1 := fun x => by rw [← hrk]; exact r.len x.2.2
 have h4 : ∀ qs : List (El r H xs), flatK e0 1 qs.toArray = (qs.flatMap e0).toArray := flatK_eq e0 1 h5 d5
 have d3 : ∀ qs : List (El r H xs), (qs.flatMap e0).length = qs.length * 1 := fun qs => by
  induction qs with
  | nil => simp
  | cons q qs ih => rw [List.flatMap_cons, List.length_append, ih, h5, List.length_cons, Nat.add_mul]; omega
 have b7 : ps.length = m := by have := congrArg List.length d1; rw [List.length_map, hlen] at this; exact this
 have d6 : SWO (ltOf c0) := by
  refine ⟨fun x => ?_, fun x y z => ?_, fun x y z => ?_⟩
  ·have := (hO _ x.2.1 _ x.2.1 _ x.2.1).1
   simp [ltOf, c0]; omega
  ·have := (hO _ x.2.1 _ y.2.1 _ z.2.1).2.1
   simp only [ltOf, c0, decide_eq_true_eq]; exact this
  ·have := (hO _ x.2.1 _ y.2.1 _ z.2.1).2.2
   simp only [ltOf, c0, decide_eq_false_iff_not]; exact this
 have hH : HoldsK e0 1 w b 0 ps.toArray := by
  unfold HoldsK
  rw [h4]
  intro j hj
  have e4 : j < cs.length := by rw [← d4]; simpa using hj
  refine ⟨?_, by simp [World.frozen?, hh]⟩
  have := h8.cells (g := b) rfl j cs[j] (by simp [e4])
  rw [addr_add] at this
  rw [this, getElem!_pos _ j hj]
  simp only [id, List.getElem_toArray]
  congr 1
  exact List.getElem_of_eq d4.symm _
 have d7 : CmpLaysV PP g caps.toArray e0 c0 b 0 ps.toArray.size w := by
  intro m' os dk e3 x y
  have b6 : dk.toList.length = m := by simpa [b7] using e3
  have b8 := Step.sortedK (n := m') (os := os) (d := flatK e0 1 dk) hs (by
   have := h4 dk.toList
   rw [Array.toArray_toList] at this
   rw [this]
   have h2 := d3 dk.toList
   rw [b6] at h2
   rw [List.size_toArray, h2])
  have c1 : St H [] (sortWorldK e0 1 w b 0 m' dk os) := b8.st.sub (List.nil_sublist _)
  have h9 : ∀ z : El r H xs, z.1.2 = [(e0 z).headD undef] := fun z => by
   have h2 : z.1.2.length = 1 := h5 z
   show z.1.2 = [z.1.2.headD undef]
   match hz : z.1.2, h2 with
   | [v], _ => rfl
  have d2 := hcmp _ x.2.1 _ y.2.1 _ _ (by have := x.2.2; rw [h9 x] at this; exact this) (by have := y.2.2; rw [h9 y] at this; exact this) _ c1
  have ea : ([(e0 x).headD undef, (e0 y).headD undef] ++ caps : LV).toArray = #[(e0 x).headD undef, (e0 y).headD undef] ++ caps.toArray := by simp
  rw [ea] at d2
  refine d2.mono ?_
  rintro e2 w' ⟨v, H', O', rfl, ⟨rfl, rfl⟩, d0⟩
  exact ⟨rfl, grow_of_step d0⟩
 have b5 := law (El r H xs) e0 h5 (fun x => r.one x.2.2) c0 d6 g caps.toArray b c ps.toArray w eg d7 hH (Array.getElem?_eq_some_iff.1 hh).1 (by simpa [b7] using hm)
 have h7 : ps.toArray.size = m := by simpa using b7
 rw [h7] at b5
 refine b5.mono ?_
 rintro e2 w' ⟨rfl, d', n, os, h6, b4, rfl⟩
 have d9 : d'.size = m := by rw [h6.1, h7]
 have b6 : d'.toList.length = m := by simpa using d9
 have b9 := h4 d'.toList
 rw [Array.toArray_toList] at b9
 have b8 := Step.sortedK (n := n) (os := os) (d := flatK e0 1 d') hs (by rw [b9, List.size_toArray, d3 d'.toList, b6])
 refine ⟨_, H, _, rfl, ⟨d'.toList.map fun p => p.1.1, (flatK e0 1 d').toList, rfl, ?_, ?_, ?_⟩, b8.any⟩
 ·rw [b9]
  exact reps_els d'.toList
 ·have h := h6.2.2
  have h2 : (d'.extract 0 m).toList = d'.toList := by simp; exact List.take_of_length_le oM
  have h3 : (ps.toArray.extract 0 m).toList = ps := by simp; exact List.take_of_length_le oM
  rw [h2, h3] at h
  have := h.map fun p => p.1.1
  rwa [d1] at this
 ·rw [List.pairwise_map, List.pairwise_iff_getElem]
  intro i j hi hj d8
  have := b4 i j (Nat.zero_le _) d8 (by rw [← b6]; exact hj)
  rw [getElem!_pos d' j (by simpa using hj), getElem!_pos d' i (by simpa using hi)] at this
  simp only [ltOf, c0, decide_eq_false_iff_not] at this
  simpa using this
end
theorem sortAll1 {X : Type} {r : Rep X} {e g m c : Nat} {B : OA} {caps : LV} {xs : List X} (law : SortLaw1 f) (z : ∀ {B : OA} {c g : Nat} {caps : LV}, Ct PP f #[.slice B 0 c, .func (.func g) #[] caps.toArray] H [] fun v H' O' => O' = [] ∧ v = .tuple #[]) (hrk : r.k = 1) (hr : Reps r H xs cs) (hm : m < 4611686018427387904) (cf : X → X → Int) (hO : ∀ x ∈ xs, ∀ y ∈ xs, ∀ z ∈ xs, ¬ cf x x < 0 ∧ (cf x y < 0 → cf y z < 0 → cf x z < 0) ∧ (¬ cf x y < 0 → ¬ cf y z < 0 → ¬ cf x z < 0)) (eg : ∀ (args : Array Value) (w : World), (callFunc g args).run PP w = .ok (.enter g args) w) (hcmp : ∀ x ∈ xs, ∀ y ∈ xs, ∀ cx cy, r.rel H x [cx] → r.rel H y [cy] → CtD PP g ([cx, cy] ++ caps : LV).toArray H [] fun v H' O' => O' = [] ∧ v = .int .i64 (cf x y)) :
  Ct PP f #[.slice B m c, .func (.func g) #[] caps.toArray] H [.row e 1 (.slice B m c) m cs] fun v H' O' => ∃ ys cs', O' = [.row e 1 (.slice B m c) m cs'] ∧ Reps r H ys cs' ∧ ys.Perm xs ∧ ys.Pairwise fun x y => ¬ cf y x < 0 := by
 by_cases hne : xs = []
 ·subst hne
  intro w hs
  have h4 : w.ownsRow 0 e 1 (.slice B m c) m cs := hs.own (.row e 1 (.slice B m c) m cs) (by simp)
  have h6 : cs = [] := hr.inj_nil
  have hm0 : m = 0 := by
   have := h4.1
   rw [h6, List.length_nil] at this
   omega
  subst hm0
  refine ((z (B := B) (c := c) (g := g) (caps := caps)).pure w hs).mono ?_
  rintro e2 w' ⟨v, H', O', rfl, ⟨O1, rfl, rfl, rfl⟩, h5⟩
  exact ⟨_, H, _, rfl, ⟨[], cs, rfl, hr, .refl _, .nil⟩, h5.down (Ghost.le.refl _) h5.le⟩
 ·exact sortCt1 law hrk hr hne hm cf hO eg hcmp
end Go.Proofs.YtookcfeogbeooaaGreatDoor

namespace Go.Proofs.YtookcfeogbeooaaGreatDoor
open Go Go.Proofs
section
open Go.Proofs.Tryz
attribute [local irreducible] TK Yl OpK AnyT wpList Code.wp
theorem c159 (hT : Sl (rSl rBool) H T C k m) (hsq : ∀ r ∈ T, r.length = k) (hq : HC H z 0 [.slice C k m]) {x y : Nat} (hx : x < k) (hy : y < k) : Ct PP 159 #[.int .i64 (x : Int), .int .i64 (y : Int), .pointer (ad z)] H [] fun v H' O' => O' = [] ∧ v = .bool (decide (at2 T x y = at2 T y x)) := by
 refine cB func159 ntmps159 fun I hD hI e8 => ?_
 refine g5b ?_
 intros
 refine tss (List.nil_sublist _) 16 fun e2 => ?_
 refine tj 0 ?_
 refine g1 ?_
 obtain ⟨x5, h9⟩ := eX hT x
 obtain ⟨b6, o7, d5, e6, b5, e5⟩ := hT.at_ h9
 obtain ⟨A0, n1, c14, rfl, h4⟩ := b5
 have b8 := hsq _ (mG h9)
 have b7 := h4.len
 refine g3 ?_
 obtain ⟨e1, h8⟩ := eX h4 y
 obtain ⟨e3, o5, d7, c1⟩ := h4.atB h8
 have d2 := at2_of h9 h8
 refine g4 ?_
 obtain ⟨e7, h6⟩ := eX hT y
 obtain ⟨e0, o6, d4, d0, b4, d8⟩ := hT.at_ h6
 obtain ⟨A1, n0, c35, rfl, h5⟩ := b4
 have b9 := hsq _ (mG h6)
 have c0 := h5.len
 refine g3 ?_
 obtain ⟨e4, h7⟩ := eX h5 x
 obtain ⟨d9, o4, d3, d1⟩ := h5.atB h7
 have d6 := at2_of h6 h7
 refine g2 ?_
 refine tk 14 rfl kR aS nP kS (yEqlB uC rfl rfl) rfl rfl rfl ?_
 refine g3 ?_
 refine rT results159 ?_
 exact ⟨rfl, congrArg Value.bool (by simp [*])⟩
theorem headD_of {xs : LI} (h : xs[0]? = some x) : xs.headD 0 = x := by
 cases xs with
 | nil => simp at h
 | cons a l => simp at h; subst h; rfl
def cmpR (T : List (List Bool)) (xs ys : LI) : Int := if xs.headD 0 = ys.headD 0 then 0 else if at2 T (xs.headD 0).toNat (ys.headD 0).toNat = true then -1 else 1
def cmpH (xs ys : LI) : Int := xs.headD 0 - ys.headD 0
theorem c161 (hT : Sl (rSl rBool) H T C k m) (hsq : ∀ r ∈ T, r.length = k) (hq : HC H z 0 [.slice C k m]) (hX : Sl rInt H xs X n1 c1) (hY : Sl rInt H ys Y n2 c2) (h1 : 0 < n1) (h2 : 0 < n2) (hbx : 0 ≤ xs.headD 0 ∧ xs.headD 0 < k) (hby : 0 ≤ ys.headD 0 ∧ ys.headD 0 < k) : CtD PP 161 #[.slice X n1 c1, .slice Y n2 c2, .pointer (ad z)] H [] fun v H' O' => O' = [] ∧ v = .int .i64 (cmpR T xs ys) := by
 refine cB func161 ntmps161 fun I hD hI e8 => ?_
 refine g5b ?_
 intros
 refine g1a ?_
 intros
 refine tss (List.nil_sublist _) 7 fun _ => ?_
 refine tj 0 ?_
 obtain ⟨x6, d0⟩ := eX hX 0
 obtain ⟨b7, o8, e4, d8⟩ := hX.atI d0
 have b5 : xs.headD 0 = x6 := headD_of d0
 have h6 := hbx; rw [b5] at h6
 refine g3 ?_
 obtain ⟨b9, h7⟩ := eX hY 0
 obtain ⟨e6, o5, d6, d2⟩ := hY.atI h7
 have b6 : ys.headD 0 = b9 := headD_of h7
 have h9 := hby; rw [b6] at h9
 refine g5 ?_
 refine cD ?_ ?_ <;> intro e1
 refine g4a ?_
 intros
 refine rT results161 ?_
 exact ⟨rfl, congrArg (Value.int .i64) (by unfold cmpR; simp_all)⟩
 refine g3b ?_
 intros
 refine tss (List.nil_sublist _) 11 fun _ => ?_
 refine tj 0 ?_
 refine g3 ?_
 obtain ⟨e5, h5⟩ := Sl.ex hT (i := (x6 : Int).toNat) oM
 obtain ⟨e7, o4, d7, d9, b4, d1⟩ := hT.at_ h5
 obtain ⟨A0, n0, c34, rfl, h4⟩ := b4
 have b8 := hsq _ (mG h5)
 have c0 := h4.len
 refine g5 ?_
 obtain ⟨e3, h8⟩ := Sl.ex h4 (i := (b9 : Int).toNat) oM
 obtain ⟨e2, o6, d4, d3⟩ := h4.atB h8
 have d5 := at2_of h5 h8
 refine g4 ?_
 refine cN ?_ ?_ <;> intro e0
 refine g4a ?_
 intros
 refine rT results161 ?_
 exact ⟨rfl, congrArg (Value.int .i64) (by unfold cmpR; simp_all)⟩
 refine g5a ?_
 intros
 refine rT results161 ?_
 exact ⟨rfl, congrArg (Value.int .i64) (by unfold cmpR; simp_all)⟩
theorem c165 (hX : Sl rInt H xs X n1 c1) (hY : Sl rInt H ys Y n2 c2) (h1 : 0 < n1) (h2 : 0 < n2) (hbx : 0 ≤ xs.headD 0 ∧ xs.headD 0 ≤ 1000000) (hby : 0 ≤ ys.headD 0 ∧ ys.headD 0 ≤ 1000000) : CtD PP 165 #[.slice X n1 c1, .slice Y n2 c2] H [] fun v H' O' => O' = [] ∧ v = .int .i64 (cmpH xs ys) := by
 refine cB func165 ntmps165 fun I hD hI d1 => ?_
 refine g5b ?_
 intros
 refine tss (List.nil_sublist _) 8 fun b9 => ?_
 refine tj 0 ?_
 obtain ⟨x5, h9⟩ := eX hX 0
 obtain ⟨b6, o7, d0, c0⟩ := hX.atI h9
 have h8 : xs.headD 0 = x5 := headD_of h9
 have h4 := hbx; rw [h8] at h4
 refine g3 ?_
 obtain ⟨b7, h5⟩ := eX hY 0
 obtain ⟨b8, o4, b5, b4⟩ := hY.atI h5
 have h7 : ys.headD 0 = b7 := headD_of h5
 have h6 := hby; rw [h7] at h6
 refine g6 ?_
 refine rT results165 ?_
 exact ⟨rfl, congrArg (Value.int .i64) (by unfold cmpH; rw [h8, h7])⟩
theorem c162 (hR : RelAt H b A B S F c d e f k names M st en) {x y : Nat} (hq : HC H z 0 [.pointer (ad b)]) (hx : x < k) (hy : y < k) : Ct PP 162 #[.int .i64 (x : Int), .int .i64 (y : Int), .pointer (ad z)] H [] fun v H' O' => O' = [] ∧ v = .bool (!decide ((x : Int) = (y : Int)) && !(at2 M x y && at2 M y x)) := by
 have f8 := hR.cells
 have e5 := hR.names
 have h9 := hR.edge
 have c1 := hR.square
 have e3 := hR.start
 have e7 := hR.fin
 refine cB func162 ntmps162 fun I hD hI i5 => ?_
 refine g10b ?_
 intros
 refine sB 9 ?_ ?_ <;> intro e4
 refine g5 ?_
 obtain ⟨x5, b4⟩ := eX h9 x
 obtain ⟨b6, o7, d6, i4, b7, f9⟩ := h9.at_ b4
 obtain ⟨A0, n1, c14, rfl, h4⟩ := b7
 have b8 := c1 _ (mG b4)
 have b9 := h4.len
 refine g3 ?_
 obtain ⟨e6, h8⟩ := eX h4 y
 obtain ⟨e9, o5, d8, d2⟩ := h4.atB h8
 have d4 := at2_of b4 h8
 refine g3 ?_
 refine sB 20 ?_ ?_ <;> intro d9
 refine g5 ?_
 obtain ⟨i7, h5⟩ := eX h9 y
 obtain ⟨i6, o6, e1, e0, b5, d3⟩ := h9.at_ h5
 obtain ⟨A1, n0, c36, rfl, h6⟩ := b5
 have d0 := c1 _ (mG h5)
 have c0 := h6.len
 refine g3 ?_
 obtain ⟨e2, h7⟩ := eX h6 x
 obtain ⟨e8, o4, d1, d7⟩ := h6.atB h7
 have d5 := at2_of h5 h7
 refine g7 ?_
 refine rT results162 ?_
 exact ⟨rfl, congrArg Value.bool (by simp_all)⟩
 refine g15 ?_
 refine rT results162 ?_
 exact ⟨rfl, congrArg Value.bool (by simp_all)⟩
 refine g18 ?_
 refine g8 ?_
 refine rT results162 ?_
 exact ⟨rfl, congrArg Value.bool (by simp_all)⟩
theorem bget_of {P : List Bool} {p : Int} (h : P[p.toNat]? = some v) : bget P p = v := by unfold bget; rw [List.getD_eq_getElem?_getD, h]; rfl
theorem c199 (hS : Sl rBool H st S k e) (hq : HC H z 0 [.slice S k e]) {i : Int} (h0 : 0 ≤ i) (h1 : i < k) : Ct PP 199 #[.int .i64 i, .pointer (ad z)] H [] fun v H' O' => O' = [] ∧ v = .bool (bget st i) := by
 refine cB func199 ntmps199 fun I hD hI h6 => ?_
 refine g8b ?_
 intros
 obtain ⟨x4, h4⟩ := Sl.ex hS (i := (i : Int).toNat) oM
 obtain ⟨b5, o6, h7, h5⟩ := hS.atB h4
 refine g4 ?_
 refine rT results199 ?_
 exact ⟨rfl, congrArg Value.bool (bget_of h4).symm⟩
theorem c164 {l : LI} (hl : Sl rInt H l L n c) (hS : Sl rBool H st S k e) (hin : ∀ x ∈ l, 0 ≤ x ∧ x < (k : Int)) : Ct PP 164 #[.slice L n c, .slice S k e] H [] fun v H' O' => O' = [] ∧ v = .bool (l.any (bget st)) := by
 refine cB func164 ntmps164 fun I hD hI h6 => ?_
 refine g2a ?_
 intros
 refine bX [.slice S k e] fun b2 => ?_
 refine g4a ?_
 intros
 refine tSeal (i := 0) rfl fun H4 h4 h5 => ?_
 have ⟨hl, hS⟩ := mo2 h4 hl hS
 refine g2 ?_
 refine sq rfl (fS hD rfl call77 rfl (c77 (p := bget st) (caps := [.pointer (ad b2)]) hl (by have := hl.2.2.1; omega) call199 (fun x hx => c199 hS h5 (hin x hx).1 (hin x hx).2)) ?_)
 rintro v7 rfl
 refine g2 ?_
 refine rT results164 ?_
 exact ⟨rfl, rfl⟩
theorem c163 (hR : RelAt H b A B S F c d e f k names M st en) {l : LI} (hl : Sl rInt H l L n g) (hin : ∀ x ∈ l, 0 ≤ x ∧ x < (k : Int)) (hq : HC H z 0 [.pointer (ad b)]) : Ct PP 163 #[.slice L n g, .pointer (ad z)] H [] fun v H' O' => O' = [] ∧ v = .bool (l.any (bget st) && l.any (bget en)) := by
 have b4 := hR.cells
 have h9 := hR.names
 have h8 := hR.edge
 have h7 := hR.square
 have h5 := hR.start
 have h4 := hR.fin
 refine cB func163 ntmps163 fun I hD hI h6 => ?_
 refine g11b ?_
 intros
 refine sq rfl (fS hD rfl call164 rfl (c164 hl h5 hin) ?_)
 rintro v3 rfl
 refine g1 ?_
 refine sB 10 ?_ ?_ <;> intro b5
 refine g5 ?_
 refine sqY rfl rfl rfl rfl (fS hD rfl call164 rfl (c164 hl h4 hin) ?_)
 rintro v5 rfl
 refine g3 ?_
 refine rT results163 ?_
 exact ⟨rfl, congrArg Value.bool (by simp_all)⟩
 refine g9 ?_
 refine rT results163 ?_
 exact ⟨rfl, congrArg Value.bool (by simp_all)⟩
end
section
def goodCut (names : LB) (C : Cut) : Prop := 1 ≤ C.kind ∧ C.kind ≤ 4 ∧ ∀ p ∈ C.parts, ∀ s ∈ p, s ∈ names
def CutR (names : LB) (H : Ghost) (cs : LV) (e : Int) : Prop := (∃ q P n p, cs = [.int .i64 q, .slice P n p]) ∧ (e ≠ 0 ∨ e = 0 ∧ ∃ C, rCut.rel H C cs ∧ goodCut names C)
theorem CutR.mono {names : LB} {H : Ghost} {e : Int} (h : CutR names H cs e) (hle : Ghost.le H H') : CutR names H' cs e :=
 ⟨h.1, h.2.imp id fun ⟨h0, C, hC, hg⟩ => ⟨h0, C, rCut.mono hle hC, hg⟩⟩
theorem CutR.zero {names : LB} {H : Ghost} {cs : LV} {e : Int} (hl : ∃ q P n p, cs = [.int .i64 q, .slice P n p]) (h : e ≠ 0) : CutR names H cs e := ⟨hl, .inl h⟩
def BegR (H : Ghost) (p : OA) (e : Int) (k : Nat) (names : LB) : Prop := (e = 1 ∧ p = none) ∨ (e = 0 ∧ ∃ b A B S F c d e' f M st en, p = some ⟨b, 0, none⟩ ∧ RelAt H b A B S F c d e' f k names M st en)
theorem upTo_mem {x : Int} : x ∈ upTo k ↔ 0 ≤ x ∧ x < (k : Int) := by
 unfold upTo
 rw [List.mem_map]
 constructor
 ·rintro ⟨j, hj, rfl⟩; have := List.mem_range.1 hj; omega
 ·rintro ⟨h0, h1⟩; exact ⟨x.toNat, List.mem_range.2 oM, by omega⟩
section
variable {H : Ghost} {b : Nat} {A B S F : OA} {c d e f k : Nat} {names : LB} {M : List (List Bool)} {st en : List Bool} {z : Nat}
theorem cl157 (hR : RelAt H b A B S F c d e f k names M st en) (hq : HC H z 0 [.pointer (some ⟨b, 0, none⟩)]) {l : LI} (hl : ∀ x ∈ l, 0 ≤ x ∧ x < (k : Int)) : ∀ x y, x ∈ l → y ∈ l → ∀ H', Ghost.le H H' →
  Ct PP 157 ([.int .i64 x, .int .i64 y] ++ [.pointer (some ⟨z, 0, none⟩)] : LV).toArray H' [] fun v H' O' => O' = [] ∧ v = .bool (at2 M x.toNat y.toNat) := by
 intro x y hx hy H' hle
 have h1 := hl x hx
 have h2 := hl y hy
 have h := c157 (x := x.toNat) (y := y.toNat) (hR.mono hle) (hq.mono hle) oM oM
 rw [show ((x.toNat : Nat) : Int) = x by omega, show ((y.toNat : Nat) : Int) = y by omega] at h
 refine h.mono fun v H1 O1 _ hh => ?_
 obtain ⟨h3, r, row, h4, h5, h6⟩ := hh
 exact ⟨h3, by rw [h6, at2_of h4 h5]⟩
theorem cl166 (hR : RelAt H b A B S F c d e f k names M st en) (hq : HC H z 0 [.pointer (some ⟨b, 0, none⟩)]) {l : LI} (hl : ∀ x ∈ l, 0 ≤ x ∧ x < (k : Int)) : ∀ x y, x ∈ l → y ∈ l → ∀ H', Ghost.le H H' →
  Ct PP 166 ([.int .i64 x, .int .i64 y] ++ [.pointer (some ⟨z, 0, none⟩)] : LV).toArray H' [] fun v H' O' => O' = [] ∧ v = .bool (at2 M x.toNat y.toNat) := by
 intro x y hx hy H' hle
 have h1 := hl x hx
 have h2 := hl y hy
 have h := c166 (x := x.toNat) (y := y.toNat) (hR.mono hle) (hq.mono hle) oM oM
 rw [show ((x.toNat : Nat) : Int) = x by omega, show ((y.toNat : Nat) : Int) = y by omega] at h
 refine h.mono fun v H1 O1 _ hh => ?_
 obtain ⟨h3, r, row, h4, h5, h6⟩ := hh
 exact ⟨h3, by rw [h6, at2_of h4 h5]⟩
theorem cl162 (hR : RelAt H b A B S F c d e f k names M st en) (hq : HC H z 0 [.pointer (some ⟨b, 0, none⟩)]) {l : LI} (hl : ∀ x ∈ l, 0 ≤ x ∧ x < (k : Int)) : ∀ x y, x ∈ l → y ∈ l → ∀ H', Ghost.le H H' →
  Ct PP 162 ([.int .i64 x, .int .i64 y] ++ [.pointer (some ⟨z, 0, none⟩)] : LV).toArray H' [] fun v H' O' => O' = [] ∧ v = .bool (!decide (x = y) && !(at2 M x.toNat y.toNat && at2 M y.toNat x.toNat)) := by
 intro x y hx hy H' hle
 have h1 := hl x hx
 have h2 := hl y hy
 have h := c162 (x := x.toNat) (y := y.toNat) (hR.mono hle) (hq.mono hle) oM oM
 rw [show ((x.toNat : Nat) : Int) = x by omega, show ((y.toNat : Nat) : Int) = y by omega] at h
 exact h
theorem cl159 (hT : Sl (rSl rBool) H T C k m) (hsq : ∀ r ∈ T, r.length = k) (hq : HC H z 0 [.slice C k m]) {l : LI} (hl : ∀ x ∈ l, 0 ≤ x ∧ x < (k : Int)) : ∀ x y, x ∈ l → y ∈ l → ∀ H', Ghost.le H H' →
  Ct PP 159 ([.int .i64 x, .int .i64 y] ++ [.pointer (some ⟨z, 0, none⟩)] : LV).toArray H' [] fun v H' O' => O' = [] ∧ v = .bool (decide (at2 T x.toNat y.toNat = at2 T y.toNat x.toNat)) := by
 intro x y hx hy H' hle
 have h1 := hl x hx
 have h2 := hl y hy
 have h := c159 (x := x.toNat) (y := y.toNat) (hT.mono hle) hsq (hq.mono hle) oM oM
 rw [show ((x.toNat : Nat) : Int) = x by omega, show ((y.toNat : Nat) : Int) = y by omega] at h
 exact h
theorem headD_mem {xs : LI} (h : xs ≠ []) : xs.headD 0 ∈ xs := by
 cases xs with
 | nil => exact absurd rfl h
 | cons a l => simp
theorem cmpR_ok (ht : TrU T k) (hc : ClsR (fun a b => decide (at2 T a.toNat b.toNat = at2 T b.toNat a.toNat)) (upTo k) out) : ∀ x ∈ out, ∀ y ∈ out, ∀ z ∈ out,
  ¬ cmpR T x x < 0 ∧ (cmpR T x y < 0 → cmpR T y z < 0 → cmpR T x z < 0) ∧ (¬ cmpR T x y < 0 → ¬ cmpR T y z < 0 → ¬ cmpR T x z < 0) := by
 have b4 : ∀ x ∈ out, 0 ≤ x.headD 0 ∧ x.headD 0 < (k : Int) := fun x hx => upTo_mem.1 (hc.mem x hx _ (headD_mem (hc.ne x hx)))
 have h7 : ∀ x ∈ out, ∀ y ∈ out, x.headD 0 ≠ y.headD 0 → at2 T (x.headD 0).toNat (y.headD 0).toNat ≠ at2 T (y.headD 0).toNat (x.headD 0).toNat := by
  intro x hx y hy b7
  have b6 : x ≠ y := fun e => b7 (by rw [e])
  obtain ⟨i, hi⟩ := List.getElem?_of_mem hx
  obtain ⟨j, hj⟩ := List.getElem?_of_mem hy
  have hp := List.pairwise_iff_getElem.1 hc.sep
  have b8 := (gE hi)
  have b9 := (gE hj)
  have c0 : i ≠ j := fun e => b6 (by subst e; rw [hi] at hj; exact Option.some.inj hj)
  obtain ⟨h9, rfl⟩ := b8
  obtain ⟨h8, rfl⟩ := b9
  rcases Nat.lt_or_ge i j with h | h
  ·have := (hp i j h9 h8 h _ (headD_mem (hc.ne _ hx)) _ (headD_mem (hc.ne _ hy))).1
   simpa using this
  ·have := (hp j i h8 h9 oM _ (headD_mem (hc.ne _ hy)) _ (headD_mem (hc.ne _ hx))).1
   simp only [decide_eq_false_iff_not] at this
   exact fun e => this e.symm
 have h6 : ∀ x ∈ out, ∀ y ∈ out, cmpR T x y < 0 ↔ x.headD 0 ≠ y.headD 0 ∧ at2 T (x.headD 0).toNat (y.headD 0).toNat = true := fun x _ y _ => by
  unfold cmpR
  generalize x.headD 0 = p
  generalize y.headD 0 = r
  by_cases h1 : p = r
  ·rw [if_pos h1]; simp [h1]
  ·rw [if_neg h1]
   by_cases h2 : at2 T p.toNat r.toNat = true
   ·rw [if_pos h2]; simp [h1, h2]
   ·rw [if_neg h2]; simp [h2]
 have b5 : ∀ x ∈ out, ∀ y ∈ out, ∀ z ∈ out, at2 T (x.headD 0).toNat (y.headD 0).toNat = true → at2 T (y.headD 0).toNat (z.headD 0).toNat = true → at2 T (x.headD 0).toNat (z.headD 0).toNat = true := fun x hx y hy z hz h1 h2 =>
  ht _ _ _ (by have := b4 y hy; omega) h1 h2
 intro x hx y hy z hz
 refine ⟨by rw [h6 x hx x hx]; simp, fun h1 h2 => ?_, fun h1 h2 h3 => ?_⟩
 ·rw [h6 x hx y hy] at h1
  rw [h6 y hy z hz] at h2
  rw [h6 x hx z hz]
  refine ⟨fun e => ?_, b5 x hx y hy z hz h1.2 h2.2⟩
  have h4 := h7 x hx y hy h1.1
  rw [← e] at h2
  exact h4 (h1.2.trans h2.2.symm)
 ·rw [h6 x hx y hy] at h1
  rw [h6 y hy z hz] at h2
  rw [h6 x hx z hz] at h3
  by_cases e1 : x.headD 0 = y.headD 0
  ·rw [e1] at h3; exact h2 h3
  ·by_cases e2 : y.headD 0 = z.headD 0
   ·rw [← e2] at h3; exact h1 h3
   ·have n1 : at2 T (x.headD 0).toNat (y.headD 0).toNat = false := Bool.eq_false_iff.2 fun hq => h1 ⟨e1, hq⟩
    have n2 : at2 T (y.headD 0).toNat (z.headD 0).toNat = false := Bool.eq_false_iff.2 fun hq => h2 ⟨e2, hq⟩
    have m1 : at2 T (y.headD 0).toNat (x.headD 0).toNat = true := by have h5 := h7 x hx y hy e1; rw [n1] at h5; exact (Bool.not_eq_false _).mp (fun e => h5 e.symm)
    have m2 := b5 y hy x hx z hz m1 h3.2
    rw [n2] at m2; cases m2
theorem cmpH_ok {out : List LI} : ∀ x ∈ out, ∀ y ∈ out, ∀ z ∈ out, ¬ cmpH x x < 0 ∧ (cmpH x y < 0 → cmpH y z < 0 → cmpH x z < 0) ∧ (¬ cmpH x y < 0 → ¬ cmpH y z < 0 → ¬ cmpH x z < 0) := by
 intro x _ y _ z _
 unfold cmpH
 omega
theorem made_good {C : List LI} {kind : Int} (hk : 1 ≤ kind ∧ kind ≤ 4) (hlen : names.length = k) (hin : ∀ cl ∈ C, ∀ i ∈ cl, 0 ≤ i ∧ i < (k : Int)) (h : Sl (rSl rStr) H (C.map fun cl => cl.map (nameAt names)) P n p) : CutR names H [.int .i64 kind, .slice P n p] 0 := by
 refine ⟨⟨_, _, _, _, rfl⟩, .inr ⟨rfl, ⟨kind, C.map fun cl => cl.map (nameAt names)⟩, ⟨_, _, _, rfl, h⟩, hk.1, hk.2, fun q hq s hs => ?_⟩⟩
 obtain ⟨cl, h4, rfl⟩ := List.mem_map.1 hq
 obtain ⟨i, hi, rfl⟩ := List.mem_map.1 hs
 have := hin cl h4 i hi
 exact nameAt_mem this.1 (by rw [hlen]; exact this.2)
end
end
end Go.Proofs.YtookcfeogbeooaaGreatDoor
