/-
The net of a tree has a run for each word of the tree. All of the net of a tree lies on ways from its source to its sink.
Conditions: those that each theorem states.
-/
import Derived.Test.YtookcfeogbeooaaGreatDoorM12
set_option linter.all false
set_option maxRecDepth 100000
set_option maxHeartbeats 8000000
set_option autoImplicit true
set_option relaxedAutoImplicit true
namespace Go.Proofs.YtookcfeogbeooaaGreatDoor
open Go Go.Proofs
abbrev Mk := Int → Int
def ind (l : LI) : Mk := fun x => if x ∈ l then 1 else 0
def addK (a b : Mk) : Mk := fun x => a x + b x
def stepF (t : Trans) (m : Mk) : Mk := fun x => m x - ind t.ins x + ind t.outs x
def labW (t : Trans) : Word := if t.label = ⟨#[]⟩ then [] else [t.label]
def OkF (R : Int → Prop) (m : Mk) : Prop := ∀ x, m x = 0 ∨ (m x = 1 ∧ R x)
inductive RunF (L : List Trans) (R : Int → Prop) : Mk → List Nat → Word → Mk → Prop
 | nil {m : Mk} : OkF R m → RunF L R m [] [] m
 | step {m m' : Mk} {i : Nat} {t : Trans} {s : List Nat} {w : Word} : L[i]? = some t → (∀ p ∈ t.ins, m p = 1) → OkF R m → RunF L R (stepF t m) s w m' → RunF L R m (i :: s) (labW t ++ w) m'
theorem RunF.ok {R : Int → Prop} {m : Mk} {w : Word} (h : RunF L R m s w m') : OkF R m := by cases h <;> assumption
theorem RunF.mono {L' : List Trans} {R R' : Int → Prop} {m : Mk} {w : Word} (h : RunF L R m s w m') (hL : L <+: L') (hR : ∀ x, R x → R' x) : RunF L' R' m s w m' := by
 induction h with
 | nil h => exact .nil fun x => (h x).imp id fun h => ⟨h.1, hR x h.2⟩
 | step h1 h2 h3 _ ih =>
  refine .step ?_ h2 (fun x => (h3 x).imp id fun h => ⟨h.1, hR x h.2⟩) ih
  obtain ⟨K, rfl⟩ := hL
  rw [List.getElem?_append_left (gE h1).1]; exact h1
theorem RunF.trans {R : Int → Prop} {a c : Mk} (h : RunF L R a s u b) (k : RunF L R b s' v c) : RunF L R a (s ++ s') (u ++ v) c := by
 induction h with
 | nil _ => exact k
 | step h1 h2 h3 _ ih => rw [List.append_assoc]; exact .step h1 h2 h3 (ih k)
theorem OkF.add {R R' : Int → Prop} {a : Mk} (ha : OkF R a) (hb : OkF R' b) (hd : ∀ x, R x → ¬ R' x) : OkF (fun x => R x ∨ R' x) (addK a b) := fun x => by
 unfold addK
 rcases ha x with h1 | h1 <;> rcases hb x with h2 | h2
 ·left; omega
 ·right; exact ⟨by omega, .inr h2.2⟩
 ·right; exact ⟨by omega, .inl h1.2⟩
 ·exact absurd h2.2 (hd x h1.2)
theorem add_step (t : Trans) (a b : Mk) : stepF t (addK a b) = addK (stepF t a) b := by funext x; simp only [stepF, addK]; omega
theorem addK_comm (a b : Mk) : addK a b = addK b a := by funext x; unfold addK; omega
theorem OkF.swap {R R' : Int → Prop} {m : Mk} (h : OkF (fun x => R x ∨ R' x) m) : OkF (fun x => R' x ∨ R x) m := fun x => (h x).imp id fun h => ⟨h.1, h.2.symm⟩
theorem RunF.frame {R R' : Int → Prop} {a : Mk} (h : RunF L R a s u a') (hb : OkF R' b) (hd : ∀ x, R x → ¬ R' x) : RunF L (fun x => R x ∨ R' x) (addK a b) s u (addK a' b) := by
 induction h with
 | nil h => exact .nil (h.add hb hd)
 | step h1 h2 h3 _ ih =>
  refine .step h1 (fun p hp => ?_) (h3.add hb hd) (by rw [add_step]; exact ih)
  have h4 := h2 p hp
  unfold addK
  rcases h3 p with h5 | h5
  ·omega
  ·rcases hb p with h6 | h6
   ·omega
   ·exact absurd h6.2 (hd p h5.2)
theorem RunF.mix {R R' : Int → Prop} (hd : ∀ x, R x → ¬ R' x) : ∀ (k : Nat) {a a' b b' : Mk} {s r : List Nat} {u v w : Word}, s.length + r.length ≤ k → RunF L R a s u a' → RunF L R' b r v b' → Shuf u v w → ∃ z, RunF L (fun x => R x ∨ R' x) (addK a b) z w (addK a' b') := by
 intro k
 induction k with
 | zero =>
  intro a a' b b' s r u v w hk h1 h2 h3
  cases h1 with
  | nil h => cases h2 with
   | nil h' => cases h3; exact ⟨[], .nil (h.add h' hd)⟩
   | step _ _ _ _ => simp at hk
  | step _ _ _ _ => simp at hk
 | succ k ih =>
  intro a a' b b' s r u v w hk h1 h2 h3
  have h8 : ∀ x, R' x → ¬ R x := fun x h h' => hd x h' h
  have left : ∀ {t : Trans} {i : Nat} {s' : List Nat} {u' w' : Word}, L[i]? = some t → (∀ p ∈ t.ins, a p = 1) → OkF R a → RunF L R (stepF t a) s' u' a' → s'.length + r.length ≤ k → Shuf u' v w' → w = labW t ++ w' → ∃ z, RunF L (fun x => R x ∨ R' x) (addK a b) z w (addK a' b') := by
   intro t i s' u' w' e1 e2 e3 e4 e5 e6 e7
   obtain ⟨z, hz⟩ := ih e5 e4 h2 e6
   subst e7
   refine ⟨i :: z, .step e1 (fun p hp => ?_) (e3.add h2.ok hd) (by rw [add_step]; exact hz)⟩
   have h4 := e2 p hp
   unfold addK
   rcases e3 p with h5 | h5
   ·omega
   ·rcases h2.ok p with h6 | h6
    ·omega
    ·exact absurd h6.2 (hd p h5.2)
  have right : ∀ {t : Trans} {i : Nat} {r' : List Nat} {v' w' : Word}, L[i]? = some t → (∀ p ∈ t.ins, b p = 1) → OkF R' b → RunF L R' (stepF t b) r' v' b' → s.length + r'.length ≤ k → Shuf u v' w' → w = labW t ++ w' → ∃ z, RunF L (fun x => R x ∨ R' x) (addK a b) z w (addK a' b') := by
   intro t i r' v' w' e1 e2 e3 e4 e5 e6 e7
   obtain ⟨z, hz⟩ := ih e5 h1 e4 e6
   subst e7
   refine ⟨i :: z, .step e1 (fun p hp => ?_) (h1.ok.add e3 hd) (by rw [addK_comm, add_step, addK_comm]; exact hz)⟩
   have h4 := e2 p hp
   unfold addK
   rcases e3 p with h5 | h5
   ·omega
   ·rcases h1.ok p with h6 | h6
    ·omega
    ·exact absurd h5.2 (hd p h6.2)
  cases h1 with
  | nil h =>
   have e := h3.eq_left
   subst e
   have := h2.frame h (fun x h1 h2 => hd x h2 h1)
   refine ⟨r, ?_⟩
   rw [addK_comm a b, addK_comm a b']
   exact this.mono (List.prefix_refl _) fun x h => h.symm
  | @step _ _ i t s' u' e1 e2 e3 e4 =>
   have h1 : RunF L R a (i :: s') (labW t ++ u') a' := .step e1 e2 e3 e4
   by_cases ht : t.label = ⟨#[]⟩
   ·have hl : labW t = [] := if_pos ht
    refine left e1 e2 e3 e4 (by simp at hk; omega) (w' := w) (by rw [hl] at h3; exact h3) (by rw [hl]; rfl)
   ·have hl : labW t = [t.label] := if_neg ht
    rw [hl] at h3
    cases h2 with
    | nil h =>
     have e := h3.comm.eq_left
     subst e
     refine ⟨i :: s', ?_⟩
     have := h1.frame h hd
     rwa [hl] at this
    | @step _ _ j t2 r' v' f1 f2 f3 f4 =>
     by_cases ht2 : t2.label = ⟨#[]⟩
     ·have h7 : labW t2 = [] := if_pos ht2
      rw [h7] at h3
      exact right f1 f2 f3 f4 (by simp at hk ⊢; omega) (w' := w) (by rw [hl]; exact h3) (by rw [h7]; rfl)
     ·have h7 : labW t2 = [t2.label] := if_neg ht2
      rw [h7] at h3
      generalize hg1 : [t.label] ++ u' = U at h3
      generalize hg2 : [t2.label] ++ v' = V at h3
      cases h3 with
      | nil => cases hg1
      | @left c U' _ W' h3 =>
       have e0 : t.label = c ∧ u' = U' := by simpa using hg1
       obtain ⟨rfl, rfl⟩ := e0
       refine left e1 e2 e3 e4 (by simp at hk ⊢; omega) (w' := W') (by rw [h7, hg2]; exact h3) (by rw [hl]; rfl)
      | @right c _ V' W' h3 =>
       have e0 : t2.label = c ∧ v' = V' := by simpa using hg2
       obtain ⟨rfl, rfl⟩ := e0
       refine right f1 f2 f3 f4 (by simp at hk ⊢; omega) (w' := W') (by rw [hl, hg1]; exact h3) (by rw [h7]; rfl)
theorem run_one {L : List Trans} {R : Int → Prop} {i : Nat} {lab : BA} {ins outs : LI} (h : L[i]? = some ⟨lab, ins, outs⟩) (h1 : ∀ x ∈ ins, R x) (h2 : ∀ x ∈ outs, R x) : RunF L R (ind ins) [i] (if lab = ⟨#[]⟩ then [] else [lab]) (ind outs) := by
 have ok : ∀ l : LI, (∀ x ∈ l, R x) → OkF R (ind l) := fun l hl x => by
  unfold ind
  by_cases hx : x ∈ l
  ·right; rw [if_pos hx]; exact ⟨rfl, hl x hx⟩
  ·left; rw [if_neg hx]
 have e : stepF ⟨lab, ins, outs⟩ (ind ins) = ind outs := by funext x; unfold stepF; simp only; omega
 have := RunF.step (L := L) (R := R) (m' := ind outs) (s := []) (w := []) h (fun p hp => by simp only at hp; simp [ind, hp]) (ok _ h1) (by rw [e]; exact .nil (ok _ h2))
 simpa [labW] using this
theorem bt_pre : ∀ (t : Tree) (p q : Int) (s : Bd), s.trans <+: (bt t p q s).trans ∧ s.places ≤ (bt t p q s).places := by
 refine tree_ind fun t ih => ?_
 intro p q s
 have k0 : ∀ (l : List Tree) (ps : List (Int × Int)) (r : Bd), (∀ x ∈ l, x ∈ t.l) → r.trans <+: (btL l ps r).trans ∧ r.places ≤ (btL l ps r).places := by
  intro l
  induction l with
  | nil => intro ps r _; rw [btL]; exact ⟨List.prefix_refl _, Int.le_refl _⟩
  | cons x l ihl =>
   intro ps r hm
   cases ps with
   | nil => rw [btL]; exact ⟨List.prefix_refl _, Int.le_refl _⟩
   | cons pq ps =>
    obtain ⟨a, b⟩ := pq
    rw [btL]
    have h1 := ih x (hm x (by simp)) a b r
    have h2 := ihl ps (bt x a b r) (fun y hy => hm y (by simp [hy]))
    exact ⟨h1.1.trans h2.1, Int.le_trans h1.2 h2.2⟩
 rw [bt_eq]
 split
 ·exact ⟨List.prefix_refl _, Int.le_refl _⟩
 split
 ·exact ⟨List.prefix_append _ _, Int.le_refl _⟩
 split
 ·have := k0 t.l (pairsS p q s.places t.l.length) (s.more ((t.l.length - 1 : Nat) : Int)) fun x h => h
  simp only [Bd.more] at this ⊢
  exact ⟨this.1, by omega⟩
 split
 ·exact k0 _ _ _ fun x h => h
 split
 ·have := k0 t.l (pairsA s.places t.l.length) ((s.more (2 * (t.l.length : Int))).add ⟨#[]⟩ [p] (froms s.places t.l.length)) fun x h => h
  simp only [Bd.more, Bd.add] at this ⊢
  exact ⟨((List.prefix_append _ _).trans this.1).trans (List.prefix_append _ _), by omega⟩
 split
 ·have := k0 t.l [(s.places, s.places + 1), (s.places + 1, s.places)] ((s.more 2).add ⟨#[]⟩ [p] [s.places]) fun x h => h
  simp only [Bd.more, Bd.add] at this ⊢
  exact ⟨((List.prefix_append _ _).trans this.1).trans (List.prefix_append _ _), by omega⟩
 ·exact ⟨List.prefix_refl _, Int.le_refl _⟩
theorem btL_pre (l : List Tree) : ∀ (ps : List (Int × Int)) (s : Bd), s.trans <+: (btL l ps s).trans ∧ s.places ≤ (btL l ps s).places := by
 induction l with
 | nil => intro ps r; rw [btL]; exact ⟨List.prefix_refl _, Int.le_refl _⟩
 | cons x l ihl =>
  intro ps r
  cases ps with
  | nil => rw [btL]; exact ⟨List.prefix_refl _, Int.le_refl _⟩
  | cons pq ps =>
   obtain ⟨a, b⟩ := pq
   rw [btL]
   have h1 := bt_pre x a b r
   have h2 := ihl ps (bt x a b r)
   exact ⟨h1.1.trans h2.1, Int.le_trans h1.2 h2.2⟩
def Reg (p q a b x : Int) : Prop := x = p ∨ x = q ∨ (a ≤ x ∧ x < b)
def GoodB (t : Tree) : Prop := ∀ (p q : Int) (s : Bd), p ≠ q → p < s.places → q < s.places → (bt t p q s).trans.length ≤ 60 → (bt t p q s).places ≤ 40 → ∀ w, Lang t w →
 ∃ z, RunF (bt t p q s).trans (Reg p q s.places (bt t p q s).places) (ind [p]) z w (ind [q])
inductive ChainP : Int → List (Int × Int) → Int → Prop
 | nil {a : Int} : ChainP a [] a
 | cons {a b c : Int} {ps : List (Int × Int)} : a ≠ b → ChainP b ps c → ChainP a ((a, b) :: ps) c
theorem seq_run {l : List Tree} (hw : SeqW Lang l w) : ∀ {a c : Int} {ps : List (Int × Int)} (s : Bd), (∀ x ∈ l, GoodB x) → ChainP a ps c → ps.length = l.length → (∀ x ∈ ps, x.1 < s.places ∧ x.2 < s.places) → (btL l ps s).trans.length ≤ 60 → (btL l ps s).places ≤ 40 →
   ∃ z, RunF (btL l ps s).trans (fun x => x = a ∨ (∃ y ∈ ps, x = y.2) ∨ (s.places ≤ x ∧ x < (btL l ps s).places)) (ind [a]) z w (ind [c]) := by
 induction hw with
 | nil =>
   intro a c ps s _ hc hl _ _ _
   cases hc with
   | nil => exact ⟨[], .nil fun x => by unfold ind; by_cases hx : x ∈ [a]
                                        · right; rw [if_pos hx]; exact ⟨rfl, .inl (by simpa using hx)⟩
                                        · left; rw [if_neg hx]⟩
   | cons _ _ => simp at hl
 | @cons t l u v h1 _ ih =>
   intro a c ps s hg hc hl hb h6 h4
   cases hc with
   | nil => simp at hl
   | @cons _ b _ ps hab hc =>
     rw [btL] at h6 h4 ⊢
     have hp := btL_pre l ps (bt t a b s)
     have hq := bt_pre t a b s
     have h5 := hb (a, b) (by simp)
     have hlen := hp.1.length_le
     obtain ⟨z1, h8⟩ := hg t (by simp) a b s hab h5.1 h5.2 oM oM u h1
     obtain ⟨z2, h7⟩ := ih (bt t a b s) (fun x hx => hg x (by simp [hx])) hc (by simpa using hl) (fun x hx => by have := hb x (by simp [hx]); omega) h6 h4
     refine ⟨z1 ++ z2, (h8.mono hp.1 fun x hx => ?_).trans (h7.mono (List.prefix_refl _) fun x hx => ?_)⟩
     · rcases hx with rfl | rfl | hx
       · exact .inl rfl
       · exact .inr (.inl ⟨(a, x), by simp, rfl⟩)
       · exact .inr (.inr ⟨hx.1, by omega⟩)
     · rcases hx with rfl | ⟨y, hy, rfl⟩ | hx
       · exact .inr (.inl ⟨(a, x), by simp, rfl⟩)
       · exact .inr (.inl ⟨y, by simp [hy], rfl⟩)
       · exact .inr (.inr ⟨by omega, hx.2⟩)
theorem xor_run {t : Tree} {p q : Int} (hpq : p ≠ q) (hw : Lang t w) (hg : GoodB t) : ∀ {l : List Tree} (s : Bd), t ∈ l → p < s.places → q < s.places → (btL l (List.replicate l.length (p, q)) s).trans.length ≤ 60 → (btL l (List.replicate l.length (p, q)) s).places ≤ 40 →
  ∃ z, RunF (btL l (List.replicate l.length (p, q)) s).trans (Reg p q s.places (btL l (List.replicate l.length (p, q)) s).places) (ind [p]) z w (ind [q])
 | [], s, h, _, _, _, _ => by simp at h
 | x :: l, s, h, hp, hq, h60, h40 => by
  rw [List.length_cons, List.replicate_succ, btL] at h60 h40 ⊢
  have h1 := btL_pre l (List.replicate l.length (p, q)) (bt x p q s)
  have h2 := bt_pre x p q s
  have hlen := h1.1.length_le
  rcases List.mem_cons.1 h with rfl | h
  ·obtain ⟨z, hz⟩ := hg p q s hpq hp hq oM oM w hw
   refine ⟨z, hz.mono h1.1 fun x hx => ?_⟩
   rcases hx with hx | hx | hx
   ·exact .inl hx
   ·exact .inr (.inl hx)
   ·exact .inr (.inr ⟨hx.1, by omega⟩)
  ·obtain ⟨z, hz⟩ := xor_run hpq hw hg (l := l) (bt x p q s) h oM oM h60 h40
   refine ⟨z, hz.mono (List.prefix_refl _) fun x hx => ?_⟩
   rcases hx with hx | hx | hx
   ·exact .inl hx
   ·exact .inr (.inl hx)
   ·exact .inr (.inr ⟨by omega, hx.2⟩)
theorem ind_cons {a : Int} {l : LI} (h : a ∉ l) : ind (a :: l) = addK (ind [a]) (ind l) := by
 funext x
 unfold addK ind
 by_cases h1 : x = a
 ·subst h1; simp [h]
 ·simp [h1]
theorem and_run {l : List Tree} (hw : AndW Lang l w) : ∀ {ps : List (Int × Int)} (s : Bd), (∀ x ∈ l, GoodB x) → ps.length = l.length → (ps.flatMap fun y => [y.1, y.2]).Nodup → (∀ x ∈ ps, x.1 < s.places ∧ x.2 < s.places) → (btL l ps s).trans.length ≤ 60 → (btL l ps s).places ≤ 40 →
  ∃ z, RunF (btL l ps s).trans (fun x => (∃ y ∈ ps, x = y.1 ∨ x = y.2) ∨ (s.places ≤ x ∧ x < (btL l ps s).places)) (ind (ps.map (·.1))) z w (ind (ps.map (·.2))) := by
 induction hw with
 | nil =>
  intro ps s _ hl _ _ _ _
  obtain rfl : ps = [] := List.length_eq_zero_iff.1 hl
  exact ⟨[], .nil fun x => by left; simp [ind]⟩
 | @cons t l u v w h1 _ hs ih =>
  intro ps s hg hl hn hb h9 h7
  cases ps with
  | nil => simp at hl
  | cons pq ps =>
   obtain ⟨a, b⟩ := pq
   rw [btL] at h9 h7 ⊢
   have hp := btL_pre l ps (bt t a b s)
   have hq := bt_pre t a b s
   have h8 := hb (a, b) (by simp)
   have hlen := hp.1.length_le
   simp only [List.flatMap_cons, List.cons_append, List.nil_append, List.nodup_cons, List.mem_cons, not_or] at hn
   obtain ⟨⟨b7, ha⟩, b4, hn⟩ := hn
   have h5 : ∀ x, (∃ y ∈ ps, x = y.1 ∨ x = y.2) ↔ x ∈ (ps.flatMap fun y => [y.1, y.2]) := fun x => by
    rw [List.mem_flatMap]
    exact ⟨fun ⟨y, hy, h⟩ => ⟨y, hy, by simpa using h⟩, fun ⟨y, hy, h⟩ => ⟨y, hy, by simpa using h⟩⟩
   obtain ⟨z1, b6⟩ := hg t (by simp) a b s b7 h8.1 h8.2 oM oM u h1
   obtain ⟨z2, b5⟩ := ih (bt t a b s) (fun x hx => hg x (by simp [hx])) (by simpa using hl) hn (fun x hx => by have := hb x (by simp [hx]); omega) h9 h7
   have h6 : ∀ x, (∃ y ∈ ps, x = y.1 ∨ x = y.2) → x < s.places := fun x ⟨y, hy, h⟩ => by have := hb y (by simp [hy]); rcases h with rfl | rfl <;> omega
   obtain ⟨z, hz⟩ := RunF.mix (fun x hx h4 => by
    rcases hx with rfl | rfl | hx
    ·rcases h4 with h4 | h4
     ·exact ha ((h5 _).1 h4)
     ·omega
    ·rcases h4 with h4 | h4
     ·exact b4 ((h5 _).1 h4)
     ·omega
    ·rcases h4 with h4 | h4
     ·have := h6 x h4; omega
     ·omega) _ (Nat.le_refl _) (b6.mono hp.1 fun x h => h) b5 hs
   have e1 : ∀ f : Int × Int → Int, (∀ y, f y = y.1 ∨ f y = y.2) → ∀ c, c ∉ (ps.flatMap fun y => [y.1, y.2]) → c ∉ ps.map f := fun f hf c hc h => by
    obtain ⟨y, hy, rfl⟩ := List.mem_map.1 h
    exact hc ((h5 _).1 ⟨y, hy, hf y⟩)
   refine ⟨z, ?_⟩
   rw [List.map_cons, List.map_cons, ind_cons (e1 (·.1) (fun y => .inl rfl) a ha), ind_cons (e1 (·.2) (fun y => .inr rfl) b b4)]
   refine hz.mono (List.prefix_refl _) fun x hx => ?_
   rcases hx with hx | hx
   ·rcases hx with rfl | rfl | hx
    ·exact .inl ⟨(x, b), by simp, .inl rfl⟩
    ·exact .inl ⟨(a, x), by simp, .inr rfl⟩
    ·exact .inr ⟨hx.1, by omega⟩
   ·rcases hx with ⟨y, hy, hx⟩ | hx
    ·exact .inl ⟨y, by simp [hy], hx⟩
    ·exact .inr ⟨by omega, hx.2⟩
theorem loop_run {R : Int → Prop} {A B : Word → Prop} {a b : Int} (hA : ∀ w, A w → ∃ z, RunF L R (ind [a]) z w (ind [b])) (hB : ∀ w, B w → ∃ z, RunF L R (ind [b]) z w (ind [a])) (h : LoopW A B w) : ∃ z, RunF L R (ind [a]) z w (ind [b]) := by
 induction h with
 | one h => exact hA _ h
 | more h1 h2 _ ih =>
  obtain ⟨z1, h1⟩ := hA _ h1; obtain ⟨z2, h2⟩ := hB _ h2; obtain ⟨z3, h3⟩ := ih
  exact ⟨_, h1.trans (h2.trans h3)⟩
theorem chain_from {p q pl : Int} {n : Nat} (hpl : p < pl) (hql : q < pl) (hpq : p ≠ q) : ∀ (k i : Nat), i + k = n → 1 ≤ n → ChainP (seqAt p q pl n i) ((pairsS p q pl n).drop i) q
 | 0, i, hi, hn => by
  have : (pairsS p q pl n).drop i = [] := List.drop_of_length_le (by simp [pairsS]; omega)
  rw [this]
  have : seqAt p q pl n i = q := by unfold seqAt; rw [if_neg oM, if_pos oM]
  rw [this]; exact .nil
 | k + 1, i, hi, hn => by
  have h4 : i < n := by omega
  have hl : i < (pairsS p q pl n).length := by simp [pairsS]; omega
  rw [List.drop_eq_getElem_cons hl]
  have := pairsS_at (p := p) (q := q) (pl := pl) h4
  rw [List.getElem?_eq_getElem hl] at this
  rw [Option.some.inj this]
  refine .cons ?_ (chain_from hpl hql hpq k (i + 1) oM hn)
  unfold seqAt
  split <;> split <;> (try split) <;> (try split) <;> omega
theorem pairsS_lt {p q pl : Int} {n : Nat} (hpl : p < pl) (hql : q < pl) (hn : 1 ≤ n) : ∀ x ∈ pairsS p q pl n, x.1 < pl + ((n - 1 : Nat) : Int) ∧ x.2 < pl + ((n - 1 : Nat) : Int) := by
 intro x hx
 obtain ⟨i, hi, rfl⟩ := List.mem_map.1 hx
 have := List.mem_range.1 hi
 unfold seqAt
 constructor <;> (split <;> (try split) <;> omega)
theorem pairsA_nodup (pl : Int) : ∀ n : Nat, ((pairsA pl n).flatMap fun y => [y.1, y.2]).Nodup ∧ ∀ x ∈ ((pairsA pl n).flatMap fun y => [y.1, y.2]), pl ≤ x ∧ x < pl + 2 * (n : Int)
 | 0 => by simp [pairsA]
 | n + 1 => by
  obtain ⟨h1, h2⟩ := pairsA_nodup pl n
  have e : (pairsA pl (n + 1)).flatMap (fun y => [y.1, y.2]) = ((pairsA pl n).flatMap fun y => [y.1, y.2]) ++ [pl + 2 * (n : Int), pl + 2 * (n : Int) + 1] := by simp [pairsA, List.range_succ]
  rw [e]
  refine ⟨List.nodup_append.2 ⟨h1, by simp; omega, fun x hx y hy he => ?_⟩, fun x hx => ?_⟩
  ·have := h2 x hx; simp at hy; omega
  ·rcases List.mem_append.1 hx with hx | hx
   ·have := h2 x hx; omega
   ·simp at hx; omega
theorem pairsA_fst (pl : Int) (n : Nat) : (pairsA pl n).map (·.1) = froms pl n := by simp [pairsA, froms]
theorem pairsA_snd (pl : Int) (n : Nat) : (pairsA pl n).map (·.2) = tos pl n := by simp [pairsA, tos]
theorem pre_at {L K : List Trans} {x : Trans} (h : L ++ [x] <+: K) : K[L.length]? = some x := by
 obtain ⟨M, rfl⟩ := h
 rw [List.append_assoc, List.getElem?_append_right (Nat.le_refl _)]; simp
theorem good : ∀ t : Tree, okT t = true → GoodB t := by
 refine tree_ind fun t ih => ?_
 intro b4 p q s b7 hp hq h5 h4 w hw
 have hg : ∀ x ∈ t.l, GoodB x := fun x hx => ih x hx (okT_mem b4 x hx)
 by_cases hf : 60 < s.trans.length ∨ 40 < s.places
 ·rw [bt_full hf] at h5 h4; omega
 simp only [not_or] at hf
 obtain ⟨h9, h8⟩ := hf
 rcases lang_iff.1 hw with h | h | h | h | h | h
 ·obtain ⟨ho, rfl⟩ := h
  rw [bt_leaf h9 h8 (.inl ho)] at h5 h4 ⊢
  have hn : t.act ≠ ⟨#[]⟩ := by
   have hr := okT_right b4
   simp [rightB, ho] at hr
   intro e; rw [e] at hr; simp [isName] at hr
  have h1 := run_one (R := Reg p q s.places s.places) (pre_at (List.prefix_refl (s.trans ++ [⟨t.act, [p], [q]⟩]))) (fun x hx => by simp at hx; exact .inl hx) (fun x hx => by simp at hx; exact .inr (.inl hx))
  rw [if_neg hn] at h1
  exact ⟨_, h1⟩
 ·obtain ⟨ho, rfl⟩ := h
  rw [bt_leaf h9 h8 (.inr ho)] at h5 h4 ⊢
  have hn : t.act = ⟨#[]⟩ := by
   have hr := okT_right b4
   simp [rightB, ho] at hr
   exact hr.2
  have h1 := run_one (R := Reg p q s.places s.places) (pre_at (List.prefix_refl (s.trans ++ [⟨t.act, [p], [q]⟩]))) (fun x hx => by simp at hx; exact .inl hx) (fun x hx => by simp at hx; exact .inr (.inl hx))
  rw [if_pos hn] at h1
  exact ⟨_, h1⟩
 ·obtain ⟨ho, hs⟩ := h
  have hn := right3 b4 (.inl ho)
  rw [bt_seq h9 h8 ho] at h5 h4 ⊢
  have hc := chain_from (n := t.l.length) hp hq b7 t.l.length 0 oM hn
  rw [List.drop_zero] at hc
  have c1 := pairsS_lt (n := t.l.length) hp hq hn
  obtain ⟨z, hz⟩ := seq_run hs (s.more ((t.l.length - 1 : Nat) : Int)) hg hc (by simp [pairsS]) c1 h5 h4
  refine ⟨z, hz.mono (List.prefix_refl _) fun x hx => ?_⟩
  have h7 := (btL_pre t.l (pairsS p q s.places t.l.length) (s.more ((t.l.length - 1 : Nat) : Int))).2
  rw [show (s.more ((t.l.length - 1 : Nat) : Int)).places = s.places + ((t.l.length - 1 : Nat) : Int) from rfl] at h7
  rcases hx with rfl | ⟨y, hy, rfl⟩ | hx
  ·exact .inl rfl
  ·obtain ⟨i, hi, rfl⟩ := List.mem_map.1 hy
   have := List.mem_range.1 hi
   simp only [seqAt]
   by_cases h1 : i + 1 = t.l.length
   ·rw [if_neg oM, if_pos h1]; exact .inr (.inl rfl)
   ·rw [if_neg oM, if_neg h1]; exact .inr (.inr ⟨by omega, by omega⟩)
  ·rw [show (s.more ((t.l.length - 1 : Nat) : Int)).places = s.places + ((t.l.length - 1 : Nat) : Int) from rfl] at hx
   exact .inr (.inr ⟨by omega, hx.2⟩)
 ·obtain ⟨ho, x, hx, hw⟩ := h
  rw [bt_xor h9 h8 ho] at h5 h4 ⊢
  exact xor_run b7 hw (hg x hx) s hx hp hq h5 h4
 ·obtain ⟨ho, hs⟩ := h
  rw [bt_and h9 h8 ho] at h5 h4 ⊢
  obtain ⟨d0, b5⟩ := pairsA_nodup s.places t.l.length
  generalize hr : (s.more (2 * (t.l.length : Int))).add ⟨#[]⟩ [p] (froms s.places t.l.length) = r at h5 h4 ⊢
  have c0 : r.places = s.places + 2 * (t.l.length : Int) := by rw [← hr]; rfl
  have b6 : r.trans = s.trans ++ [⟨⟨#[]⟩, [p], froms s.places t.l.length⟩] := by rw [← hr]; rfl
  have h7 := btL_pre t.l (pairsA s.places t.l.length) r
  simp only [Bd.add, List.length_append, List.length_singleton] at h5 h4
  obtain ⟨z, hz⟩ := and_run hs r hg (by simp [pairsA]) d0 (fun x hx => by
   have h1 := b5 x.1 (List.mem_flatMap.2 ⟨x, hx, by simp⟩)
   have h2 := b5 x.2 (List.mem_flatMap.2 ⟨x, hx, by simp⟩)
   omega) oM h4
  rw [pairsA_fst, pairsA_snd] at hz
  simp only [Bd.add]
  have b8 : ∀ x ∈ froms s.places t.l.length, s.places ≤ x ∧ x < r.places := fun x hx => by
   obtain ⟨i, hi, rfl⟩ := List.mem_map.1 hx; have := List.mem_range.1 hi; omega
  have b9 : ∀ x ∈ tos s.places t.l.length, s.places ≤ x ∧ x < r.places := fun x hx => by
   obtain ⟨i, hi, rfl⟩ := List.mem_map.1 hx; have := List.mem_range.1 hi; omega
  have ha := run_one (L := (btL t.l (pairsA s.places t.l.length) r).trans ++ [⟨⟨#[]⟩, tos s.places t.l.length, [q]⟩]) (R := Reg p q s.places (btL t.l (pairsA s.places t.l.length) r).places) (i := s.trans.length) (lab := ⟨#[]⟩) (ins := [p]) (outs := froms s.places t.l.length)
   (pre_at (by rw [← b6]; exact h7.1.trans (List.prefix_append _ _))) (fun x hx => by simp at hx; exact .inl hx) (fun x hx => .inr (.inr ⟨(b8 x hx).1, by have := (b8 x hx).2; omega⟩))
  have hb := run_one (R := Reg p q s.places (btL t.l (pairsA s.places t.l.length) r).places) (pre_at (List.prefix_refl ((btL t.l (pairsA s.places t.l.length) r).trans ++ [⟨⟨#[]⟩, tos s.places t.l.length, [q]⟩]))) (fun x hx => .inr (.inr ⟨(b9 x hx).1, by have := (b9 x hx).2; omega⟩)) (fun x hx => by simp at hx; exact .inr (.inl hx))
  rw [if_pos rfl] at ha hb
  have hm := hz.mono (L' := (btL t.l (pairsA s.places t.l.length) r).trans ++ [⟨⟨#[]⟩, tos s.places t.l.length, [q]⟩]) (R' := Reg p q s.places (btL t.l (pairsA s.places t.l.length) r).places) (List.prefix_append _ _) (fun x hx => by
   rcases hx with ⟨y, hy, hx⟩ | hx
   ·have h1 := b5 x (List.mem_flatMap.2 ⟨y, hy, by simpa using hx⟩)
    exact .inr (.inr ⟨h1.1, by omega⟩)
   ·exact .inr (.inr ⟨by omega, hx.2⟩))
  have h6 := ha.trans (hm.trans hb)
  simp only [List.nil_append, List.append_nil] at h6
  exact ⟨_, h6⟩
 ·obtain ⟨ho, x, y, hl, hs⟩ := h
  rw [bt_loop h9 h8 ho] at h5 h4 ⊢
  rw [hl, btL, btL, btL] at h5 h4 ⊢
  generalize hr : (s.more 2).add ⟨#[]⟩ [p] [s.places] = r at h5 h4 ⊢
  have c0 : r.places = s.places + 2 := by rw [← hr]; rfl
  have b6 : r.trans = s.trans ++ [⟨⟨#[]⟩, [p], [s.places]⟩] := by rw [← hr]; rfl
  have h1 := bt_pre x s.places (s.places + 1) r
  have h2 := bt_pre y (s.places + 1) s.places (bt x s.places (s.places + 1) r)
  have d2 := h1.1.length_le
  have d1 := h2.1.length_le
  simp only [Bd.add, List.length_append, List.length_singleton] at h5 h4
  simp only [Bd.add]
  have ha := run_one (L := (bt y (s.places + 1) s.places (bt x s.places (s.places + 1) r)).trans ++ [⟨⟨#[]⟩, [s.places + 1], [q]⟩]) (R := Reg p q s.places (bt y (s.places + 1) s.places (bt x s.places (s.places + 1) r)).places) (i := s.trans.length) (lab := ⟨#[]⟩) (ins := [p]) (outs := [s.places])
   (pre_at (by rw [← b6]; exact (h1.1.trans h2.1).trans (List.prefix_append _ _))) (fun z hz => by simp at hz; exact .inl hz) (fun z hz => by simp at hz; subst hz; exact .inr (.inr ⟨by omega, by omega⟩))
  have hb := run_one (R := Reg p q s.places (bt y (s.places + 1) s.places (bt x s.places (s.places + 1) r)).places) (pre_at (List.prefix_refl ((bt y (s.places + 1) s.places (bt x s.places (s.places + 1) r)).trans ++ [⟨⟨#[]⟩, [s.places + 1], [q]⟩]))) (fun z hz => by simp at hz; subst hz; exact .inr (.inr ⟨by omega, by omega⟩)) (fun z hz => by simp at hz; exact .inr (.inl hz))
  rw [if_pos rfl] at ha hb
  have hx := hg x (by rw [hl]; simp)
  have hy := hg y (by rw [hl]; simp)
  obtain ⟨z, hz⟩ := loop_run (L := (bt y (s.places + 1) s.places (bt x s.places (s.places + 1) r)).trans ++ [⟨⟨#[]⟩, [s.places + 1], [q]⟩]) (R := Reg p q s.places (bt y (s.places + 1) s.places (bt x s.places (s.places + 1) r)).places) (a := s.places) (b := s.places + 1)
   (fun w hw => by
    obtain ⟨z, hz⟩ := hx s.places (s.places + 1) r oM oM oM oM oM w hw
    refine ⟨z, hz.mono (h2.1.trans (List.prefix_append _ _)) fun a ha => ?_⟩
    rcases ha with rfl | rfl | ha
    ·exact .inr (.inr ⟨by omega, by omega⟩)
    ·exact .inr (.inr ⟨by omega, by omega⟩)
    ·exact .inr (.inr ⟨by omega, by omega⟩))
   (fun w hw => by
    obtain ⟨z, hz⟩ := hy (s.places + 1) s.places (bt x s.places (s.places + 1) r) oM oM oM oM oM w hw
    refine ⟨z, hz.mono (List.prefix_append _ _) fun a ha => ?_⟩
    rcases ha with rfl | rfl | ha
    ·exact .inr (.inr ⟨by omega, by omega⟩)
    ·exact .inr (.inr ⟨by omega, by omega⟩)
    ·exact .inr (.inr ⟨by omega, by omega⟩)) hs
  have h6 := ha.trans (hz.trans hb)
  simp only [List.nil_append, List.append_nil] at h6
  exact ⟨_, h6⟩
def Clo (L : List Trans) (f g : Trans → LI) (A : Int → Prop) (B : Nat → Prop) : Prop := ∀ (i : Nat) (t : Trans), L[i]? = some t → (∃ p ∈ f t, A p) → B i ∧ ∀ q ∈ g t, A q
def News (A : Int → Prop) (B : Nat → Prop) (s s' : Bd) : Prop := (∀ x, s.places ≤ x → x < s'.places → A x) ∧ ∀ i, s.trans.length ≤ i → i < s'.trans.length → B i
theorem News.refl {A : Int → Prop} {B : Nat → Prop} : News A B s s := ⟨fun x h1 h2 => by omega, fun i h1 h2 => by omega⟩
theorem News.trans {A : Int → Prop} {B : Nat → Prop} (h : News A B s s') (k : News A B s' s'') : News A B s s'' :=
 ⟨fun x h1 h2 => by rcases Int.lt_or_le x s'.places with h3 | h3
                    · exact h.1 x h1 h3
                    · exact k.1 x h3 h2, fun i h1 h2 => by rcases Nat.lt_or_ge i s'.trans.length with h3 | h3
                                                           · exact h.2 i h1 h3
                                                           · exact k.2 i h3 h2⟩
theorem News.add {A : Int → Prop} {B : Nat → Prop} {s : Bd} {l : BA} {a : LI} (h : B s.trans.length) : News A B s (s.add l a b) :=
 ⟨fun x h1 h2 => by simp only [Bd.add] at h2; omega, fun i h1 h2 => by simp only [Bd.add, List.length_append, List.length_singleton] at h2; obtain rfl : i = s.trans.length := by omega
                                                                       exact h⟩
theorem News.more {A : Int → Prop} {B : Nat → Prop} {s : Bd} {k : Int} (h : ∀ x, s.places ≤ x → x < s.places + k → A x) : News A B s (s.more k) :=
 ⟨fun x h1 h2 => h x h1 h2, fun i h1 h2 => by simp only [Bd.more] at h2; omega⟩
inductive ChainQ : Int → List (Int × Int) → Int → Prop
 | nil {a : Int} : ChainQ a [] a
 | cons {a b c : Int} {ps : List (Int × Int)} : ChainQ b ps c → ChainQ a ((a, b) :: ps) c
theorem chainQ_from {q pl : Int} {n : Nat} : ∀ (k i : Nat), i + k = n → 1 ≤ n → ChainQ (seqAt p q pl n i) ((pairsS p q pl n).drop i) q
 | 0, i, hi, hn => by
  have : (pairsS p q pl n).drop i = [] := List.drop_of_length_le (by simp [pairsS]; omega)
  rw [this]
  have : seqAt p q pl n i = q := by unfold seqAt; rw [if_neg oM, if_pos oM]
  rw [this]; exact .nil
 | k + 1, i, hi, hn => by
  have h4 : i < n := by omega
  have hl : i < (pairsS p q pl n).length := by simp [pairsS]; omega
  rw [List.drop_eq_getElem_cons hl]
  have := pairsS_at (p := p) (q := q) (pl := pl) h4
  rw [List.getElem?_eq_getElem hl] at this
  rw [Option.some.inj this]
  exact .cons (chainQ_from k (i + 1) oM hn)
def FwdB (t : Tree) : Prop := ∀ (p q : Int) (s : Bd), (bt t p q s).trans.length ≤ 60 → (bt t p q s).places ≤ 40 → ∀ L A B, (bt t p q s).trans <+: L → Clo L (·.ins) (·.outs) A B → A p → A q ∧ News A B s (bt t p q s)
def BwdB (t : Tree) : Prop := ∀ (p q : Int) (s : Bd), (bt t p q s).trans.length ≤ 60 → (bt t p q s).places ≤ 40 → ∀ L A B, (bt t p q s).trans <+: L → Clo L (·.outs) (·.ins) A B → A q → A p ∧ News A B s (bt t p q s)
theorem seq_fwd {A : Int → Prop} {B : Nat → Prop} (hc : Clo L (·.ins) (·.outs) A B) : ∀ {l : List Tree} {a c : Int} {ps : List (Int × Int)} (s : Bd), (∀ x ∈ l, FwdB x) → ChainQ a ps c → ps.length = l.length → (btL l ps s).trans.length ≤ 60 → (btL l ps s).places ≤ 40 → (btL l ps s).trans <+: L → A a →
   A c ∧ (∀ y ∈ ps, A y.2) ∧ News A B s (btL l ps s)
 | [], a, c, ps, s, _, hch, hl, _, _, _, ha => by
   cases hch with
   | nil => exact ⟨ha, by simp, .refl⟩
   | cons _ => simp at hl
 | t :: l, a, c, ps, s, hg, hch, hl, h60, h40, hpre, ha => by
   cases hch with
   | nil => simp at hl
   | @cons _ b _ ps hch =>
     rw [btL] at h60 h40 hpre ⊢
     have hp := btL_pre l ps (bt t a b s)
     have hlen := hp.1.length_le
     obtain ⟨h1, h2⟩ := hg t (by simp) a b s oM oM L A B (hp.1.trans hpre) hc ha
     obtain ⟨h3, h4, h5⟩ := seq_fwd hc (bt t a b s) (fun x hx => hg x (by simp [hx])) hch (by simpa using hl) h60 h40 hpre h1
     exact ⟨h3, fun y hy => by rcases List.mem_cons.1 hy with rfl | hy
                               · exact h1
                               · exact h4 y hy, h2.trans h5⟩
theorem seq_bwd {A : Int → Prop} {B : Nat → Prop} (hc : Clo L (·.outs) (·.ins) A B) : ∀ {l : List Tree} {a c : Int} {ps : List (Int × Int)} (s : Bd), (∀ x ∈ l, BwdB x) → ChainQ a ps c → ps.length = l.length → (btL l ps s).trans.length ≤ 60 → (btL l ps s).places ≤ 40 → (btL l ps s).trans <+: L → A c →
   A a ∧ (∀ y ∈ ps, A y.2) ∧ News A B s (btL l ps s)
 | [], a, c, ps, s, _, hch, hl, _, _, _, ha => by
   cases hch with
   | nil => exact ⟨ha, by simp, .refl⟩
   | cons _ => simp at hl
 | t :: l, a, c, ps, s, hg, hch, hl, h60, h40, hpre, ha => by
   cases hch with
   | nil => simp at hl
   | @cons _ b _ ps hch =>
     rw [btL] at h60 h40 hpre ⊢
     have hp := btL_pre l ps (bt t a b s)
     have hlen := hp.1.length_le
     obtain ⟨h3, h4, h5⟩ := seq_bwd hc (bt t a b s) (fun x hx => hg x (by simp [hx])) hch (by simpa using hl) h60 h40 hpre ha
     obtain ⟨h1, h2⟩ := hg t (by simp) a b s oM oM L A B (hp.1.trans hpre) hc h3
     exact ⟨h1, fun y hy => by rcases List.mem_cons.1 hy with rfl | hy
                               · exact h3
                               · exact h4 y hy, h2.trans h5⟩
theorem xor_fwd {A : Int → Prop} {B : Nat → Prop} (hc : Clo L (·.ins) (·.outs) A B) {q : Int} (ha : A p) : ∀ {l : List Tree} (s : Bd), (∀ x ∈ l, FwdB x) → (btL l (List.replicate l.length (p, q)) s).trans.length ≤ 60 → (btL l (List.replicate l.length (p, q)) s).places ≤ 40 → (btL l (List.replicate l.length (p, q)) s).trans <+: L →
  (1 ≤ l.length → A q) ∧ News A B s (btL l (List.replicate l.length (p, q)) s)
 | [], s, _, _, _, _ => ⟨by simp, .refl⟩
 | t :: l, s, hg, h60, h40, hpre => by
  rw [List.length_cons, List.replicate_succ, btL] at h60 h40 hpre ⊢
  have hp := btL_pre l (List.replicate l.length (p, q)) (bt t p q s)
  have hlen := hp.1.length_le
  obtain ⟨h1, h2⟩ := hg t (by simp) p q s oM oM L A B (hp.1.trans hpre) hc ha
  obtain ⟨_, h5⟩ := xor_fwd hc ha (bt t p q s) (fun x hx => hg x (by simp [hx])) h60 h40 hpre
  exact ⟨fun _ => h1, h2.trans h5⟩
theorem xor_bwd {A : Int → Prop} {B : Nat → Prop} (hc : Clo L (·.outs) (·.ins) A B) {p q : Int} (ha : A q) : ∀ {l : List Tree} (s : Bd), (∀ x ∈ l, BwdB x) → (btL l (List.replicate l.length (p, q)) s).trans.length ≤ 60 → (btL l (List.replicate l.length (p, q)) s).places ≤ 40 → (btL l (List.replicate l.length (p, q)) s).trans <+: L →
  (1 ≤ l.length → A p) ∧ News A B s (btL l (List.replicate l.length (p, q)) s)
 | [], s, _, _, _, _ => ⟨by simp, .refl⟩
 | t :: l, s, hg, h60, h40, hpre => by
  rw [List.length_cons, List.replicate_succ, btL] at h60 h40 hpre ⊢
  have hp := btL_pre l (List.replicate l.length (p, q)) (bt t p q s)
  have hlen := hp.1.length_le
  obtain ⟨h1, h2⟩ := hg t (by simp) p q s oM oM L A B (hp.1.trans hpre) hc ha
  obtain ⟨_, h5⟩ := xor_bwd hc ha (bt t p q s) (fun x hx => hg x (by simp [hx])) h60 h40 hpre
  exact ⟨fun _ => h1, h2.trans h5⟩
theorem and_fwd {A : Int → Prop} {B : Nat → Prop} (hc : Clo L (·.ins) (·.outs) A B) : ∀ {l : List Tree} {ps : List (Int × Int)} (s : Bd), (∀ x ∈ l, FwdB x) → ps.length = l.length → (btL l ps s).trans.length ≤ 60 → (btL l ps s).places ≤ 40 → (btL l ps s).trans <+: L → (∀ y ∈ ps, A y.1) →
   (∀ y ∈ ps, A y.2) ∧ News A B s (btL l ps s)
 | [], ps, s, _, hl, _, _, _, ha => by
   obtain rfl : ps = [] := List.length_eq_zero_iff.1 hl
   exact ⟨by simp, .refl⟩
 | t :: l, ps, s, hg, hl, h60, h40, hpre, ha => by
   cases ps with
   | nil => simp at hl
   | cons pq ps =>
     obtain ⟨a, b⟩ := pq
     rw [btL] at h60 h40 hpre ⊢
     have hp := btL_pre l ps (bt t a b s)
     have hlen := hp.1.length_le
     obtain ⟨h1, h2⟩ := hg t (by simp) a b s oM oM L A B (hp.1.trans hpre) hc (ha (a, b) (by simp))
     obtain ⟨h4, h5⟩ := and_fwd hc (bt t a b s) (fun x hx => hg x (by simp [hx])) (by simpa using hl) h60 h40 hpre fun y hy => ha y (by simp [hy])
     exact ⟨fun y hy => by rcases List.mem_cons.1 hy with rfl | hy
                           · exact h1
                           · exact h4 y hy, h2.trans h5⟩
theorem and_bwd {A : Int → Prop} {B : Nat → Prop} (hc : Clo L (·.outs) (·.ins) A B) : ∀ {l : List Tree} {ps : List (Int × Int)} (s : Bd), (∀ x ∈ l, BwdB x) → ps.length = l.length → (btL l ps s).trans.length ≤ 60 → (btL l ps s).places ≤ 40 → (btL l ps s).trans <+: L → (∀ y ∈ ps, A y.2) →
   (∀ y ∈ ps, A y.1) ∧ News A B s (btL l ps s)
 | [], ps, s, _, hl, _, _, _, ha => by
   obtain rfl : ps = [] := List.length_eq_zero_iff.1 hl
   exact ⟨by simp, .refl⟩
 | t :: l, ps, s, hg, hl, h60, h40, hpre, ha => by
   cases ps with
   | nil => simp at hl
   | cons pq ps =>
     obtain ⟨a, b⟩ := pq
     rw [btL] at h60 h40 hpre ⊢
     have hp := btL_pre l ps (bt t a b s)
     have hlen := hp.1.length_le
     obtain ⟨h1, h2⟩ := hg t (by simp) a b s oM oM L A B (hp.1.trans hpre) hc (ha (a, b) (by simp))
     obtain ⟨h4, h5⟩ := and_bwd hc (bt t a b s) (fun x hx => hg x (by simp [hx])) (by simpa using hl) h60 h40 hpre fun y hy => ha y (by simp [hy])
     exact ⟨fun y hy => by rcases List.mem_cons.1 hy with rfl | hy
                           · exact h1
                           · exact h4 y hy, h2.trans h5⟩
theorem validN_bounds {t : Tree} (h : validN (netOf t) = true) : (bt t 0 1 ⟨2, []⟩).places ≤ 40 ∧ (bt t 0 1 ⟨2, []⟩).trans.length ≤ 60 := by
 unfold validN at h
 simp only [Bool.and_eq_true, decide_eq_true_eq] at h
 exact ⟨h.1.1.1.1.2, h.1.1.1.2⟩
theorem right_ops {t : Tree} (h : okT t = true) : t.op = 1 ∨ t.op = 2 ∨ t.op = 3 ∨ t.op = 4 ∨ t.op = 5 ∨ t.op = 6 := by
 have h4 := okT_right h
 unfold rightB at h4
 split at h4
 ·simp [*]
 split at h4
 ·simp [*]
 split at h4
 ·rename_i h5; rcases h5 with h5 | h5 | h5 <;> simp [h5]
 split at h4
 ·simp [*]
 ·cases h4
theorem froms_mem {pl x : Int} : x ∈ froms pl n ↔ ∃ y ∈ pairsA pl n, y.1 = x := by rw [← pairsA_fst, List.mem_map]
theorem tos_mem {pl x : Int} : x ∈ tos pl n ↔ ∃ y ∈ pairsA pl n, y.2 = x := by rw [← pairsA_snd, List.mem_map]
theorem pairsA_all {pl x : Int} {n : Nat} (h1 : pl ≤ x) (h2 : x < pl + 2 * (n : Int)) : ∃ y ∈ pairsA pl n, x = y.1 ∨ x = y.2 := by
 have hk : ∃ k : Nat, x = pl + 2 * (k : Int) ∨ x = pl + 2 * (k : Int) + 1 := ⟨((x - pl) / 2).toNat, by omega⟩
 obtain ⟨k, hk⟩ := hk
 exact ⟨(pl + 2 * (k : Int), pl + 2 * (k : Int) + 1), List.mem_map.2 ⟨k, List.mem_range.2 oM, rfl⟩, hk⟩
theorem pairsS_all {q pl x : Int} {n : Nat} (h1 : pl ≤ x) (h2 : x < pl + ((n - 1 : Nat) : Int)) : ∃ y ∈ pairsS p q pl n, y.2 = x := by
 refine ⟨_, List.mem_map.2 ⟨(x - pl).toNat, List.mem_range.2 oM, rfl⟩, ?_⟩
 simp only [seqAt]
 rw [if_neg oM, if_neg oM]
 omega
theorem fwd : ∀ t : Tree, okT t = true → FwdB t := by
 refine tree_ind fun t ih => ?_
 intro h6 p q s h5 h4 L A B hL hc ha
 have hg : ∀ x ∈ t.l, FwdB x := fun x hx => ih x hx (okT_mem h6 x hx)
 by_cases hf : 60 < s.trans.length ∨ 40 < s.places
 ·rw [bt_full hf] at h5 h4; omega
 simp only [not_or] at hf
 obtain ⟨h9, h8⟩ := hf
 rcases right_ops h6 with ho | ho | ho | ho | ho | ho
 iterate 2
  ·rw [bt_leaf h9 h8 (by simp [ho])] at hL ⊢
   have h1 := hc s.trans.length ⟨t.act, [p], [q]⟩ (pre_at hL) ⟨p, by simp, ha⟩
   exact ⟨h1.2 q (by simp), .add h1.1⟩
 ·have hn := right3 h6 (.inl ho)
  rw [bt_seq h9 h8 ho] at h5 h4 hL ⊢
  have b5 := chainQ_from (p := p) (q := q) (pl := s.places) (n := t.l.length) t.l.length 0 oM hn
  rw [List.drop_zero] at b5
  have e0 : seqAt p q s.places t.l.length 0 = p := if_pos rfl
  rw [e0] at b5
  obtain ⟨h1, h2, h3⟩ := seq_fwd hc (s.more ((t.l.length - 1 : Nat) : Int)) hg b5 (by simp [pairsS]) h5 h4 hL ha
  refine ⟨h1, News.trans (.more fun x b6 b4 => ?_) h3⟩
  obtain ⟨y, hy, rfl⟩ := pairsS_all (p := p) (q := q) b6 b4
  exact h2 y hy
 ·rw [bt_xor h9 h8 ho] at h5 h4 hL ⊢
  have h1 := xor_fwd hc ha s hg h5 h4 hL
  exact ⟨h1.1 (right3 h6 (.inr (.inl ho))), h1.2⟩
 ·rw [bt_and h9 h8 ho] at h5 h4 hL ⊢
  generalize hr : (s.more (2 * (t.l.length : Int))).add ⟨#[]⟩ [p] (froms s.places t.l.length) = r at h5 h4 hL ⊢
  have d0 : r.places = s.places + 2 * (t.l.length : Int) := by rw [← hr]; rfl
  have b8 : r.trans = s.trans ++ [⟨⟨#[]⟩, [p], froms s.places t.l.length⟩] := by rw [← hr]; rfl
  have b7 := btL_pre t.l (pairsA s.places t.l.length) r
  have h1 : (s.more (2 * (t.l.length : Int))).trans = s.trans := rfl
  have d1 : r.trans <+: L := b7.1.trans ((List.prefix_append _ _).trans hL)
  have h7 : (btL t.l (pairsA s.places t.l.length) r).trans.length ≤ 60 := by simp only [Bd.add, List.length_append, List.length_singleton] at h5; omega
  have hn := right3 h6 (.inr (.inr ho))
  have t1 := hc s.trans.length ⟨⟨#[]⟩, [p], froms s.places t.l.length⟩ (pre_at (by rw [← b8]; exact d1)) ⟨p, by simp, ha⟩
  have h2 := and_fwd hc r hg (by simp [pairsA]) h7 h4 ((List.prefix_append _ _).trans hL) fun y hy => t1.2 _ (froms_mem.2 ⟨y, hy, rfl⟩)
  have t2 := hc (btL t.l (pairsA s.places t.l.length) r).trans.length ⟨⟨#[]⟩, tos s.places t.l.length, [q]⟩ (pre_at hL) (by
   obtain ⟨y, hy, _⟩ := pairsA_all (pl := s.places) (x := s.places) (n := t.l.length) oM oM
   exact ⟨y.2, tos_mem.2 ⟨y, hy, rfl⟩, h2.1 y hy⟩)
  refine ⟨t2.2 q (by simp), News.trans (s' := r) ?_ (h2.2.trans (.add t2.1))⟩
  rw [← hr]
  refine News.trans (.more fun x b6 b4 => ?_) (.add t1.1)
  obtain ⟨y, hy, hx⟩ := pairsA_all b6 b4
  rcases hx with rfl | rfl
  ·exact t1.2 _ (froms_mem.2 ⟨y, hy, rfl⟩)
  ·exact h2.1 y hy
 ·have c1 := right6 h6 ho
  obtain ⟨x, y, hl⟩ : ∃ x y, t.l = [x, y] := by
   match hm : t.l, c1 with
   | [x, y], _ => exact ⟨x, y, rfl⟩
  rw [bt_loop h9 h8 ho] at h5 h4 hL ⊢
  rw [hl, btL, btL, btL] at h5 h4 hL ⊢
  generalize hr : (s.more 2).add ⟨#[]⟩ [p] [s.places] = r at h5 h4 hL ⊢
  have d0 : r.places = s.places + 2 := by rw [← hr]; rfl
  have b8 : r.trans = s.trans ++ [⟨⟨#[]⟩, [p], [s.places]⟩] := by rw [← hr]; rfl
  have h1 := bt_pre x s.places (s.places + 1) r
  have h2 := bt_pre y (s.places + 1) s.places (bt x s.places (s.places + 1) r)
  have d4 := h1.1.length_le
  have c1 := h2.1.length_le
  have h7 : (bt y (s.places + 1) s.places (bt x s.places (s.places + 1) r)).trans.length ≤ 60 := by simp only [Bd.add, List.length_append, List.length_singleton] at h5; omega
  have hx := hg x (by rw [hl]; simp)
  have hy := hg y (by rw [hl]; simp)
  have b9 := (List.prefix_append _ _).trans hL
  have c0 := h2.1.trans b9
  simp only [Bd.add] at h4
  have t1 := hc s.trans.length ⟨⟨#[]⟩, [p], [s.places]⟩ (pre_at (by rw [← b8]; exact h1.1.trans c0)) ⟨p, by simp, ha⟩
  have k1 := hx s.places (s.places + 1) r oM oM L A B c0 hc (t1.2 _ (by simp))
  have k2 := hy (s.places + 1) s.places _ oM oM L A B b9 hc k1.1
  have t2 := hc (bt y (s.places + 1) s.places (bt x s.places (s.places + 1) r)).trans.length ⟨⟨#[]⟩, [s.places + 1], [q]⟩ (pre_at hL) ⟨_, by simp, k1.1⟩
  refine ⟨t2.2 q (by simp), News.trans (s' := r) ?_ (k1.2.trans (k2.2.trans (.add t2.1)))⟩
  rw [← hr]
  refine News.trans (.more fun z d3 d2 => ?_) (.add t1.1)
  have : z = s.places ∨ z = s.places + 1 := by omega
  rcases this with rfl | rfl
  ·exact t1.2 _ (by simp)
  ·exact k1.1
theorem bwd : ∀ t : Tree, okT t = true → BwdB t := by
 refine tree_ind fun t ih => ?_
 intro h6 p q s h5 h4 L A B hL hc ha
 have hg : ∀ x ∈ t.l, BwdB x := fun x hx => ih x hx (okT_mem h6 x hx)
 by_cases hf : 60 < s.trans.length ∨ 40 < s.places
 ·rw [bt_full hf] at h5 h4; omega
 simp only [not_or] at hf
 obtain ⟨h9, h8⟩ := hf
 rcases right_ops h6 with ho | ho | ho | ho | ho | ho
 iterate 2
  ·rw [bt_leaf h9 h8 (by simp [ho])] at hL ⊢
   have h1 := hc s.trans.length ⟨t.act, [p], [q]⟩ (pre_at hL) ⟨q, by simp, ha⟩
   exact ⟨h1.2 p (by simp), .add h1.1⟩
 ·have hn := right3 h6 (.inl ho)
  rw [bt_seq h9 h8 ho] at h5 h4 hL ⊢
  have b5 := chainQ_from (p := p) (q := q) (pl := s.places) (n := t.l.length) t.l.length 0 oM hn
  rw [List.drop_zero] at b5
  have e0 : seqAt p q s.places t.l.length 0 = p := if_pos rfl
  rw [e0] at b5
  obtain ⟨h1, h2, h3⟩ := seq_bwd hc (s.more ((t.l.length - 1 : Nat) : Int)) hg b5 (by simp [pairsS]) h5 h4 hL ha
  refine ⟨h1, News.trans (.more fun x b6 b4 => ?_) h3⟩
  obtain ⟨y, hy, rfl⟩ := pairsS_all (p := p) (q := q) b6 b4
  exact h2 y hy
 ·rw [bt_xor h9 h8 ho] at h5 h4 hL ⊢
  have h1 := xor_bwd hc ha s hg h5 h4 hL
  exact ⟨h1.1 (right3 h6 (.inr (.inl ho))), h1.2⟩
 ·rw [bt_and h9 h8 ho] at h5 h4 hL ⊢
  generalize hr : (s.more (2 * (t.l.length : Int))).add ⟨#[]⟩ [p] (froms s.places t.l.length) = r at h5 h4 hL ⊢
  have d0 : r.places = s.places + 2 * (t.l.length : Int) := by rw [← hr]; rfl
  have b8 : r.trans = s.trans ++ [⟨⟨#[]⟩, [p], froms s.places t.l.length⟩] := by rw [← hr]; rfl
  have b7 := btL_pre t.l (pairsA s.places t.l.length) r
  have h1 : (s.more (2 * (t.l.length : Int))).trans = s.trans := rfl
  have d1 : r.trans <+: L := b7.1.trans ((List.prefix_append _ _).trans hL)
  have h7 : (btL t.l (pairsA s.places t.l.length) r).trans.length ≤ 60 := by simp only [Bd.add, List.length_append, List.length_singleton] at h5; omega
  have hn := right3 h6 (.inr (.inr ho))
  have t2 := hc (btL t.l (pairsA s.places t.l.length) r).trans.length ⟨⟨#[]⟩, tos s.places t.l.length, [q]⟩ (pre_at hL) ⟨q, by simp, ha⟩
  have h2 := and_bwd hc r hg (by simp [pairsA]) h7 h4 ((List.prefix_append _ _).trans hL) fun y hy => t2.2 _ (tos_mem.2 ⟨y, hy, rfl⟩)
  have t1 := hc s.trans.length ⟨⟨#[]⟩, [p], froms s.places t.l.length⟩ (pre_at (by rw [← b8]; exact d1)) (by
   obtain ⟨y, hy, _⟩ := pairsA_all (pl := s.places) (x := s.places) (n := t.l.length) oM oM
   exact ⟨y.1, froms_mem.2 ⟨y, hy, rfl⟩, h2.1 y hy⟩)
  refine ⟨t1.2 p (by simp), News.trans (s' := r) ?_ (h2.2.trans (.add t2.1))⟩
  rw [← hr]
  refine News.trans (.more fun x b6 b4 => ?_) (.add t1.1)
  obtain ⟨y, hy, hx⟩ := pairsA_all b6 b4
  rcases hx with rfl | rfl
  ·exact h2.1 y hy
  ·exact t2.2 _ (tos_mem.2 ⟨y, hy, rfl⟩)
 ·have c1 := right6 h6 ho
  obtain ⟨x, y, hl⟩ : ∃ x y, t.l = [x, y] := by
   match hm : t.l, c1 with
   | [x, y], _ => exact ⟨x, y, rfl⟩
  rw [bt_loop h9 h8 ho] at h5 h4 hL ⊢
  rw [hl, btL, btL, btL] at h5 h4 hL ⊢
  generalize hr : (s.more 2).add ⟨#[]⟩ [p] [s.places] = r at h5 h4 hL ⊢
  have d0 : r.places = s.places + 2 := by rw [← hr]; rfl
  have b8 : r.trans = s.trans ++ [⟨⟨#[]⟩, [p], [s.places]⟩] := by rw [← hr]; rfl
  have h1 := bt_pre x s.places (s.places + 1) r
  have h2 := bt_pre y (s.places + 1) s.places (bt x s.places (s.places + 1) r)
  have d4 := h1.1.length_le
  have c1 := h2.1.length_le
  have h7 : (bt y (s.places + 1) s.places (bt x s.places (s.places + 1) r)).trans.length ≤ 60 := by simp only [Bd.add, List.length_append, List.length_singleton] at h5; omega
  have hx := hg x (by rw [hl]; simp)
  have hy := hg y (by rw [hl]; simp)
  have b9 := (List.prefix_append _ _).trans hL
  have c0 := h2.1.trans b9
  simp only [Bd.add] at h4
  have t2 := hc (bt y (s.places + 1) s.places (bt x s.places (s.places + 1) r)).trans.length ⟨⟨#[]⟩, [s.places + 1], [q]⟩ (pre_at hL) ⟨q, by simp, ha⟩
  have k1 := hx s.places (s.places + 1) r oM oM L A B c0 hc (t2.2 _ (by simp))
  have k2 := hy (s.places + 1) s.places _ oM oM L A B b9 hc k1.1
  have t1 := hc s.trans.length ⟨⟨#[]⟩, [p], [s.places]⟩ (pre_at (by rw [← b8]; exact h1.1.trans c0)) ⟨_, by simp, k1.1⟩
  refine ⟨t1.2 p (by simp), News.trans (s' := r) ?_ (k1.2.trans (k2.2.trans (.add t2.1)))⟩
  rw [← hr]
  refine News.trans (.more fun z d3 d2 => ?_) (.add t1.1)
  have : z = s.places ∨ z = s.places + 1 := by omega
  rcases this with rfl | rfl
  ·exact k1.1
  ·exact t2.2 _ (by simp)
theorem net_fwd {t : Tree} (h : okT t = true) (hv : validN (netOf t) = true) {A : Int → Prop} {B : Nat → Prop} (hc : Clo (netOf t).trans (·.ins) (·.outs) A B) (ha : A 0) : (∀ x, 0 ≤ x → x < (netOf t).places → A x) ∧ ∀ i, i < (netOf t).trans.length → B i := by
 have hv' := validN_bounds hv
 have := fwd t h 0 1 ⟨2, []⟩ hv'.2 hv'.1 _ A B (List.prefix_refl _) hc ha
 refine ⟨fun x h0 h1 => ?_, fun i hi => this.2.2 i (Nat.zero_le _) hi⟩
 by_cases h2 : 2 ≤ x
 ·exact this.2.1 x h2 h1
 ·have : x = 0 ∨ x = 1 := by omega
  rcases this with rfl | rfl
  ·exact ha
  ·exact (fwd t h 0 1 ⟨2, []⟩ hv'.2 hv'.1 _ A B (List.prefix_refl _) hc ha).1
theorem net_bwd {t : Tree} (h : okT t = true) (hv : validN (netOf t) = true) {A : Int → Prop} {B : Nat → Prop} (hc : Clo (netOf t).trans (·.outs) (·.ins) A B) (ha : A 1) : (∀ x, 0 ≤ x → x < (netOf t).places → A x) ∧ ∀ i, i < (netOf t).trans.length → B i := by
 have hv' := validN_bounds hv
 have := bwd t h 0 1 ⟨2, []⟩ hv'.2 hv'.1 _ A B (List.prefix_refl _) hc ha
 refine ⟨fun x h0 h1 => ?_, fun i hi => this.2.2 i (Nat.zero_le _) hi⟩
 by_cases h2 : 2 ≤ x
 ·exact this.2.1 x h2 h1
 ·have : x = 0 ∨ x = 1 := by omega
  rcases this with rfl | rfl
  ·exact (bwd t h 0 1 ⟨2, []⟩ hv'.2 hv'.1 _ A B (List.prefix_refl _) hc ha).1
  ·exact ha
end Go.Proofs.YtookcfeogbeooaaGreatDoor
