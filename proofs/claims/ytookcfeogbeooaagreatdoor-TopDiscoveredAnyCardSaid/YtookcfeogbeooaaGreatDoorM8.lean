/-
Plain data and plain functions, 3: the net of a tree, nets that are valid. The builder of nets. Plain data and plain functions, 4: nets that are valid. Valid nets; the net of a tree. Plain data and plain functions, 5: markings, firing, words.
Conditions: those that each theorem states.
-/
import Derived.Test.YtookcfeogbeooaaGreatDoorM7
set_option linter.all false
set_option maxRecDepth 100000
set_option maxHeartbeats 8000000
set_option autoImplicit true
set_option relaxedAutoImplicit true
namespace Go.Proofs.YtookcfeogbeooaaGreatDoor
open Go Go.Proofs
section
mutual
def okT : Tree → Bool
 | .mk op act l => rightB (.mk op act l) && okL l
def okL : List Tree → Bool
 | [] => true
 | x :: r => okT x && okL r
end
theorem okT_eq (t : Tree) : okT t = (rightB t && okL t.l) := by cases t; rw [okT]; rfl
theorem okL_mem {l : List Tree} (h : okL l = true) : ∀ x ∈ l, okT x = true := by
 induction l with
 | nil => simp
 | cons y r ih =>
  rw [okL, Bool.and_eq_true] at h
  intro x hx
  rcases List.mem_cons.1 hx with rfl | hx
  ·exact h.1
  ·exact ih h.2 x hx
theorem okT_right {t : Tree} (h : okT t = true) : rightB t = true := by rw [okT_eq, Bool.and_eq_true] at h; exact h.1
theorem okT_mem {t : Tree} (h : okT t = true) : ∀ x ∈ t.l, okT x = true := by rw [okT_eq, Bool.and_eq_true] at h; exact okL_mem h.2
theorem okL_of {l : List Tree} (h : ∀ x ∈ l, okT x = true) : okL l = true := by
 induction l with
 | nil => rfl
 | cons y r ih => rw [okL, Bool.and_eq_true]; exact ⟨h y (by simp), ih fun x hx => h x (by simp [hx])⟩
theorem meas_ok : ∀ (t : Tree) {most depth : Int}, (meas t most depth).isSome = true → okT t = true := by
 refine tree_ind fun t ih => ?_
 intro most depth h
 rw [meas_eq] at h
 split at h
 ·cases h
 ·rename_i hc
  rw [okT_eq, Bool.and_eq_true]
  refine ⟨by simp only [not_or, Bool.not_eq_false] at hc; exact hc.2.2, okL_of ?_⟩
  have k0 : ∀ (l : List Tree) (k : Int), (∀ x ∈ l, x ∈ t.l) → (measL l most depth k).isSome = true → ∀ x ∈ l, okT x = true := by
   intro l
   induction l with
   | nil => intro k _ _ x hx; cases hx
   | cons y r ihl =>
    intro k hm h3 x hx
    rw [measL] at h3
    cases hy : meas y (most - k) (depth + 1) with
    | none => rw [hy] at h3; cases h3
    | some m =>
     rw [hy] at h3
     rcases List.mem_cons.1 hx with rfl | hx
     ·exact ih x (hm x (by simp)) (by rw [hy]; rfl)
     ·exact ihl (k + m) (fun z hz => hm z (by simp [hz])) h3 x hx
  exact k0 t.l 1 (fun x hx => hx) h
theorem meas_size : ∀ (t : Tree) {most depth n : Int}, meas t most depth = some n → (t.size : Int) = n := by
 refine tree_ind fun t ih => ?_
 intro most depth n h
 rw [meas_eq] at h
 split at h
 ·cases h
 ·have k0 : ∀ (l : List Tree) (k : Int), (∀ x ∈ l, x ∈ t.l) → measL l most depth k = some n → k + (sizeL l : Int) = n := by
   intro l
   induction l with
   | nil => intro k _ h3; rw [measL] at h3; cases h3; simp [sizeL]
   | cons y r ihl =>
    intro k hm h3
    rw [measL] at h3
    cases hy : meas y (most - k) (depth + 1) with
    | none => rw [hy] at h3; cases h3
    | some m =>
     rw [hy] at h3
     have h4 := ihl (k + m) (fun z hz => hm z (by simp [hz])) h3
     have h5 := ih y (hm y (by simp)) hy
     rw [sizeL]
     omega
  have := k0 t.l 1 (fun x hx => hx) h
  rw [Tree.size_l]
  omega
theorem validT_ok {t : Tree} (h : validT t = true) : okT t = true := meas_ok t h
theorem validT_size {t : Tree} (h : validT t = true) : t.size ≤ 400 := by
 obtain ⟨n, hn⟩ := Option.isSome_iff_exists.1 h
 have h1 := meas_size t hn
 have h2 := meas_le t hn
 omega
structure Bd where
 places : Int
 trans : List Trans
def seqAt (p q pl : Int) (n i : Nat) : Int := if i = 0 then p else if i = n then q else pl + ((i : Int) - 1)
def pairsS (p q pl : Int) (n : Nat) : List (Int × Int) := (List.range n).map fun i => (seqAt p q pl n i, seqAt p q pl n (i + 1))
def froms (pl : Int) (n : Nat) : LI := (List.range n).map fun (i : Nat) => pl + 2 * (i : Int)
def tos (pl : Int) (n : Nat) : LI := (List.range n).map fun (i : Nat) => pl + 2 * (i : Int) + 1
def pairsA (pl : Int) (n : Nat) : List (Int × Int) := (List.range n).map fun (i : Nat) => (pl + 2 * (i : Int), pl + 2 * (i : Int) + 1)
def Bd.add (s : Bd) (lab : BA) (ins outs : LI) : Bd := ⟨s.places, s.trans ++ [⟨lab, ins, outs⟩]⟩
def Bd.more (s : Bd) (k : Int) : Bd := ⟨s.places + k, s.trans⟩
mutual
def bt : Tree → Int → Int → Bd → Bd
 | .mk op act l, p, q, s =>
  if 60 < s.trans.length ∨ 40 < s.places then s
  else if op = 1 ∨ op = 2 then s.add act [p] [q]
  else if op = 3 then btL l (pairsS p q s.places l.length) (s.more ((l.length - 1 : Nat) : Int))
  else if op = 4 then btL l (List.replicate l.length (p, q)) s
  else if op = 5 then (btL l (pairsA s.places l.length) ((s.more (2 * (l.length : Int))).add ⟨#[]⟩ [p] (froms s.places l.length))).add ⟨#[]⟩ (tos s.places l.length) [q]
  else if op = 6 then (btL l [(s.places, s.places + 1), (s.places + 1, s.places)] ((s.more 2).add ⟨#[]⟩ [p] [s.places])).add ⟨#[]⟩ [s.places + 1] [q]
  else s
def btL : List Tree → List (Int × Int) → Bd → Bd
 | [], _, s => s
 | _ :: _, [], s => s
 | x :: l, (p, q) :: ps, s => btL l ps (bt x p q s)
end
theorem bt_eq (t : Tree) (p q : Int) (s : Bd) : bt t p q s =
  if 60 < s.trans.length ∨ 40 < s.places then s
  else if t.op = 1 ∨ t.op = 2 then s.add t.act [p] [q]
  else if t.op = 3 then btL t.l (pairsS p q s.places t.l.length) (s.more ((t.l.length - 1 : Nat) : Int))
  else if t.op = 4 then btL t.l (List.replicate t.l.length (p, q)) s
  else if t.op = 5 then (btL t.l (pairsA s.places t.l.length) ((s.more (2 * (t.l.length : Int))).add ⟨#[]⟩ [p] (froms s.places t.l.length))).add ⟨#[]⟩ (tos s.places t.l.length) [q]
  else if t.op = 6 then (btL t.l [(s.places, s.places + 1), (s.places + 1, s.places)] ((s.more 2).add ⟨#[]⟩ [p] [s.places])).add ⟨#[]⟩ [s.places + 1] [q]
  else s := by cases t; rw [bt]; rfl
section
variable {t : Tree} {p q : Int} {s : Bd}
theorem bt_full (h : 60 < s.trans.length ∨ 40 < s.places) : bt t p q s = s := by rw [bt_eq, if_pos h]
theorem bt_leaf (h1 : ¬ 60 < s.trans.length) (h2 : ¬ 40 < s.places) (h : t.op = 1 ∨ t.op = 2) : bt t p q s = s.add t.act [p] [q] := by rw [bt_eq, if_neg (by simp [h1, h2]), if_pos h]
theorem bt_seq (h1 : ¬ 60 < s.trans.length) (h2 : ¬ 40 < s.places) (h : t.op = 3) : bt t p q s = btL t.l (pairsS p q s.places t.l.length) (s.more ((t.l.length - 1 : Nat) : Int)) := by rw [bt_eq, if_neg (by simp [h1, h2]), if_neg oM, if_pos h]
theorem bt_xor (h1 : ¬ 60 < s.trans.length) (h2 : ¬ 40 < s.places) (h : t.op = 4) : bt t p q s = btL t.l (List.replicate t.l.length (p, q)) s := by rw [bt_eq, if_neg (by simp [h1, h2]), if_neg oM, if_neg oM, if_pos h]
theorem bt_and (h1 : ¬ 60 < s.trans.length) (h2 : ¬ 40 < s.places) (h : t.op = 5) : bt t p q s = (btL t.l (pairsA s.places t.l.length) ((s.more (2 * (t.l.length : Int))).add ⟨#[]⟩ [p] (froms s.places t.l.length))).add ⟨#[]⟩ (tos s.places t.l.length) [q] := by
 rw [bt_eq, if_neg (by simp [h1, h2]), if_neg oM, if_neg oM, if_neg oM, if_pos h]
theorem bt_loop (h1 : ¬ 60 < s.trans.length) (h2 : ¬ 40 < s.places) (h : t.op = 6) : bt t p q s = (btL t.l [(s.places, s.places + 1), (s.places + 1, s.places)] ((s.more 2).add ⟨#[]⟩ [p] [s.places])).add ⟨#[]⟩ [s.places + 1] [q] := by
 rw [bt_eq, if_neg (by simp [h1, h2]), if_neg oM, if_neg oM, if_neg oM, if_neg oM, if_pos h]
theorem bt_other (h : ¬ t.op = 1) (h' : ¬ t.op = 2) (h3 : ¬ t.op = 3) (h4 : ¬ t.op = 4) (h5 : ¬ t.op = 5) (h6 : ¬ t.op = 6) : bt t p q s = s := by
 rw [bt_eq]
 simp [h, h', h3, h4, h5, h6]
end
theorem btL_next {l : List Tree} {ps : List (Int × Int)} {i : Nat} {p q : Int} (hx : l[i]? = some x) (hp : ps[i]? = some (p, q)) : btL (l.drop i) (ps.drop i) s = btL (l.drop (i + 1)) (ps.drop (i + 1)) (bt x p q s) := by
 obtain ⟨h, rfl⟩ := gE hx
 obtain ⟨h', h2⟩ := gE hp
 rw [List.drop_eq_getElem_cons h, List.drop_eq_getElem_cons h', h2, btL]
theorem btL_end {l : List Tree} {i : Nat} (h : l.length ≤ i) : btL (l.drop i) ps s = s := by rw [List.drop_of_length_le h, btL]
theorem pairsS_at {q pl : Int} {n i : Nat} (h : i < n) : (pairsS p q pl n)[i]? = some (seqAt p q pl n i, seqAt p q pl n (i + 1)) := by simp [pairsS, List.getElem?_map, List.getElem?_range h]
theorem pairsA_at {pl : Int} {n i : Nat} (h : i < n) : (pairsA pl n)[i]? = some (pl + 2 * (i : Int), pl + 2 * (i : Int) + 1) := by simp [pairsA, List.getElem?_map, List.getElem?_range h]
theorem rep_at {p q : Int} {n i : Nat} (h : i < n) : (List.replicate n (p, q))[i]? = some (p, q) := by simp [List.getElem?_replicate, h]
theorem sizeL_drop {l : List Tree} {i : Nat} (hx : l[i]? = some x) : sizeL (l.drop i) = x.size + sizeL (l.drop (i + 1)) := by
 obtain ⟨h, rfl⟩ := gE hx
 rw [List.drop_eq_getElem_cons h, sizeL]
theorem size_pos (t : Tree) : 1 ≤ t.size := by rw [Tree.size_l]; omega
theorem sizeL_len (l : List Tree) : l.length ≤ sizeL l := by
 induction l with
 | nil => simp [sizeL]
 | cons x r ih => have := size_pos x; rw [sizeL, List.length_cons]; omega
theorem right6 {t : Tree} (h : okT t = true) (h6 : t.op = 6) : t.l.length = 2 := by
 have h4 := okT_right h
 simp only [rightB, h6] at h4
 simp at h4
 exact h4.1
theorem right3 {t : Tree} (h : okT t = true) (h3 : t.op = 3 ∨ t.op = 4 ∨ t.op = 5) : 1 ≤ t.l.length := by
 have h4 := okT_right h
 rcases h3 with h3 | h3 | h3 <;> (simp only [rightB, h3] at h4; simp at h4; exact h4.1)
theorem rng_get {α : Type} {f : Nat → α} {i m : Nat} (h : i < m) : ((List.range m).map f)[0 + i * 1]? = some (f i) := by simp [h]
theorem seq_snoc {q pl : Int} {n i : Nat} (h : i + 1 < n) : (List.range (i + 1)).map (fun j => Value.int .i64 (seqAt p q pl n j)) ++ [Value.int .i64 (pl + (i : Int))] = (List.range (i + 1 + 1)).map fun j => Value.int .i64 (seqAt p q pl n j) := by
 rw [List.range_succ (n := i + 1), List.map_append]
 congr 1
 simp only [List.map_cons, List.map_nil, seqAt]
 rw [if_neg oM, if_neg oM]
 congr 2; omega
theorem seq_last {q pl : Int} {n : Nat} (h : 1 ≤ n) : (List.range (n - 1 + 1)).map (fun j => Value.int .i64 (seqAt p q pl n j)) ++ [Value.int .i64 q] = (List.range (n - 1 + 1 + 1)).map fun j => Value.int .i64 (seqAt p q pl n j) := by
 rw [List.range_succ (n := n - 1 + 1), List.map_append]
 congr 1
 simp only [List.map_cons, List.map_nil, seqAt]
 rw [if_neg oM, if_pos oM]
theorem froms_snoc {pl : Int} : (froms pl i).map (fun x => Value.int .i64 x) ++ [Value.int .i64 (pl + 2 * (i : Int))] = (froms pl (i + 1)).map fun x => Value.int .i64 x := by simp [froms, List.range_succ]
theorem tos_snoc {pl : Int} : (tos pl i).map (fun x => Value.int .i64 x) ++ [Value.int .i64 (pl + 2 * (i : Int) + 1)] = (tos pl (i + 1)).map fun x => Value.int .i64 x := by simp [tos, List.range_succ]
theorem froms_at {pl : Int} {n i : Nat} (h : i < n) : (froms pl n)[i]? = some (pl + 2 * (i : Int)) := by simp [froms, h]
theorem tos_at {pl : Int} {n i : Nat} (h : i < n) : (tos pl n)[i]? = some (pl + 2 * (i : Int) + 1) := by simp [tos, h]
theorem list_two {α : Type} {l : List α} {x y : α} (h : l.length = 2) (hx : l[0]? = some x) (hy : l[1]? = some y) : l = [x, y] := by
 match l, h with
 | [a, b], _ => simp at hx hy; subst hx hy; rfl
theorem btL_two {l : List Tree} {a b c d : Int} (h : l.length = 2) (hx : l[0]? = some x) (hy : l[1]? = some y) : btL l [(a, b), (c, d)] s = bt y c d (bt x a b s) := by
 rw [list_two h hx hy, btL, btL, btL]
theorem bt_bound : ∀ (t : Tree) (p q : Int) (s : Bd), 0 ≤ s.places → okT t = true → s.places ≤ (bt t p q s).places ∧ (bt t p q s).places + 2 ≤ s.places + 2 * (t.size : Int) ∧ s.trans.length ≤ (bt t p q s).trans.length ∧ (bt t p q s).trans.length ≤ s.trans.length + 2 * t.size := by
 refine tree_ind fun t ih => ?_
 intro p q s h0 h5
 have k0 : ∀ (l : List Tree) (ps : List (Int × Int)) (r : Bd), (∀ x ∈ l, x ∈ t.l) → 0 ≤ r.places → r.places ≤ (btL l ps r).places ∧ (btL l ps r).places + 2 * (l.length : Int) ≤ r.places + 2 * (sizeL l : Int) ∧ r.trans.length ≤ (btL l ps r).trans.length ∧ (btL l ps r).trans.length ≤ r.trans.length + 2 * sizeL l := by
  intro l
  induction l with
  | nil => intro ps r _ _; simp [btL, sizeL]
  | cons x l ihl =>
   intro ps r hm hr
   cases ps with
   | nil => have := sizeL_len (x :: l); rw [btL]; omega
   | cons pq ps =>
    obtain ⟨a, b⟩ := pq
    rw [btL]
    have h1 := ih x (hm x (by simp)) a b r hr (okT_mem h5 x (hm x (by simp)))
    have h2 := ihl ps (bt x a b r) (fun y hy => hm y (by simp [hy])) oM
    rw [sizeL, List.length_cons]
    omega
 have hlen := sizeL_len t.l
 have h7 := t.size_l
 rw [bt_eq]
 split
 ·omega
 ·split
  ·simp only [Bd.add, List.length_append, List.length_singleton]; omega
  ·split
   ·rename_i h3
    have h4 := okT_right h5
    have hle : 1 ≤ t.l.length := by
     simp only [rightB, h3] at h4
     simp at h4
     exact h4.1
    have := k0 t.l (pairsS p q s.places t.l.length) (s.more ((t.l.length - 1 : Nat) : Int)) (fun x hx => hx) (by simp only [Bd.more]; omega)
    simp only [Bd.more] at this ⊢
    omega
   ·split
    ·have := k0 t.l (List.replicate t.l.length (p, q)) s (fun x hx => hx) h0
     omega
    ·split
     ·have := k0 t.l (pairsA s.places t.l.length) ((s.more (2 * (t.l.length : Int))).add ⟨#[]⟩ [p] (froms s.places t.l.length)) (fun x hx => hx) (by simp only [Bd.more, Bd.add]; omega)
      simp only [Bd.more, Bd.add, List.length_append, List.length_singleton] at this ⊢
      omega
     ·split
      ·rename_i h6
       have h4 := okT_right h5
       have hle : t.l.length = 2 := by
        simp only [rightB, h6] at h4
        simp at h4
        exact h4.1
       have := k0 t.l [(s.places, s.places + 1), (s.places + 1, s.places)] ((s.more 2).add ⟨#[]⟩ [p] [s.places]) (fun x hx => hx) (by simp only [Bd.more, Bd.add]; omega)
       simp only [Bd.more, Bd.add, List.length_append, List.length_singleton] at this ⊢
       omega
      ·omega
end
section
open Go.Proofs.Tryz
attribute [local irreducible] TK Yl OpK AnyT wpList Code.wp
abbrev BO (b : Nat) (s : Bd) (T : OA) (ct : Nat) (cs : LV) (so si : Value) : List HL := [.blk b 72 [.int .i64 s.places, .slice T s.trans.length ct, so, si], .row 76 3 (.slice T s.trans.length ct) s.trans.length cs]
theorem c73 {s : Bd} {lab : BA} (hr : Reps rTrans H s.trans cs) (h1 : Sl rInt H ins A n c) (h2 : Sl rInt H outs B m d) (hb : s.trans.length ≤ 1000000) : Ct PP 73 #[.pointer (ad b), .string lab, .slice A n c, .slice B m d] H (BO b s T ct cs so si) fun v H' O' => ∃ T' ct' cs', O' = BO b (s.add lab ins outs) T' ct' cs' so si ∧ Reps rTrans H (s.add lab ins outs).trans cs' := by
 refine cB func73 ntmps73 fun I hD hI h4 => ?_
 refine g11 ?_
 refine sq rfl (bS [.string lab, .slice A n c, .slice B m d] fun b1 => ?_)
 refine sq rfl (aR 2 fun A2 c3 => ?_)
 refine g3 ?_
 refine sU 1 ?_
 refine TK.nil (TK.keep [1, 2] dC rfl (TK.end0 results73 ?_))
 exact ⟨_, _, _, by simp only [BO, Bd.add, List.length_append, List.length_singleton]; rfl, hr.snoc ⟨_, _, _, _, _, _, rfl, h1, h2⟩⟩
theorem c74 {pl : Int} {x1 so si : Value} (h0 : 0 ≤ pl) (h1 : pl ≤ 10000000) : Ct PP 74 #[.pointer (ad b)] H [.blk b 72 [.int .i64 pl, x1, so, si]] fun v H' O' => O' = [.blk b 72 [.int .i64 (pl + 1), x1, so, si]] ∧ v = .int .i64 pl := by
 refine cB func74 ntmps74 fun I hD hI h4 => ?_
 refine g12b ?_
 intros
 refine g3 ?_
 refine sU 0 ?_
 refine g11a ?_
 intros
 refine rT results74 ?_
 exact ⟨rfl, by congr 1; omega⟩
theorem c33 : ∀ (t : Tree) {H : Ghost} {A : OA} {n c b ct : Nat} {u w : Int} {s : Bd} {T : OA} {cs : LV} {so si : Value} (hok : okT t = true) (hl : Sl rTree H t.l A n c) (hr : Reps rTrans H s.trans cs) (h0 : 0 ≤ s.places) (h1 : s.places + 2 * (t.size : Int) ≤ 1000000) (h2 : s.trans.length + 2 * t.size ≤ 1000000), Ct PP 33 #[.pointer (ad b), .agg #[.int .i64 t.op, .string t.act, .slice A n c], .int .i64 u, .int .i64 w] H (BO b s T ct cs so si) fun v H' O' => ∃ T' ct' cs', O' = BO b (bt t u w s) T' ct' cs' so si ∧ Reps rTrans H' (bt t u w s).trans cs' := by
 refine tree_ind fun t ih => ?_
 intro H A n c b ct u w s T cs so si hok hl hr h0 h1 h2
 obtain rfl := hl.len
 have I2 := hl.2.2.1
 have J7 := t.size_l
 have B0 := sizeL_len t.l
 refine cB func33 ntmps33 fun I hD hI K2 => ?_
 refine g2a ?_
 intros
 refine bG fun b2 => ?_
 refine g12b ?_
 intros
 refine sD 26 ?_ ?_ <;> intro J2
 refine g9 ?_
 refine kP [1, 2] ?_
 refine TK.ret (TK.ret0 results33 ?_)
 first | rw [bt_full oM] | rw [bt_other oM oM oM oM oM oM]
 exact ⟨_, _, _, rfl, hr⟩
 refine g8 ?_
 refine cD ?_ ?_ <;> intro G8
 refine kP [1, 2] ?_
 refine TK.ret (TK.ret0 results33 ?_)
 first | rw [bt_full oM] | rw [bt_other oM oM oM oM oM oM]
 exact ⟨_, _, _, rfl, hr⟩
 refine g13c ?_
 intros
 refine cD ?_ ?_ <;> intro w9
 refine g1 ?_
 refine cD ?_ ?_ <;> intro C8
 refine g5 ?_
 refine sq rfl (bS [.int .i64 u] fun J0 => ?_)
 refine g1 ?_
 refine sq rfl (bS [.int .i64 w] fun I6 => ?_)
 refine tR 1 (repsI [u]) fun I1 r3 k7 => ?_
 have ⟨hl, hr⟩ := mo2 r3 hl hr
 refine tR 0 (repsI [w]) fun G3 l6 s7 => ?_
 have ⟨hl, k7, hr⟩ := mo3 l6 hl k7 hr
 refine sq rfl (fT hD [1, 2] [0] rfl call73 rfl (c73 (s := s) hr k7 s7 (by (try simp only [Bd.add, Bd.more, List.length_append, List.length_singleton]); omega)) ?_)
 rintro J9 I9 ⟨G6, z2, E3, rfl, t2⟩
 refine TK.nil (TK.keep [0, 1] dC rfl (TK.end0 results33 ?_))
 rw [bt_leaf oM oM oM]; exact ⟨_, _, _, rfl, t2⟩
 ·exfalso; first | omega | contradiction
 refine g4 ?_
 refine cD ?_ ?_ <;> intro A7
 refine g5 ?_
 refine sq rfl (bS [.int .i64 u] fun I8 => ?_)
 refine g1 ?_
 refine sq rfl (bS [.int .i64 w] fun G2 => ?_)
 refine tR 1 (repsI [u]) fun J4 l9 j1 => ?_
 have ⟨hl, hr⟩ := mo2 l9 hl hr
 refine tR 0 (repsI [w]) fun G5 o9 s6 => ?_
 have ⟨hl, j1, hr⟩ := mo3 o9 hl j1 hr
 refine sq rfl (fT hD [1, 2] [0] rfl call73 rfl (c73 (s := s) hr j1 s6 (by (try simp only [Bd.add, Bd.more, List.length_append, List.length_singleton]); omega)) ?_)
 rintro K1 J5 ⟨I4, F3, D9, rfl, t4⟩
 refine TK.nil (TK.keep [0, 1] dC rfl (TK.end0 results33 ?_))
 rw [bt_leaf oM oM oM]; exact ⟨_, _, _, rfl, t4⟩
 refine g5a ?_
 intros
 refine cD ?_ ?_ <;> intro z0
 refine g3a ?_
 intros
 refine sq rfl (bS [.int .i64 u] fun w4 => ?_)
 refine g12b ?_
 intros
 have v0 := right3 hok oM
 refine TK.eqO (O' := [.row 3 1 (.slice (ad w4) 1 1) 1 [.int .i64 u], .blk b2 37 [.int .i64 t.op, .string t.act, .slice A t.l.length c], .blk b 72 [.int .i64 (s.places + ((0 : Nat) : Int)), .slice T s.trans.length ct, so, si], .row 76 3 (.slice T s.trans.length ct) s.trans.length cs]) (by simp [BO]) ?_
 refine lp2 (fun D f f1 E H' O m => ∃ (i1 : Nat) (Ap : OA) (cp : Nat), H = H' ∧ (i1 ≤ t.l.length - 1) ∧ m = t.l.length - 1 - i1 ∧ O = [.row 3 1 (.slice Ap (i1 + 1) cp) (i1 + 1) ((List.range (i1 + 1)).map (fun j => Value.int .i64 (seqAt u w s.places t.l.length j))), f, .blk b 72 [.int .i64 (s.places + (i1 : Int)), .slice T s.trans.length ct, so, si], f1] ∧ E = (8, .slice Ap (i1 + 1) cp) :: (55, .int .i64 (i1 : Int)) :: D) [0, 3, 5, 54] [0, 1, 2, 3] ⟨0, some ⟨w4, 0, none⟩, 1, rfl, (Nat.zero_le _), rfl, rfl, rfl⟩ ?_
 rintro _ _ _ _ ⟨i1, Ap, cp, rfl, I3, rfl, rfl, rfl⟩ _ t8
 refine g5b ?_
 intros
 refine cD ?_ ?_ <;> intro C6
 refine g6a ?_
 intros
 refine sq rfl (fT hD [2] [0, 1, 3] rfl call74 rfl (c74 oM oM) ?_)
 rintro I5 I0 ⟨rfl, rfl⟩
 refine sq rfl (bS [.int .i64 (s.places + (i1 : Int))] fun G9 => ?_)
 refine sq rfl (aR 2 fun A2 c61 => ?_)
 refine g5 ?_
 rw [seq_snoc oM, show s.places + (i1 : Int) + 1 = s.places + ((i1 + 1 : Nat) : Int) by omega]
 exact TK.nil (wP [2, 3, 1, 4] [0] 5 (t8 _ _ _ _ ⟨i1 + 1, A2, c61, rfl, oM, rfl, rfl, rfl⟩ oM))
 obtain rfl : i1 = t.l.length - 1 := by omega
 refine g5a ?_
 intros
 refine sq rfl (bS [.int .i64 w] fun y6 => ?_)
 refine sq rfl (aR 1 fun A3 c65 => ?_)
 refine g10a ?_
 intros
 refine TK.eqO (O' := [.row 3 1 (.slice (ad y6) 1 1) 1 [.int .i64 w], .row 3 1 (.slice A3 (((t.l.length - 1 : Nat) + 1) + 1) c65) (((t.l.length - 1 : Nat) + 1) + 1) ((List.range (t.l.length - 1 + 1 + 1)).map (fun j => Value.int .i64 (seqAt u w s.places t.l.length j))), .blk b2 37 [.int .i64 t.op, .string t.act, .slice A t.l.length c], .blk b 72 [.int .i64 (s.places + ((t.l.length - 1 : Nat) : Int)), .slice T s.trans.length ct, so, si], .row 76 3 (.slice T s.trans.length ct) s.trans.length cs]) (by rw [seq_last oM]; rfl) ?_
 refine lp3 (fun D f f1 f2 E H' O m => ∃ (i3 : Nat) (s2 : Bd) (T6 : OA) (i8 : Nat) (k2 : LV), Ghost.le H H' ∧ (i3 ≤ t.l.length) ∧ (Reps rTrans H' s2.trans k2) ∧ (btL t.l (pairsS u w s.places t.l.length) (s.more ((t.l.length - 1 : Nat) : Int)) = btL (t.l.drop i3) ((pairsS u w s.places t.l.length).drop i3) s2) ∧ (0 ≤ s2.places) ∧ (s2.places + 2 * (sizeL (t.l.drop i3) : Int) ≤ 999998 + 2 * ((t.l.length : Int) - (i3 : Int))) ∧ (s2.trans.length + 2 * sizeL (t.l.drop i3) ≤ 999999) ∧ m = t.l.length - i3 ∧ O = [f, f1, f2, .blk b 72 [.int .i64 s2.places, .slice T6 s2.trans.length i8, so, si], .row 76 3 (.slice T6 s2.trans.length i8) s2.trans.length k2] ∧ E = (70, .int .i64 (i3 : Int)) :: D) [0, 8, 68, 69] [0, 1, 2, 3, 4] ⟨0, s.more ((t.l.length - 1 : Nat) : Int), T, ct, cs, Ghost.le.refl _, (Nat.zero_le _), hr, rfl, (by (try simp only [Bd.add, Bd.more]); omega), (by (try simp only [Bd.add, Bd.more, List.length_append, List.length_singleton]); (try simp only [List.drop_zero]); omega), (by (try simp only [Bd.add, Bd.more, List.length_append, List.length_singleton]); (try simp only [List.drop_zero]); omega), rfl, rfl, rfl⟩ ?_
 rintro _ _ _ _ ⟨i3, s2, T6, i8, k2, e9, A5, l7, o8, z5, C4, y3, rfl, rfl, rfl⟩ _ t1
 have ⟨hl, hr⟩ := mo2 e9 hl hr
 refine g5b ?_
 intros
 refine cD ?_ ?_ <;> intro B3
 refine g6b ?_
 intros
 obtain ⟨o4, d8⟩ := eX hl i3
 obtain ⟨G1, J8, E2, D8, t5, n4⟩ := hl.at_ d8
 obtain ⟨I7, K0, c88, rfl, k1⟩ := rTree_dest t5
 refine g2 ?_
 refine aL fun J3 => ?_
 refine g1 ?_
 refine sG 0 ?_
 refine g1 ?_
 refine ts 11 fun _ => ?_
 refine tj 0 ?_
 refine g3 ?_
 refine row_addr (i := 2) rfl oM fun G4 s9 => ?_
 subst s9
 refine tj 4 ?_
 refine tk 5 rfl kR aS nP kS (yLoad1 aC rfl (Mem.row1 (i := 2) rfl (rng_get oM))) rfl rfl rfl ?_
 refine g4 ?_
 refine tk 10 rfl kR aS nP kS (yLoad1 aC rfl (Mem.row1 (i := 2) rfl (rng_get oM))) rfl rfl rfl ?_
 refine g1 ?_
 have d3 := sizeL_drop d8
 have h7 := okT_mem hok o4 (mG d8)
 have e8 := bt_bound o4 (seqAt u w s.places t.l.length i3) (seqAt u w s.places t.l.length (i3 + 1)) s2 (by (try simp only [Bd.add, Bd.more]); omega) h7
 try simp only [Bd.add, Bd.more, List.length_append, List.length_singleton] at e8
 have r9 := size_pos o4
 have e6 := sizeL_len (t.l.drop (i3 + 1))
 rw [List.length_drop] at e6
 try rw [List.drop_zero] at d3
 try rw [Nat.zero_add] at d3
 refine sq rfl (fO hD [4, 5] [0, 1, 2, 3] rfl call33 rfl (ih o4 (mG d8) (s := s2) h7 k1 l7 (by (try simp only [Bd.add, Bd.more]); omega) (by (try simp only [Bd.add, Bd.more]); omega) (by (try simp only [Bd.add, Bd.more, List.length_append, List.length_singleton]); omega)) ?_)
 rintro G7 G0 J6 ⟨B8, t7, t3, rfl, s8⟩ e5
 have ⟨hl, n4, k1⟩ := mo3 e5 hl n4 k1
 refine g4 ?_
 exact TK.nil (wP [3, 4, 5, 0, 1] [2] 6 (t1 _ _ _ _ ⟨i3 + 1, bt o4 (seqAt u w s.places t.l.length i3) (seqAt u w s.places t.l.length (i3 + 1)) s2, B8, t7, t3, (e9.trans e5), oM, s8, (by rw [o8, btL_next d8 (pairsS_at (i := i3) oM)]), oM, oM, oM, rfl, rfl, rfl⟩ oM))
 refine TK.exit (TK.keep [3, 4] dC rfl (TK.end0 results33 ?_))
 rw [bt_seq (t := t) (p := u) (q := w) (s := s) oM oM oM, o8, btL_end oM]; exact ⟨_, _, _, rfl, l7⟩
 refine g5a ?_
 intros
 refine cD ?_ ?_ <;> intro u4
 refine g8a ?_
 intros
 refine lp1 (fun D f E H' O m => ∃ (i5 : Nat) (s3 : Bd) (T2 : OA) (j0 : Nat) (j7 : LV), Ghost.le H H' ∧ (i5 ≤ t.l.length) ∧ (Reps rTrans H' s3.trans j7) ∧ (btL t.l (List.replicate t.l.length (u, w)) (s) = btL (t.l.drop i5) ((List.replicate t.l.length (u, w)).drop i5) s3) ∧ (0 ≤ s3.places) ∧ (s3.places + 2 * (sizeL (t.l.drop i5) : Int) ≤ 999998 + 2 * ((t.l.length : Int) - (i5 : Int))) ∧ (s3.trans.length + 2 * sizeL (t.l.drop i5) ≤ 999999) ∧ m = t.l.length - i5 ∧ O = [f, .blk b 72 [.int .i64 s3.places, .slice T2 s3.trans.length j0, so, si], .row 76 3 (.slice T2 s3.trans.length j0) s3.trans.length j7] ∧ E = (93, .int .i64 (i5 : Int)) :: D) [0, 2, 3, 91, 92] [0, 1, 2] ⟨0, s, T, ct, cs, Ghost.le.refl _, (Nat.zero_le _), hr, rfl, (by (try simp only [Bd.add, Bd.more]); omega), (by (try simp only [Bd.add, Bd.more, List.length_append, List.length_singleton]); (try simp only [List.drop_zero]); omega), (by (try simp only [Bd.add, Bd.more, List.length_append, List.length_singleton]); (try simp only [List.drop_zero]); omega), rfl, rfl, rfl⟩ ?_
 rintro _ _ _ _ ⟨i5, s3, T2, j0, j7, e0, C5, o6, k8, z1, w7, D7, rfl, rfl, rfl⟩ _ n5
 have ⟨hl, hr⟩ := mo2 e0 hl hr
 refine g5b ?_
 intros
 refine cD ?_ ?_ <;> intro v1
 refine g5b ?_
 intros
 obtain ⟨d9, b9⟩ := eX hl i5
 obtain ⟨F6, y9, v2, v5, n7, f9⟩ := hl.at_ b9
 obtain ⟨C3, y4, F8, rfl, d6⟩ := rTree_dest n7
 refine g2 ?_
 refine aL fun F2 => ?_
 refine sG 0 ?_
 refine g6 ?_
 have d3 := sizeL_drop b9
 have h7 := okT_mem hok d9 (mG b9)
 have e8 := bt_bound d9 u w s3 (by (try simp only [Bd.add, Bd.more]); omega) h7
 try simp only [Bd.add, Bd.more, List.length_append, List.length_singleton] at e8
 have r9 := size_pos d9
 have e6 := sizeL_len (t.l.drop (i5 + 1))
 rw [List.length_drop] at e6
 try rw [List.drop_zero] at d3
 try rw [Nat.zero_add] at d3
 refine sq rfl (fO hD [2, 3] [0, 1] rfl call33 rfl (ih d9 (mG b9) (s := s3) h7 d6 o6 (by (try simp only [Bd.add, Bd.more]); omega) (by (try simp only [Bd.add, Bd.more]); omega) (by (try simp only [Bd.add, Bd.more, List.length_append, List.length_singleton]); omega)) ?_)
 rintro C0 H3 E7 ⟨T3, r1, l0, rfl, n3⟩ e1
 have ⟨hl, f9, d6⟩ := mo3 e1 hl f9 d6
 refine g4 ?_
 exact TK.nil (wP [3, 0, 1] [2] 4 (n5 _ _ _ _ ⟨i5 + 1, bt d9 u w s3, T3, r1, l0, (e0.trans e1), oM, n3, (by rw [k8, btL_next b9 (rep_at (i := i5) oM)]), oM, oM, oM, rfl, rfl, rfl⟩ oM))
 refine TK.exit (TK.keep [1, 2] dC rfl (TK.end0 results33 ?_))
 rw [bt_xor (t := t) (p := u) (q := w) (s := s) oM oM oM, k8, btL_end oM]; exact ⟨_, _, _, rfl, o6⟩
 refine g5a ?_
 intros
 refine cD ?_ ?_ <;> intro u5
 refine g14c ?_
 intros
 refine newRow 3 1 ?_
 refine newRow 3 1 ?_
 refine TK.eqO (O' := [.row 3 1 (.slice none 0 0) 0 [], .row 3 1 (.slice none 0 0) 0 [], .blk b2 37 [.int .i64 t.op, .string t.act, .slice A t.l.length c], .blk b 72 [.int .i64 (s.places + 2 * ((0 : Nat) : Int)), .slice T s.trans.length ct, so, si], .row 76 3 (.slice T s.trans.length ct) s.trans.length cs]) (by simp [BO]) ?_
 refine lp2 (fun D f f1 E H' O m => ∃ (i7 : Nat) (Af : OA) (cf : Nat) (At : OA) (t6 : Nat), H = H' ∧ (i7 ≤ t.l.length) ∧ m = t.l.length - i7 ∧ O = [.row 3 1 (.slice At i7 t6) i7 ((tos s.places i7).map fun x => Value.int .i64 x), .row 3 1 (.slice Af i7 cf) i7 ((froms s.places i7).map fun x => Value.int .i64 x), f, .blk b 72 [.int .i64 (s.places + 2 * (i7 : Int)), .slice T s.trans.length ct, so, si], f1] ∧ E = (13, .slice Af i7 cf) :: (14, .slice At i7 t6) :: (108, .int .i64 (i7 : Int)) :: D) [0, 2, 3, 5, 107] [0, 1, 2, 3, 4] ⟨0, none, 0, none, 0, rfl, (Nat.zero_le _), rfl, rfl, rfl⟩ ?_
 rintro _ _ _ _ ⟨i7, Af, cf, At, t6, rfl, J1, rfl, rfl, rfl⟩ _ l5
 refine g5b ?_
 intros
 refine cD ?_ ?_ <;> intro u1
 refine g7b ?_
 intros
 refine sq rfl (fT hD [3] [0, 1, 2, 4] rfl call74 rfl (c74 oM oM) ?_)
 rintro C2 O6 ⟨rfl, rfl⟩
 refine sq rfl (bS [.int .i64 (s.places + 2 * (i7 : Int))] fun z6 => ?_)
 refine sq rfl (aR 3 fun A1 c157 => ?_)
 refine g5 ?_
 refine sq rfl (fT hD [1] [0, 2, 3, 4, 5] rfl call74 rfl (c74 oM oM) ?_)
 rintro E4 F7 ⟨rfl, rfl⟩
 refine sq rfl (bS [.int .i64 ((s.places + 2 * (i7 : Int)) + 1)] fun B6 => ?_)
 refine sq rfl (aR 3 fun A0 c162 => ?_)
 refine g5 ?_
 rw [froms_snoc, tos_snoc, show s.places + 2 * (i7 : Int) + 1 + 1 = s.places + 2 * ((i7 + 1 : Nat) : Int) by omega]
 exact TK.nil (wP [3, 4, 5, 1, 6] [0, 2] 7 (l5 _ _ _ _ ⟨i7 + 1, A1, c157, A0, c162, rfl, oM, rfl, rfl, rfl⟩ oM))
 obtain rfl : i7 = t.l.length := by omega
 refine g5a ?_
 intros
 refine sq rfl (bS [.int .i64 u] fun z8 => ?_)
 refine g1 ?_
 refine tR 0 (repsI [u]) fun H7 j9 b6 => ?_
 have ⟨hl, hr⟩ := mo2 j9 hl hr
 refine tR 1 (r := rInt) (ys := froms s.places t.l.length) (repsI _) fun H4 j3 h5 => ?_
 have ⟨b6, hl, hr⟩ := mo3 j3 b6 hl hr
 refine sq rfl (fT hD [2, 3] [0, 1] rfl call73 rfl (c73 (s := s.more (2 * (t.l.length : Int))) hr b6 h5 (by (try simp only [Bd.add, Bd.more, List.length_append, List.length_singleton]); omega)) ?_)
 rintro A6 O9 ⟨T5, n0, r0, rfl, d0⟩
 refine g10b ?_
 intros
 refine tR 2 (r := rInt) (ys := tos s.places t.l.length) (repsI _) fun H0 j8 b4 => ?_
 have ⟨h5, b6, hl, d0⟩ := mo4 j8 h5 b6 hl d0
 refine lp1 (fun D f E H O m => ∃ (i9 : Nat) (s0 : Bd) (T4 : OA) (j6 : Nat) (j4 : LV), Ghost.le H0 H ∧ (i9 ≤ t.l.length) ∧ (Reps rTrans H s0.trans j4) ∧ (btL t.l (pairsA s.places t.l.length) ((s.more (2 * (t.l.length : Int))).add ⟨#[]⟩ [u] (froms s.places t.l.length)) = btL (t.l.drop i9) ((pairsA s.places t.l.length).drop i9) s0) ∧ (0 ≤ s0.places) ∧ (s0.places + 2 * (sizeL (t.l.drop i9) : Int) ≤ 999998 + 2 * ((t.l.length : Int) - (i9 : Int))) ∧ (s0.trans.length + 2 * sizeL (t.l.drop i9) ≤ 999999) ∧ m = t.l.length - i9 ∧ O = [.blk b 72 [.int .i64 s0.places, .slice T4 s0.trans.length j6, so, si], .row 76 3 (.slice T4 s0.trans.length j6) s0.trans.length j4, f] ∧ E = (129, .int .i64 (i9 : Int)) :: D) [0, 3, 13, 14, 127, 128] [0, 1, 2] ⟨0, (s.more (2 * (t.l.length : Int))).add ⟨#[]⟩ [u] (froms s.places t.l.length), T5, n0, r0, Ghost.le.refl _, (Nat.zero_le _), d0, rfl, (by (try simp only [Bd.add, Bd.more]); omega), (by (try simp only [Bd.add, Bd.more, List.length_append, List.length_singleton]); (try simp only [List.drop_zero]); omega), (by (try simp only [Bd.add, Bd.more, List.length_append, List.length_singleton]); (try simp only [List.drop_zero]); omega), rfl, rfl, rfl⟩ ?_
 rintro _ _ _ _ ⟨i9, s0, T4, j6, j4, d7, w8, e7, l4, y5, z9, F9, rfl, rfl, rfl⟩ _ r4
 have ⟨h5, b4, b6, hl, d0⟩ := mo5 d7 h5 b4 b6 hl d0
 refine g5b ?_
 intros
 refine cD ?_ ?_ <;> intro w2
 refine g6b ?_
 intros
 obtain ⟨d5, c1⟩ := eX hl i9
 obtain ⟨F1, D2, u6, v3, o5, i4⟩ := hl.at_ c1
 obtain ⟨B4, A9, D0, rfl, e4⟩ := rTree_dest o5
 refine g2 ?_
 refine aL fun C7 => ?_
 refine g1 ?_
 refine sG 0 ?_
 refine g1 ?_
 refine ts 10 fun _ => ?_
 refine tj 0 ?_
 refine g3 ?_
 have r7 := (froms_at (pl := s.places) (n := t.l.length) (i := i9) oM)
 obtain ⟨y7, B5, u7, i6⟩ := h5.atI r7
 refine g4 ?_
 have l1 := (tos_at (pl := s.places) (n := t.l.length) (i := i9) oM)
 obtain ⟨C9, E1, w6, f8⟩ := b4.atI l1
 refine g3 ?_
 have d3 := sizeL_drop c1
 have h7 := okT_mem hok d5 (mG c1)
 have e8 := bt_bound d5 (s.places + 2 * (i9 : Int)) (s.places + 2 * (i9 : Int) + 1) s0 (by (try simp only [Bd.add, Bd.more]); omega) h7
 try simp only [Bd.add, Bd.more, List.length_append, List.length_singleton] at e8
 have r9 := size_pos d5
 have e6 := sizeL_len (t.l.drop (i9 + 1))
 rw [List.length_drop] at e6
 try rw [List.drop_zero] at d3
 try rw [Nat.zero_add] at d3
 refine sq rfl (fO hD [1, 2] [0, 3] rfl call33 rfl (ih d5 (mG c1) (s := s0) h7 e4 e7 (by (try simp only [Bd.add, Bd.more]); omega) (by (try simp only [Bd.add, Bd.more]); omega) (by (try simp only [Bd.add, Bd.more, List.length_append, List.length_singleton]); omega)) ?_)
 rintro z3 H5 O1 ⟨T1, n2, r5, rfl, n9⟩ d4
 have ⟨h5, b4, hl, i4, e4, i6, f8⟩ := mo7 d4 h5 b4 hl i4 e4 i6 f8
 refine g4 ?_
 exact nK r4 ⟨i9 + 1, bt d5 (s.places + 2 * (i9 : Int)) (s.places + 2 * (i9 : Int) + 1) s0, T1, n2, r5, (d7.trans d4), oM, n9, (by rw [l4, btL_next c1 (pairsA_at (i := i9) oM)]), oM, oM, oM, rfl, rfl, rfl⟩
 refine g5 ?_
 refine sq rfl (bS [.int .i64 w] fun F4 => ?_)
 refine tR 0 (repsI [w]) fun H8 j2 k9 => ?_
 have ⟨h5, b4, hl, e7⟩ := mo4 j2 h5 b4 hl e7
 refine sq rfl (fT hD [0, 1] [2] rfl call73 rfl (c73 (s := s0) e7 b4 k9 (by (try simp only [Bd.add, Bd.more, List.length_append, List.length_singleton]); omega)) ?_)
 rintro y1 O7 ⟨T7, v6, v7, rfl, r6⟩
 refine TK.nil (TK.keep [0, 1] dC rfl (TK.end0 results33 ?_))
 rw [bt_and (t := t) (p := u) (q := w) (s := s) oM oM oM, l4, btL_end oM]; exact ⟨_, _, _, rfl, r6⟩
 refine g5a ?_
 intros
 refine cD ?_ ?_ <;> intro l8
 have o7 := right6 hok l8
 refine g3a ?_
 intros
 refine sq rfl (fT hD [1] [0, 2] rfl call74 rfl (c74 oM oM) ?_)
 rintro z4 O8 ⟨rfl, rfl⟩
 refine g1 ?_
 refine sq rfl (fT hD [0] [1, 2] rfl call74 rfl (c74 oM oM) ?_)
 rintro B2 O4 ⟨rfl, rfl⟩
 refine g7a ?_
 intros
 refine sq rfl (bS [.int .i64 u] fun s5 => ?_)
 refine g1 ?_
 refine sq rfl (bS [.int .i64 s.places] fun s4 => ?_)
 refine TK.eqO (O' := [.row 3 1 (.slice (ad s4) 1 1) 1 [.int .i64 s.places], .row 3 1 (.slice (ad s5) 1 1) 1 [.int .i64 u], .blk b 72 [.int .i64 (s.places + 2), .slice T s.trans.length ct, so, si], .blk b2 37 [.int .i64 t.op, .string t.act, .slice A t.l.length c], .row 76 3 (.slice T s.trans.length ct) s.trans.length cs]) (by rw [show s.places + 1 + 1 = s.places + 2 by omega]; rfl) ?_
 refine tR 1 (repsI [u]) fun H6 k0 h4 => ?_
 have ⟨hl, hr⟩ := mo2 k0 hl hr
 refine tR 0 (repsI [s.places]) fun E6 k6 h8 => ?_
 have ⟨hl, h4, hr⟩ := mo3 k6 hl h4 hr
 refine sq rfl (fT hD [0, 2] [1] rfl call73 rfl (c73 (s := s.more 2) hr h4 h8 (by (try simp only [Bd.add, Bd.more, List.length_append, List.length_singleton]); omega)) ?_)
 rintro B7 O5 ⟨D5, w3, w5, rfl, r8⟩
 refine g6a ?_
 intros
 obtain ⟨d2, c0⟩ := eX hl 0
 obtain ⟨A4, C1, t9, v9, l3, h9⟩ := hl.at_ c0
 obtain ⟨D4, y0, D1, rfl, h6⟩ := rTree_dest l3
 refine g4 ?_
 have d3 := sizeL_drop c0
 have h7 := okT_mem hok d2 (mG c0)
 have e8 := bt_bound d2 s.places (s.places + 1) ((s.more 2).add ⟨#[]⟩ [u] [s.places]) (by (try simp only [Bd.add, Bd.more]); omega) h7
 try simp only [Bd.add, Bd.more, List.length_append, List.length_singleton] at e8
 have r9 := size_pos d2
 have e6 := sizeL_len (t.l.drop (0 + 1))
 rw [List.length_drop] at e6
 try rw [List.drop_zero] at d3
 try rw [Nat.zero_add] at d3
 refine sq rfl (fO hD [0, 1] [2] rfl call33 rfl (ih d2 (mG c0) (s := (s.more 2).add ⟨#[]⟩ [u] [s.places]) h7 h6 r8 (by (try simp only [Bd.add, Bd.more]); omega) (by (try simp only [Bd.add, Bd.more]); omega) (by (try simp only [Bd.add, Bd.more, List.length_append, List.length_singleton]); omega)) ?_)
 rintro F5 H9 O3 ⟨T8, u2, v4, rfl, n6⟩ k4
 have ⟨hl, h4, h8, h9, h6⟩ := mo5 k4 hl h4 h8 h9 h6
 refine g6a ?_
 intros
 obtain ⟨e2, b8⟩ := eX hl 1
 obtain ⟨E5, A8, u3, u0, n1, b7⟩ := hl.at_ b8
 obtain ⟨D3, y2, y8, rfl, b5⟩ := rTree_dest n1
 refine g4 ?_
 have d3 := sizeL_drop b8
 have h7 := okT_mem hok e2 (mG b8)
 have e8 := bt_bound e2 (s.places + 1) s.places (bt d2 s.places (s.places + 1) ((s.more 2).add ⟨#[]⟩ [u] [s.places])) (by (try simp only [Bd.add, Bd.more]); omega) h7
 try simp only [Bd.add, Bd.more, List.length_append, List.length_singleton] at e8
 have r9 := size_pos e2
 have e6 := sizeL_len (t.l.drop (1 + 1))
 rw [List.length_drop] at e6
 try rw [List.drop_zero] at d3
 try rw [Nat.zero_add] at d3
 refine sq rfl (fO hD [0, 1] [2] rfl call33 rfl (ih e2 (mG b8) (s := bt d2 s.places (s.places + 1) ((s.more 2).add ⟨#[]⟩ [u] [s.places])) h7 b5 n6 (by (try simp only [Bd.add, Bd.more]); omega) (by (try simp only [Bd.add, Bd.more]); omega) (by (try simp only [Bd.add, Bd.more, List.length_append, List.length_singleton]); omega)) ?_)
 rintro B9 H1 O2 ⟨T9, w0, w1, rfl, d1⟩ j5
 have ⟨hl, h4, h8, h9, h6, b7, b5⟩ := mo7 j5 hl h4 h8 h9 h6 b7 b5
 refine g4 ?_
 refine sq rfl (bS [.int .i64 (s.places + 1)] fun z7 => ?_)
 refine g1 ?_
 refine sq rfl (bS [.int .i64 w] fun B1 => ?_)
 refine tR 1 (repsI [s.places + 1]) fun F0 k3 e3 => ?_
 have ⟨hl, h4, h8, h9, h6, b7, b5, d1⟩ := mo8 k3 hl h4 h8 h9 h6 b7 b5 d1
 refine tR 0 (repsI [w]) fun H2 k5 n8 => ?_
 have ⟨hl, h4, h8, h9, h6, b7, b5, e3, d1⟩ := mo9 k5 hl h4 h8 h9 h6 b7 b5 e3 d1
 refine sq rfl (fT hD [0, 1] [2] rfl call73 rfl (c73 (s := bt e2 (s.places + 1) s.places (bt d2 s.places (s.places + 1) ((s.more 2).add ⟨#[]⟩ [u] [s.places]))) d1 e3 n8 (by (try simp only [Bd.add, Bd.more, List.length_append, List.length_singleton]); omega)) ?_)
 rintro E8 E9 ⟨D6, v8, u9, rfl, l2⟩
 refine TK.nil (TK.keep [0, 1] dC rfl (TK.end0 results33 ?_))
 rw [bt_loop (t := t) (p := u) (q := w) (s := s) oM oM oM, btL_two o7 c0 b8]; exact ⟨_, _, _, rfl, l2⟩
 refine TK.skip (TK.keep [1, 2] dC rfl (TK.end0 results33 ?_))
 first | rw [bt_full oM] | rw [bt_other oM oM oM oM oM oM]
 exact ⟨_, _, _, rfl, hr⟩
end
def ascI : LI → Bool
 | [] => true
 | [_] => true
 | x :: y :: r => decide (x < y) && ascI (y :: r)
theorem ascI_iff {l : LI} : ascI l = true ↔ ∀ (j : Nat) (x y : Int), l[j]? = some x → l[j + 1]? = some y → x < y := by
 induction l with
 | nil => simp [ascI]
 | cons a r ih =>
  cases r with
  | nil => simp [ascI]
  | cons b r =>
   simp only [ascI, Bool.and_eq_true, decide_eq_true_eq, ih]
   constructor
   ·rintro ⟨h1, h2⟩ j x y hx hy
    cases j with
    | zero => simp at hx hy; subst hx hy; exact h1
    | succ j => exact h2 j x y (by simpa using hx) (by simpa using hy)
   ·intro h
    exact ⟨h 0 a b rfl rfl, fun j x y hx hy => h (j + 1) x y (by simpa using hx) (by simpa using hy)⟩
def placesB (pl : Int) (l : LI) : Bool := (l.all fun x => decide (0 ≤ x ∧ x < pl)) && ascI l
theorem placesB_out {pl : Int} {l : LI} {i : Nat} (hx : l[i]? = some x) (h : x < 0 ∨ pl ≤ x) : placesB pl l = false := by
 have : (l.all fun x => decide (0 ≤ x ∧ x < pl)) = false := List.all_eq_false.2 ⟨x, mG hx, by simp; omega⟩
 unfold placesB; rw [this]; rfl
theorem placesB_asc {pl : Int} {l : LI} {i : Nat} (hx : l[i]? = some x) (hy : l[i + 1]? = some y) (h : ¬ x < y) : placesB pl l = false := by
 have : ascI l = false := by
  rw [Bool.eq_false_iff]
  intro h2
  exact h (ascI_iff.1 h2 i x y hx hy)
 unfold placesB; rw [this]; simp
theorem placesB_of {pl : Int} {l : LI} (h1 : ∀ (j : Nat) (x : Int), l[j]? = some x → 0 ≤ x ∧ x < pl) (h3 : ∀ (j : Nat) (x y : Int), l[j]? = some x → l[j + 1]? = some y → x < y) : placesB pl l = true := by
 unfold placesB
 have e2 : (l.all fun x => decide (0 ≤ x ∧ x < pl)) = true := List.all_eq_true.2 fun x hx => by obtain ⟨i, hi⟩ := List.getElem?_of_mem hx; exact decide_eq_true (h1 i x hi)
 rw [e2, ascI_iff.2 h3]; rfl
theorem ascI_succ {l : LI} {i : Nat} (h : ∀ (j : Nat) (x y : Int), j + 1 < i → l[j]? = some x → l[j + 1]? = some y → x < y) (h2 : ∀ x y : Int, 0 < i → l[i - 1]? = some x → l[i]? = some y → x < y) :
  ∀ (j : Nat) (x y : Int), j + 1 < i + 1 → l[j]? = some x → l[j + 1]? = some y → x < y := by
 intro j x y hj hx hy
 rcases Nat.lt_or_ge (j + 1) i with h4 | h4
 ·exact h j x y h4 hx hy
 ·obtain rfl : i = j + 1 := by omega
  exact h2 x y oM (by simpa using hx) hy
def okTr (pl : Int) (t : Trans) : Bool := (decide (t.label = ⟨#[]⟩) || isName t.label) && placesB pl t.ins && placesB pl t.outs
def validN (n : Net) : Bool := decide (1 ≤ n.places ∧ n.places ≤ 40) && decide (n.trans.length ≤ 60) && n.trans.all (okTr n.places) && placesB n.places [n.source] && placesB n.places [n.sink]
theorem validN_size {n : Net} (h : n.places < 1 ∨ 40 < n.places ∨ 60 < n.trans.length) : validN n = false := by
 unfold validN
 rcases h with h | h | h
 ·rw [show decide (1 ≤ n.places ∧ n.places ≤ 40) = false from decide_eq_false oM]; simp
 ·rw [show decide (1 ≤ n.places ∧ n.places ≤ 40) = false from decide_eq_false oM]; simp
 ·rw [show decide (n.trans.length ≤ 60) = false from decide_eq_false oM]; simp
theorem validN_tr {n : Net} {i : Nat} (hx : n.trans[i]? = some x) (h : okTr n.places x = false) : validN n = false := by
 have : n.trans.all (okTr n.places) = false := List.all_eq_false.2 ⟨x, mG hx, by rw [h]; simp⟩
 unfold validN; rw [this]; simp
theorem validN_go {n : Net} (h1 : 1 ≤ n.places) (h2 : n.places ≤ 40) (h3 : n.trans.length ≤ 60) (h4 : ∀ (j : Nat) (x : Trans), n.trans[j]? = some x → okTr n.places x = true) : validN n = (placesB n.places [n.source] && placesB n.places [n.sink]) := by
 have e2 : n.trans.all (okTr n.places) = true := List.all_eq_true.2 fun x hx => by obtain ⟨i, hi⟩ := List.getElem?_of_mem hx; exact h4 i x hi
 unfold validN; rw [e2, decide_eq_true (And.intro h1 h2), decide_eq_true h3]; rfl
def zeroNet : Net := ⟨0, [], 0, 0⟩
def finN (n : Net) : Net × Int := if validN n = true then (n, 0) else (zeroNet, 5)
def netOf (t : Tree) : Net := ⟨(bt t 0 1 ⟨2, []⟩).places, (bt t 0 1 ⟨2, []⟩).trans, 0, 1⟩
def fromT (t : Tree) : Net × Int := if validT t = true then finN (netOf t) else (zeroNet, 1)
section
open Go.Proofs.Tryz
attribute [local irreducible] TK Yl OpK AnyT wpList Code.wp
theorem c75 {pl : Int} {x1 x2 x3 : Value} {l : LI} (hl : Sl rInt H l A n c) : Ct PP 75 #[.agg #[.int .i64 pl, x1, x2, x3], .slice A n c] H [] fun v H' O' => O' = [] ∧ v = .bool (placesB pl l) := by
 have hn := hl.2.2.1
 refine cB func75 ntmps75 fun I hD hI d2 => ?_
 refine g2a ?_
 intros
 refine bG fun b2 => ?_
 refine g10b ?_
 intros
 refine lp1 (fun D f E H' O m => ∃ (i : Nat), H = H' ∧ (i ≤ n) ∧ (∀ (j : Nat) (x : Int), j < i → l[j]? = some x → 0 ≤ x ∧ x < pl) ∧ (∀ (j : Nat) (x y : Int), j + 1 < i → l[j]? = some x → l[j + 1]? = some y → x < y) ∧ m = n - i ∧ O = [f] ∧ E = (9, .int .i64 (i : Int)) :: D) [1, 2, 7, 8] [0] ⟨0, rfl, Nat.zero_le _, upto_zero, (fun j _ _ hj => absurd hj oM), rfl, rfl, rfl⟩ ?_
 rintro _ _ _ _ ⟨i, rfl, hi, hp, hq, rfl, rfl, rfl⟩ _ h6
 refine g5b ?_
 intros
 refine cD ?_ ?_ <;> intro b8
 refine g6b ?_
 intros
 obtain ⟨c1, h4⟩ := eX hl i
 obtain ⟨d1, o4, b7, h8⟩ := hl.atI h4
 refine g10a ?_
 intros
 refine sD 16 ?_ ?_ <;> intro h9
 refine g18 ?_
 refine g6a ?_
 intros
 refine kP [] ?_
 refine rT results75 ?_
 exact ⟨rfl, congrArg Value.bool (placesB_out h4 oM).symm⟩
 refine g6 ?_
 refine sD 22 ?_ ?_ <;> intro b9
 refine g18a ?_
 intros
 refine kP [] ?_
 refine rT results75 ?_
 exact ⟨rfl, congrArg Value.bool (placesB_out h4 oM).symm⟩
 refine g3 ?_
 refine sD 25 ?_ ?_ <;> intro h7
 refine g3 ?_
 obtain ⟨d0, h5⟩ := Sl.ex hl (i := ((i : Int) - 1 : Int).toNat) oM
 obtain ⟨c0, o5, b6, b5⟩ := hl.atI h5
 refine g7 ?_
 refine cD ?_ ?_ <;> intro b4
 refine g4a ?_
 intros
 refine kP [] ?_
 refine rT results75 ?_
 exact ⟨rfl, congrArg Value.bool (placesB_asc (i := i - 1) (by rw [show i - 1 = ((i : Int) - 1).toNat by omega]; exact h5) (by rw [show i - 1 + 1 = i by omega]; exact h4) oM).symm⟩
 refine g4 ?_
 exact nK h6 ⟨i + 1, rfl, oM, (upto_succ hp h4 oM), (ascI_succ hq (fun a b _ h1 h2 => by rw [show i - 1 = ((i : Int) - 1).toNat by omega, h5] at h1; rw [h4] at h2; cases h1; cases h2; omega)), rfl, rfl, rfl⟩
 refine g15 ?_
 exact nK h6 ⟨i + 1, rfl, oM, (upto_succ hp h4 oM), (ascI_succ hq (fun a b h0 => absurd h0 oM)), rfl, rfl, rfl⟩
 refine g5a ?_
 intros
 refine kP [] ?_
 refine rT results75 ?_
 exact ⟨rfl, congrArg Value.bool (placesB_of (upto_all hp (by rw [hl.len]; omega)) (fun j x y hx hy => hq j x y (by have := (gE hy).1; have := hl.len; omega) hx hy)).symm⟩
theorem c35 {x : Net} (hl : Sl rTrans H x.trans A n c) : Ct PP 35 #[.agg #[.int .i64 x.places, .slice A n c, .int .i64 x.source, .int .i64 x.sink]] H [] fun v H' O' => O' = [] ∧ v = .bool (validN x) := by
 have hn := hl.2.2.1
 refine cB func35 ntmps35 fun I hD hI e3 => ?_
 refine g2a ?_
 intros
 refine bG fun b2 => ?_
 refine g9b ?_
 intros
 refine sD 8 ?_ ?_ <;> intro d7
 refine g12 ?_
 refine g4a ?_
 intros
 refine kP [] ?_
 refine rT results35 ?_
 exact ⟨rfl, congrArg Value.bool (validN_size (by have := hl.len; omega)).symm⟩
 refine g5 ?_
 refine sD 13 ?_ ?_ <;> intro e0
 refine g11a ?_
 intros
 refine kP [] ?_
 refine rT results35 ?_
 exact ⟨rfl, congrArg Value.bool (validN_size (by have := hl.len; omega)).symm⟩
 refine g6 ?_
 refine cD ?_ ?_ <;> intro e1
 refine g4a ?_
 intros
 refine kP [] ?_
 refine rT results35 ?_
 exact ⟨rfl, congrArg Value.bool (validN_size (by have := hl.len; omega)).symm⟩
 refine g10b ?_
 intros
 refine lp1 (fun D f E H' O m => ∃ (i : Nat), H = H' ∧ (i ≤ n) ∧ (∀ (j : Nat) (y : Trans), j < i → x.trans[j]? = some y → okTr x.places y = true) ∧ m = n - i ∧ O = [f] ∧ E = (22, .int .i64 (i : Int)) :: D) [1, 20, 21] [0] ⟨0, rfl, Nat.zero_le _, upto_zero, rfl, rfl, rfl⟩ ?_
 rintro _ _ _ _ ⟨i, rfl, hi, hp, rfl, rfl, rfl⟩ _ h8
 refine g5b ?_
 intros
 refine cD ?_ ?_ <;> intro c0
 refine g5b ?_
 intros
 obtain ⟨d8, h4⟩ := eX hl i
 obtain ⟨e2, o4, d1, d3, b5, b7⟩ := hl.at_ h4
 obtain ⟨A0, n1, c34, A1, n0, c38, rfl, h7, h6⟩ := b5
 refine g2 ?_
 refine aL fun d6 => ?_
 refine sG 0 ?_
 refine g7a ?_
 intros
 refine sB 29 ?_ ?_ <;> intro d5
 refine g2 ?_
 refine sqY rfl rfl rfl rfl (fS hD rfl call51 rfl c51 ?_)
 rintro v1 rfl
 refine g3 ?_
 refine sB 35 ?_ ?_ <;> intro c1
 refine g18a ?_
 intros
 refine g1 ?_
 refine kP [] ?_
 refine rT results35 ?_
 exact ⟨rfl, congrArg Value.bool (validN_tr h4 (by simp_all [okTr])).symm⟩
 refine g3 ?_
 refine sqY rfl rfl rfl rfl (fS hD rfl call75 rfl (c75 h7) ?_)
 rintro v4 rfl
 refine g3 ?_
 refine sB 42 ?_ ?_ <;> intro d2
 refine g12a ?_
 intros
 refine kP [] ?_
 refine rT results35 ?_
 exact ⟨rfl, congrArg Value.bool (validN_tr h4 (by simp_all [okTr])).symm⟩
 refine g3 ?_
 refine sqY rfl rfl rfl rfl (fS hD rfl call75 rfl (c75 h6) ?_)
 rintro v2 rfl
 refine g3 ?_
 refine cN ?_ ?_ <;> intro d0
 refine g4a ?_
 intros
 refine kP [] ?_
 refine rT results35 ?_
 exact ⟨rfl, congrArg Value.bool (validN_tr h4 (by simp_all [okTr])).symm⟩
 refine g4 ?_
 exact nK h8 ⟨i + 1, rfl, oM, (upto_succ hp h4 (by simp_all [okTr])), rfl, rfl, rfl⟩
 refine g9 ?_
 refine sqY rfl rfl rfl rfl (fS hD rfl call75 rfl (c75 h7) ?_)
 rintro v6 rfl
 refine g3 ?_
 refine sB 42 ?_ ?_ <;> intro b9
 refine g12a ?_
 intros
 refine kP [] ?_
 refine rT results35 ?_
 exact ⟨rfl, congrArg Value.bool (validN_tr h4 (by simp_all [okTr])).symm⟩
 refine g3 ?_
 refine sqY rfl rfl rfl rfl (fS hD rfl call75 rfl (c75 h6) ?_)
 rintro v3 rfl
 refine g3 ?_
 refine cN ?_ ?_ <;> intro d4
 refine g4a ?_
 intros
 refine kP [] ?_
 refine rT results35 ?_
 exact ⟨rfl, congrArg Value.bool (validN_tr h4 (by simp_all [okTr])).symm⟩
 refine g4 ?_
 exact nK h8 ⟨i + 1, rfl, oM, (upto_succ hp h4 (by simp_all [okTr])), rfl, rfl, rfl⟩
 refine g6a ?_
 intros
 refine sq rfl (bS [.int .i64 x.source] fun e4 => ?_)
 refine tR 0 (repsI [x.source]) fun H1 h9 h5 => ?_
 have hl := hl.mono h9
 refine sq rfl (fS hD rfl call75 rfl (c75 h5) ?_)
 rintro v5 rfl
 refine g1 ?_
 refine sB 55 ?_ ?_ <;> intro b8
 refine g3 ?_
 refine sqY rfl rfl rfl rfl (bS [.int .i64 x.sink] fun d9 => ?_)
 refine tR 0 (repsI [x.sink]) fun H0 b4 b6 => ?_
 have ⟨hl, h5⟩ := mo2 b4 hl h5
 refine sqY rfl rfl rfl rfl (fS hD rfl call75 rfl (c75 b6) ?_)
 rintro v0 rfl
 refine g3 ?_
 refine kP [] ?_
 refine rT results35 ?_
 exact ⟨rfl, congrArg Value.bool ((validN_go oM oM (by have := hl.len; omega) (upto_all hp (by rw [hl.len]; omega))).trans (by simp_all)).symm⟩
 refine g8 ?_
 refine kP [] ?_
 refine rT results35 ?_
 exact ⟨rfl, congrArg Value.bool ((validN_go oM oM (by have := hl.len; omega) (upto_all hp (by rw [hl.len]; omega))).trans (by simp_all)).symm⟩
theorem c34 {x : Net} (hl : Sl rTrans H x.trans A n c) : Ct PP 34 #[.agg #[.int .i64 x.places, .slice A n c, .int .i64 x.source, .int .i64 x.sink]] H [] fun v H' O' => O' = [] ∧ ∃ cs, v = .tuple #[.agg cs.toArray, .int .i64 (finN x).2] ∧ rNet.rel H' (finN x).1 cs := by
 refine cB func34 ntmps34 fun I hD hI h4 => ?_
 refine g2a ?_
 intros
 refine bG fun b2 => ?_
 refine aL fun b3 => ?_
 refine g6b ?_
 intros
 refine sq rfl (fS hD rfl call35 rfl (c35 (x := x) hl) ?_)
 rintro v6 rfl
 refine g2 ?_
 refine cN ?_ ?_ <;> intro h5
 refine g3a ?_
 intros
 refine sG 0 ?_
 refine g2 ?_
 refine rD 0 [] results34 ?_
 have e : finN x = (zeroNet, 5) := by rw [finN, if_neg (by simp_all)]
 exact ⟨rfl, _, by rw [e], by rw [e]; exact ⟨_, _, _, rfl, Sl.nil _ _⟩⟩
 refine g4a ?_
 intros
 refine sG 0 ?_
 refine g2 ?_
 refine rD 0 [] results34 ?_
 have e : finN x = (x, 0) := by rw [finN, if_pos (by simp_all)]
 exact ⟨rfl, _, by rw [e], by rw [e]; exact ⟨_, _, _, rfl, hl⟩⟩
theorem c14 {t : Tree} (hl : Sl rTree H t.l A n c) : Ct PP 14 #[.agg #[.int .i64 t.op, .string t.act, .slice A n c]] H [] fun v H' O' => O' = [] ∧ ∃ cs, v = .tuple #[.agg cs.toArray, .int .i64 (fromT t).2] ∧ rNet.rel H' (fromT t).1 cs := by
 refine cB func14 ntmps14 fun I hD hI b8 => ?_
 refine g2a ?_
 intros
 refine bG fun b2 => ?_
 refine aL fun b3 => ?_
 refine g6b ?_
 intros
 refine sq rfl (fS hD rfl call29 rfl (c29 (t := t) hl) ?_)
 rintro v6 rfl
 refine g2 ?_
 refine cN ?_ ?_ <;> intro b5
 refine g3a ?_
 intros
 refine sG 0 ?_
 refine g2 ?_
 refine rD 0 [] results14 ?_
 have e : fromT t = (zeroNet, 1) := by rw [fromT, if_neg (by simp_all)]
 exact ⟨rfl, _, by rw [e], by rw [e]; exact ⟨_, _, _, rfl, Sl.nil _ _⟩⟩
 have hv : validT t = true := by simpa using b5
 refine g5a ?_
 intros
 refine bG fun b7 => ?_
 refine g4a ?_
 intros
 refine newRow 76 3 ?_
 refine g2 ?_
 refine sq rfl (fO hD [1, 0] [2, 3] rfl call33 rfl (c33 t (s := ⟨2, []⟩) (validT_ok hv) hl .nil dC (by have := validT_size hv; show (2 : Int) + _ ≤ _; omega) (by have := validT_size hv; show 0 + _ ≤ _; omega)) ?_)
 rintro v0 H1 O1 ⟨T1, c0, c1, rfl, b4⟩ h6
 have hl := hl.mono h6
 refine g3a ?_
 intros
 refine tR 1 b4 (hlen := by have := bt_bound t 0 1 ⟨2, []⟩ dC (validT_ok hv); have := validT_size hv; have e0 : (⟨2, []⟩ : Bd).trans.length = 0 := rfl; omega) fun H0 h5 h4 => ?_
 have hl := hl.mono h5
 refine g4 ?_
 refine sq rfl (fP hD rfl call34 rfl (c34 (x := (netOf t : Net)) h4) ?_)
 rintro v1 H2 ⟨b6, rfl, h9⟩ h7
 have ⟨hl, h4⟩ := mo2 h7 hl h4
 obtain ⟨A0, n0, c31, rfl, h8⟩ := h9
 refine g2 ?_
 refine sG 1 ?_
 refine g2 ?_
 refine rD 1 [] results14 ?_
 have e : fromT t = finN (netOf t) := by rw [fromT, if_pos hv]
 exact ⟨rfl, _, by rw [e]; rfl, by rw [e]; exact ⟨_, _, _, rfl, h8⟩⟩
theorem c19 {x : BA} : Ct PP 19 #[.string x] H [] fun v H' O' => O' = [] ∧ v = .agg #[.int .i64 1, .string x, .slice none 0 0] := by
 refine cB func19 ntmps19 fun I hD hI h4 => ?_
 refine g2a ?_
 intros
 refine aL fun b2 => ?_
 refine g5a ?_
 intros
 refine sG 0 ?_
 refine g1 ?_
 refine rC 0 [] results19 ?_
 exact ⟨rfl, rfl⟩
end
def getM (m : LI) (p : Int) : Int := m.getD p.toNat 0
def enB (m : LI) (t : Trans) : Bool := !(t.ins.any fun p => decide (getM m p = 0))
def subM (m : LI) (l : LI) : LI := l.foldl (fun o p => o.set p.toNat (getM o p - 1)) m
def addM (m : LI) (l : LI) : LI := l.foldl (fun o p => o.set p.toNat (getM o p + 1)) m
def maxL : LI → Int
 | [] => 0
 | x :: r => r.foldl max x
def okM (x : Net) (m : LI) : Prop := m.length = x.places.toNat ∧ ∀ k ∈ m, 0 ≤ k ∧ k ≤ 100
def nextM (t : Trans) (m : LI) : LI := addM (subM m t.ins) t.outs
def fireT (t : Trans) (m : LI) : LI × Int :=
 if enB m t = false then ([], 12) else if 100 < maxL (nextM t m) then ([], 5) else (nextM t m, 0)
def fireM (x : Net) (m : LI) (t : Int) : LI × Int :=
 if t < 0 ∨ (x.trans.length : Int) ≤ t then ([], 2) else match x.trans[t.toNat]? with
  | none => ([], 2)
  | some tr => fireT tr m
def oneM (x : Net) (p : Int) : LI := (List.replicate x.places.toNat 0).set p.toNat 1
def wordN (x : Net) (l : LI) : LB := l.filterMap fun t => match x.trans[t.toNat]? with
 | none => none
 | some tr => if tr.label = ⟨#[]⟩ then none else some tr.label
theorem getM_at {m : LI} {p : Int} (h : p.toNat < m.length) : m[p.toNat]? = some (getM m p) := by
 rw [getM, List.getElem?_eq_getElem h, List.getD_eq_getElem?_getD, List.getElem?_eq_getElem h]; rfl
theorem map_getM {m : LI} {p : Int} (h : p.toNat < m.length) : (m.map fun x => Value.int .i64 x)[0 + p.toNat * 1]? = some (.int .i64 (getM m p)) := by
 rw [Nat.zero_add, Nat.mul_one, List.getElem?_map, getM_at h]; rfl
theorem set_map {m : LI} {k : Nat} {v : Int} : (m.map fun x => Value.int .i64 x).set (0 + k * 1) (.int .i64 v) = (m.set k v).map fun x => Value.int .i64 x := by
 rw [Nat.zero_add, Nat.mul_one, List.map_set]
theorem len_set {m : LI} {n : Nat} (h : m.length = n) : (m.set k v).length = n := by simpa using h
theorem bnd_set {m : LI} {v lo hi lo' hi' : Int} (h : ∀ x ∈ m, lo ≤ x ∧ x ≤ hi) (h1 : lo' ≤ lo) (h2 : hi ≤ hi') (h3 : lo' ≤ v ∧ v ≤ hi') : ∀ x ∈ m.set k v, lo' ≤ x ∧ x ≤ hi' := by
 intro x hx
 rcases List.mem_or_eq_of_mem_set hx with hx | rfl
 ·have := h x hx; omega
 ·exact h3
theorem bnd_get {m : LI} {p lo hi : Int} (h : ∀ x ∈ m, lo ≤ x ∧ x ≤ hi) (hp : p.toNat < m.length) : lo ≤ getM m p ∧ getM m p ≤ hi := h _ (mG (getM_at hp))
theorem subM_next {l : LI} {i : Nat} (hp : l[i]? = some p) : subM o (l.drop i) = subM (o.set p.toNat (getM o p - 1)) (l.drop (i + 1)) := by
 obtain ⟨h, rfl⟩ := gE hp
 rw [List.drop_eq_getElem_cons h, subM, List.foldl_cons]; rfl
theorem addM_next {l : LI} {i : Nat} (hp : l[i]? = some p) : addM o (l.drop i) = addM (o.set p.toNat (getM o p + 1)) (l.drop (i + 1)) := by
 obtain ⟨h, rfl⟩ := gE hp
 rw [List.drop_eq_getElem_cons h, addM, List.foldl_cons]; rfl
theorem subM_end {l : LI} {i : Nat} (h : l.length ≤ i) : subM o (l.drop i) = o := by rw [List.drop_of_length_le h]; rfl
theorem addM_end {l : LI} {i : Nat} (h : l.length ≤ i) : addM o (l.drop i) = o := by rw [List.drop_of_length_le h]; rfl
theorem placesB_mem {pl : Int} {l : LI} (h : placesB pl l = true) : ∀ x ∈ l, 0 ≤ x ∧ x < pl := by
 unfold placesB at h
 rw [Bool.and_eq_true, List.all_eq_true] at h
 intro x hx
 simpa using h.1 x hx
theorem validN_iff : validN x = true ↔ 1 ≤ x.places ∧ x.places ≤ 40 ∧ x.trans.length ≤ 60 ∧ (∀ t ∈ x.trans, okTr x.places t = true) ∧ placesB x.places [x.source] = true ∧ placesB x.places [x.sink] = true := by
 unfold validN
 simp only [Bool.and_eq_true, decide_eq_true_eq, List.all_eq_true]
 exact ⟨fun ⟨⟨⟨⟨h1, h2⟩, h3⟩, h4⟩, h5⟩ => ⟨h1.1, h1.2, h2, h3, h4, h5⟩, fun ⟨a, b, c, d, e, f⟩ => ⟨⟨⟨⟨⟨a, b⟩, c⟩, d⟩, e⟩, f⟩⟩
theorem okTr_ins {pl : Int} {t : Trans} (h : okTr pl t = true) : ∀ p ∈ t.ins, 0 ≤ p ∧ p < pl := by
 unfold okTr at h; rw [Bool.and_eq_true, Bool.and_eq_true] at h; exact placesB_mem h.1.2
theorem okTr_outs {pl : Int} {t : Trans} (h : okTr pl t = true) : ∀ p ∈ t.outs, 0 ≤ p ∧ p < pl := by
 unfold okTr at h; rw [Bool.and_eq_true, Bool.and_eq_true] at h; exact placesB_mem h.2
theorem okTr_src (h : validN x = true) : 0 ≤ x.source ∧ x.source < x.places := placesB_mem (validN_iff.1 h).2.2.2.2.1 _ (by simp)
theorem okTr_sink (h : validN x = true) : 0 ≤ x.sink ∧ x.sink < x.places := placesB_mem (validN_iff.1 h).2.2.2.2.2 _ (by simp)
theorem fireM_out {x : Net} {t : Int} (h : t < 0 ∨ (x.trans.length : Int) ≤ t) : fireM x m t = ([], 2) := by rw [fireM, if_pos h]
theorem fireM_at {x : Net} {t : Int} {tr : Trans} (h0 : 0 ≤ t) (h : x.trans[t.toNat]? = some tr) : fireM x m t = fireT tr m := by
 have := (gE h).1
 rw [fireM, if_neg oM, h]
theorem maxL_next {l : LI} {i : Nat} {k : Int} (hx : l[i]? = some x) : (l.drop i).foldl max k = (l.drop (i + 1)).foldl max (max k x) := by
 obtain ⟨h, rfl⟩ := gE hx
 rw [List.drop_eq_getElem_cons h, List.foldl_cons]
theorem maxL_start {l : LI} (hx : l[0]? = some x) : maxL l = (l.drop 1).foldl max x := by
 cases l with
 | nil => simp at hx
 | cons y r => simp at hx; subst hx; rfl
theorem maxL_end {l : LI} {i : Nat} {k : Int} (h : l.length ≤ i) : (l.drop i).foldl max k = k := by rw [List.drop_of_length_le h]; rfl
def enL (x : Net) (m : LI) : LI := (List.range x.trans.length).filterMap fun (i : Nat) => match x.trans[i]? with
 | none => none
 | some t => if enB m t = true then some (i : Int) else none
def enN (x : Net) (m : LI) (k : Nat) : LI := (List.range k).filterMap fun (i : Nat) => match x.trans[i]? with
 | none => none
 | some t => if enB m t = true then some (i : Int) else none
theorem enN_yes {x : Net} {k : Nat} {t : Trans} (h : x.trans[k]? = some t) (he : enB m t = true) : enN x m (k + 1) = enN x m k ++ [(k : Int)] := by simp [enN, List.range_succ, h, he]
theorem enN_no {x : Net} {k : Nat} {t : Trans} (h : x.trans[k]? = some t) (he : enB m t = false) : enN x m (k + 1) = enN x m k := by simp [enN, List.range_succ, h, he]
theorem enN_len : (enN x m k).length ≤ k := by
 have := List.length_filterMap_le (fun (i : Nat) => match x.trans[i]? with
 | none => none
 | some t => if enB m t = true then some (i : Int) else none) (List.range k)
 simpa [enN] using this
theorem wordN_yes {x : Net} {l : LI} {i : Nat} {t : Int} {tr : Trans} (ht : l[i]? = some t) (h : x.trans[t.toNat]? = some tr) (hn : ¬ tr.label = ⟨#[]⟩) : wordN x (l.take (i + 1)) = wordN x (l.take i) ++ [tr.label] := by
 rw [List.take_succ, ht, wordN, wordN, List.filterMap_append]; simp [h, hn]
theorem wordN_no {x : Net} {l : LI} {i : Nat} {t : Int} {tr : Trans} (ht : l[i]? = some t) (h : x.trans[t.toNat]? = some tr) (hn : tr.label = ⟨#[]⟩) : wordN x (l.take (i + 1)) = wordN x (l.take i) := by
 rw [List.take_succ, ht, wordN, wordN, List.filterMap_append]; simp [h, hn]
theorem wordN_len {l : LI} : (wordN x l).length ≤ l.length := List.length_filterMap_le _ _
end Go.Proofs.YtookcfeogbeooaaGreatDoor
