/-
A region whose order is open: what only tells a value may be taken first; the rest is met in whatever order it comes. Short forms of the lemmas before, for printed walks. More operations: maps, cuts of slices, clear, copy, conversions, and appends of sealed slices.
Conditions: those that each theorem states.
-/
import Derived.Test.YtookcfeogbeooaaGreatDoorM2
import Derived.StillTail
import Derived.Laws.BytesString
import Derived.Laws.CopyRow
import Derived.Maps.RangeRun
import Derived.MapKept
set_option linter.all false
set_option maxRecDepth 100000
set_option maxHeartbeats 8000000
set_option autoImplicit true
set_option relaxedAutoImplicit true
namespace Go.Proofs.YtookcfeogbeooaaGreatDoor
open Go Go.Proofs
section
section
variable {P : Program} {ops : Array Oper} {Q : Exit → Act → World → Prop} {S : World → Prop} {m : Nat}
def AnyT (P : Program) (ops : Array Oper) (Q : Exit → Act → World → Prop) (S : World → Prop) (m : Nat) : Nat → Array Bool → Act → World → Prop
 | 0, listed, a, w => (∀ j ∈ Region.ready .any ops listed, m ≤ j) ∧ wpAny P .any ops Q (ops.size - m) listed a w
 | f + 1, listed, a, w => Region.ready .any ops listed ≠ [] ∧ ∀ i ∈ Region.ready .any ops listed, i < m ∧ wpOp P ops Q i (fun a' w' => S w' ∧ AnyT P ops Q S m f (listed.setIfInBounds i true) a' w') a w
theorem wpAny_of_AnyT : ∀ (f : Nat) (listed : Array Bool) (a : Act) (w : World), AnyT P ops Q S m f listed a w → wpAny P .any ops Q (f + (ops.size - m)) listed a w
 | 0, listed, a, w, h => by rw [Nat.zero_add]; exact h.2
 | f + 1, listed, a, w, h => by
  rw [show f + 1 + (ops.size - m) = f + (ops.size - m) + 1 by omega]
  exact ⟨fun h0 => absurd h0 h.1, fun i hi => wpOp_mono (fun a' w' h' => wpAny_of_AnyT f _ a' w' h'.2) (h.2 i hi).2⟩
def Waits (ops : Array Oper) (m : Nat) : Prop := Region.sinkB .any ops m = true ∧ Region.chainB .any ops m = true ∧ m < ops.size ∨ m = ops.size
theorem waits_spec (hw : Waits ops m) (inv : HeadInv .any ops m listed) {i : Nat} (hi : i < m) (hun : listed.getD i true = false) : ∀ t ∈ Region.ready .any ops listed, t < m := by
 intro t ht
 rcases hw with ⟨h1, h2, h3⟩ | h1
 ·rcases Nat.lt_or_ge t m with h | h
  ·exact h
  ·exact absurd ht (tail_waits h1 h2 h3 inv _ i rfl hi hun t h)
 ·obtain ⟨_, o, ho, _⟩ := mem_ready.1 ht
  have := (Array.getElem?_eq_some_iff.1 ho).1
  omega
theorem AnyT_first {i : Nat} (hi : ops[i]? = some oi) (hsel : ∀ (j : Nat) (o : Oper) cs b, ops[j]? = some o → o.op ≠ .select cs b) (him : i < m) (hw : Waits ops m) (hQ : ∀ c a w, Q (.panic c) (a.put oi.dst v) w → Q (.panic c) a w) :
  ∀ (f : Nat) (listed : Array Bool) (a : Act) (w : World), HeadInv .any ops m listed →
   (∀ j oj, ops[j]? = some oj → j ≠ i → listed.getD j true = false → (∀ e ∈ oj.after, Region.binds .any e = true → e.on ≠ i) → oi.apart ops oj = true) →
   i ∈ Region.ready .any ops listed → YieldsIf P ops S oi v a → S w →
   AnyT P ops Q S m f (listed.setIfInBounds i true) (a.put oi.dst v) w → AnyT P ops Q S m (f + 1) listed a w := by
 intro f
 induction f with
 | zero =>
  intro listed a w i4 _ hr hy hS H
  have h6 := (mem_ready.1 hr).1
  refine ⟨fun h => (by rw [h] at hr; cases hr), fun j hj => ⟨waits_spec hw i4 him h6 j hj, ?_⟩⟩
  by_cases hji : j = i
  ·subst hji; exact hy.wpOp hi hS ⟨hS, H⟩
  ·have h1 := waits_spec hw i4 him h6 j hj
   have h2 := H.1 j (ready_mono hj hji)
   omega
 | succ f ih =>
  intro listed a w i4 h4 hr hy hS H
  have h6 := (mem_ready.1 hr).1
  refine ⟨fun h => (by rw [h] at hr; cases hr), fun j hj => ⟨waits_spec hw i4 him h6 j hj, ?_⟩⟩
  by_cases hji : j = i
  ·subst hji; exact hy.wpOp hi hS ⟨hS, H⟩
  ·have h1 := (H.2 j (ready_mono hj hji)).2
   have b7 := waits_spec hw i4 him h6 j hj
   obtain ⟨h8, oj, h9, b5⟩ := mem_ready.1 hj
   have b4 : ∀ e ∈ oj.after, Region.binds .any e = true → e.on ≠ i := fun e he hb b9 => by
    have h1 := b5 e he hb
    rw [b9, getD_both h6] at h1
    cases h1
   have h2 := wpOp_putIf h9 (h4 j oj h9 hji h8 b4) (fun cs b => hsel i oi cs b hi) (fun cs b => hsel j oj cs b h9) hQ hy h1
   have h5 : ∀ k ok, ops[k]? = some ok → k ≠ i → (listed.setIfInBounds j true).getD k true = false →
     (∀ e ∈ ok.after, Region.binds .any e = true → e.on ≠ i) → oi.apart ops ok = true := fun k ok hk b6 h7 b8 => by
    refine h4 k ok hk b6 ?_ b8
    by_cases hjk : j = k
    ·subst hjk; exact h8
    ·rw [getD_set_ne true hjk] at h7; exact h7
   refine wpOp_mono (fun a' w' h3 => ⟨h3.2.1, ih (listed.setIfInBounds j true) a' w' (i4.set hj b7) h5 (ready_mono hr (Ne.symm hji)) h3.1 h3.2.1 ?_⟩) h2
   rw [Array.setIfInBounds_comm _ _ hji]
   exact h3.2.2
def closedB (ops : Array Oper) (listed : Array Bool) : Bool :=
 (List.range ops.size).all fun j => !listed.getD j false || ((ops[j]?).map (·.after.all fun e => !Region.binds .any e || listed.getD e.on false)).getD true
def headB (ops : Array Oper) (m : Nat) (listed : Array Bool) : Bool :=
 Nat.beq listed.size ops.size && closedB ops listed && (List.range ops.size).all fun t => Nat.ble (t + 1) m || !listed.getD t true
theorem headB_spec (h : headB ops m listed = true) : HeadInv .any ops m listed := by
 simp only [headB, Bool.and_eq_true] at h
 obtain ⟨⟨h1, h2⟩, h3⟩ := h
 refine ⟨Nat.eq_of_beq_eq_true h1, fun j oj hj hl e he hb => ?_, fun t ht h5 => ?_⟩
 ·have h4 := (Array.getElem?_eq_some_iff.1 hj).1
  have := List.all_eq_true.1 h2 j (List.mem_range.2 h4)
  simp only [hl, Bool.not_true, Bool.false_or, hj, Option.map_some, Option.getD_some] at this
  have := Array.all_eq_true'.1 this e he
  simpa [hb] using this
 ·have := List.all_eq_true.1 h3 t (List.mem_range.2 h5)
  simp only [Bool.or_eq_true, Bool.not_eq_true'] at this
  rcases this with h | h
  ·have := Nat.le_of_ble_eq_true h; omega
  ·exact h
end
def NP (Q : Exit → Act → World → Prop) : Prop := ∀ c a w, ¬ Q (.panic c) a w
theorem np_fin {R : Value → Ghost → List HL → Prop} : NP (Fin P fn I R) := by
 rintro c a w ⟨_, _, _, _, h, _⟩
 cases h
theorem np_then {Q : Exit → Act → World → Prop} {K : Act → World → Prop} (h : NP Q) : NP (Exit.then K Q) := fun c a w hq => h c a w hq
theorem np_block {Q : Exit → Act → World → Prop} {id : Nat} (h : NP Q) : NP (Exit.inBlock id Q) := fun c a w hq => h c a w hq
section
variable {P : Program} {n : Nat} {I : Init} {K : Act → World → Prop} {E : Env} {H Hs : Ghost} {O Os : List HL} {Q : Exit → Act → World → Prop} {ops : Array Oper} {m : Nat}
theorem St.ghostDown {w : World} (h : St H O w) (hle : Ghost.le Hs H) : St Hs O w :=
 have h1 : ∀ b ∈ fps O, Hs b = none := fun b hb => by
  cases hc : Hs b with
  | none => rfl
  | some o => have := hle b o hc; rw [(h.apart b hb).1] at this; cases this
 ⟨fun b o hb => h.ghost b o (hle b o hb), h.own, fun b hb => ⟨h1 b hb, (h.apart b hb).2⟩, h.nodup⟩
theorem St.sub {O' : List HL} {w : World} (h : St H O w) (hs : O'.Sublist O) : St H O' w := by
 obtain ⟨F, hp⟩ : ∃ F, O.Perm (O' ++ F) := hs.exists_perm_append
 exact (h.perm hp).left
theorem keeps (l : List Nat) (hl : l.Pairwise (· < ·)) (hO : pick O l = Os) (hle : Ghost.le Hs H) : ∀ w, St H O w → St Hs Os w :=
 fun w h => (h.ghostDown hle).sub (hO ▸ pick_sub O l hl)
theorem ta_start {id : Nat} (Hs : Ghost) (Os : List HL) (m : Nat) (hm : P.follows .mixedOrders = true) (hmn : Nat.ble m ops.size = true) (h : TK n I (AnyT P ops Q (St Hs Os) m m (Array.replicate ops.size false)) E H O) : TK n I ((Code.region id ops true).wp P Q) E H O := by
 intro a w ha hs
 refine wp_region_any hm ?_
 have hle : m ≤ ops.size := Nat.le_of_ble_eq_true hmn
 have := wpAny_of_AnyT m (Array.replicate ops.size false) a { w with drawn := w.drawn + 1 } (h a _ ha (hs.trans (Step.drew hs.st _ (by simp)).any))
 rwa [show m + (ops.size - m) = ops.size by omega] at this
theorem ta_take (i : Nat) (hi : ops[i]? = some oi) (hsel : Region.noSelect ops = true) (hf : Region.free .any ops listed i = true) (hr : (Region.ready .any ops listed).contains i = true) (him : Nat.ble (i + 1) m = true) (hw : Waits ops m) (hh : headB ops m listed = true) (hQ : NP Q) (hg : oi.guard = none) (hd : oi.dst = some d) (hn : d < n) (hS : ∀ w, St H O w → St Hs Os w) (hy : Yl P n E Hs Os oi v) (h : TK n I (AnyT P ops Q (St Hs Os) m f (listed.setIfInBounds i true)) ((d, v) :: E) H O) : TK n I (AnyT P ops Q (St Hs Os) m (f + 1) listed) E H O := by
 intro a w ha hs
 refine AnyT_first hi (Region.noSelect_spec hsel) (Nat.le_of_ble_eq_true him) hw (fun c a w hp => absurd hp (hQ c _ w)) f listed a w (headB_spec hh) (Region.free_spec hi hf) (by simpa using hr) (.inl ⟨by simp [Region.wanted, hg], fun w hS => hy a w ha hS⟩) (hS w hs.st) ?_
 rw [hd]
 exact h _ _ (ha.put d v hn) hs
theorem ta_takeY (i : Nat) {g t : Nat} {b want : Bool} (hi : ops[i]? = some oi) (hsel : Region.noSelect ops = true) (hf : Region.free .any ops listed i = true) (hr : (Region.ready .any ops listed).contains i = true) (him : Nat.ble (i + 1) m = true) (hw : Waits ops m) (hh : headB ops m listed = true) (hQ : NP Q) (hg : oi.guard = some (g, want)) (ht : (ops[g]?).bind (·.dst) = some t) (hb : look E t = some (.bool b)) (hbw : b = want) (hd : oi.dst = some d) (hn : d < n) (hS : ∀ w, St H O w → St Hs Os w) (hy : Yl P n E Hs Os oi v) (h : TK n I (AnyT P ops Q (St Hs Os) m f (listed.setIfInBounds i true)) ((d, v) :: E) H O) : TK n I (AnyT P ops Q (St Hs Os) m (f + 1) listed) E H O := by
 intro a w ha hs
 refine AnyT_first hi (Region.noSelect_spec hsel) (Nat.le_of_ble_eq_true him) hw (fun c a w hp => absurd hp (hQ c _ w)) f listed a w (headB_spec hh) (Region.free_spec hi hf) (by simpa using hr) (.inl ⟨by simp [Region.wanted, hg, yielded_of ha ht hb, hbw], fun w hS => hy a w ha hS⟩) (hS w hs.st) ?_
 rw [hd]
 exact h _ _ (ha.put d v hn) hs
theorem ta_takeN (i : Nat) {g t : Nat} {b want : Bool} (hi : ops[i]? = some oi) (hsel : Region.noSelect ops = true) (hf : Region.free .any ops listed i = true) (hr : (Region.ready .any ops listed).contains i = true) (him : Nat.ble (i + 1) m = true) (hw : Waits ops m) (hh : headB ops m listed = true) (hQ : NP Q) (hg : oi.guard = some (g, want)) (ht : (ops[g]?).bind (·.dst) = some t) (hb : look E t = some (.bool b)) (hbw : b = !want) (hd : oi.dst = some d) (hn : d < n) (hS : ∀ w, St H O w → St Hs Os w) (h : TK n I (AnyT P ops Q (St Hs Os) m f (listed.setIfInBounds i true)) ((d, undef) :: E) H O) : TK n I (AnyT P ops Q (St Hs Os) m (f + 1) listed) E H O := by
 intro a w ha hs
 refine AnyT_first (v := undef) hi (Region.noSelect_spec hsel) (Nat.le_of_ble_eq_true him) hw (fun c a w hp => absurd hp (hQ c _ w)) f listed a w (headB_spec hh) (Region.free_spec hi hf) (by simpa using hr) (.inr ⟨by simp [Region.wanted, hg, yielded_of ha ht hb, hbw], rfl⟩) (hS w hs.st) ?_
 rw [hd]
 exact h _ _ (ha.put d _ hn) hs
theorem ta_next (hS : ∀ w, St H O w → St Hs Os w) (h : TK n I (AnyT P ops Q (St Hs Os) m f listed) E H O) : TK n I (fun a w => St Hs Os w ∧ AnyT P ops Q (St Hs Os) m f listed a w) E H O :=
 fun a w ha hs => ⟨hS w hs.st, h a w ha hs⟩
theorem ta_one (i : Nat) (hi : ops[i]? = some oi) (hr : Region.ready .any ops listed = [i]) (him : Nat.ble (i + 1) m = true) (hg : oi.guard = none) (h : TK n I (OpK P oi (fun a w => St Hs Os w ∧ AnyT P ops Q (St Hs Os) m f (listed.setIfInBounds i true) a w) Q) E H O) : TK n I (AnyT P ops Q (St Hs Os) m (f + 1) listed) E H O := by
 intro a w ha hs
 refine ⟨by rw [hr]; simp, fun j hj => ?_⟩
 rw [hr, List.mem_singleton] at hj
 subst hj
 refine ⟨Nat.le_of_ble_eq_true him, ?_⟩
 unfold wpOp
 simp only [hi]
 rw [if_pos (by simp [Region.wanted, hg])]
 exact .inl (h a w ha hs)
theorem ta_oneY (i : Nat) {g t : Nat} {b want : Bool} (hi : ops[i]? = some oi) (hr : Region.ready .any ops listed = [i]) (him : Nat.ble (i + 1) m = true) (hg : oi.guard = some (g, want)) (ht : (ops[g]?).bind (·.dst) = some t) (hb : look E t = some (.bool b)) (hbw : b = want) (h : TK n I (OpK P oi (fun a w => St Hs Os w ∧ AnyT P ops Q (St Hs Os) m f (listed.setIfInBounds i true) a w) Q) E H O) : TK n I (AnyT P ops Q (St Hs Os) m (f + 1) listed) E H O := by
 intro a w ha hs
 refine ⟨by rw [hr]; simp, fun j hj => ?_⟩
 rw [hr, List.mem_singleton] at hj
 subst hj
 refine ⟨Nat.le_of_ble_eq_true him, ?_⟩
 unfold wpOp
 simp only [hi]
 rw [if_pos (by simp [Region.wanted, hg, yielded_of ha ht hb, hbw])]
 exact .inl (h a w ha hs)
theorem ta_many {rs : List Nat} (hr : Region.ready .any ops listed = rs) (hne : rs ≠ []) (h : ∀ i ∈ rs, ∃ oi, ops[i]? = some oi ∧ Nat.ble (i + 1) m = true ∧ oi.guard = none ∧ TK n I (OpK P oi (fun a w => St Hs Os w ∧ AnyT P ops Q (St Hs Os) m f (listed.setIfInBounds i true) a w) Q) E H O) : TK n I (AnyT P ops Q (St Hs Os) m (f + 1) listed) E H O := by
 intro a w ha hs
 refine ⟨by rw [hr]; exact hne, fun j hj => ?_⟩
 rw [hr] at hj
 obtain ⟨oi, hi, h4, hg, hk⟩ := h j hj
 refine ⟨Nat.le_of_ble_eq_true h4, ?_⟩
 unfold wpOp
 simp only [hi]
 rw [if_pos (by simp [Region.wanted, hg])]
 exact .inl (hk a w ha hs)
theorem ta_tail {l : List Oper} (hl : ops.toList.drop m = l) (hr : ((Region.ready .any ops listed).all fun j => Nat.ble m j) = true) (hsz : Nat.ble m ops.size = true) (hB : Region.seqB .any ops l.length m listed = true) (h : TK n I (wpList P ops Q l) E H O) : TK n I (AnyT P ops Q (St Hs Os) m 0 listed) E H O := by
 intro a w ha hs
 refine ⟨fun j hj => Nat.le_of_ble_eq_true (List.all_eq_true.1 hr j hj), ?_⟩
 have hlen : l.length = ops.size - m := by rw [← hl]; simp
 rw [← hlen]
 refine wpAny_of_seq l m listed a w (fun j => ?_) hB (h a w ha hs)
 rw [← hl, List.getElem?_drop]
 simp
end
section
variable {P : Program} {n : Nat} {I : Init} {K : Act → World → Prop} {E : Env} {H Hs : Ghost} {O Os : List HL} {Q : Exit → Act → World → Prop} {ops : Array Oper} {m : Nat} {o : Oper} {rest : List Oper} {v : Value} {d : Nat}
 {dst : Option Nat} {ty : TypeId} {pos : String} {af : Array Edge} {gd : Option (Nat × Bool)}
theorem blt_lt (h : Nat.blt d n = true) : d < n := Nat.le_of_ble_eq_true h
theorem q (hy : Yl P n E H O o v) (hg : o.guard = none) (hd : o.dst = some d) (hn : Nat.blt d n = true) (h : TK n I (wpList P ops Q rest) ((d, v) :: E) H O) : TK n I (wpList P ops Q (o :: rest)) E H O :=
 sq hg (TK.yl hy hd (blt_lt hn) h)
theorem qY {g t : Nat} {b want : Bool} (hy : Yl P n E H O o v) (hg : o.guard = some (g, want)) (ht : (ops[g]?).bind (·.dst) = some t) (hb : look E t = some (.bool b)) (hw : b = want) (hd : o.dst = some d) (hn : Nat.blt d n = true) (h : TK n I (wpList P ops Q rest) ((d, v) :: E) H O) : TK n I (wpList P ops Q (o :: rest)) E H O :=
 sqY hg ht hb hw (TK.yl hy hd (blt_lt hn) h)
theorem qN {g t : Nat} {b want : Bool} (hg : o.guard = some (g, want)) (ht : (ops[g]?).bind (·.dst) = some t) (hb : look E t = some (.bool b)) (hw : b = !want) (hd : o.dst = some d) (hn : Nat.blt d n = true) (h : TK n I (wpList P ops Q rest) ((d, undef) :: E) H O) : TK n I (wpList P ops Q (o :: rest)) E H O :=
 sqN hg ht hb hw hd (blt_lt hn) h
def regB (ops : Array Oper) (m : Nat) : Bool := Region.noSelect ops && (Nat.beq m ops.size || (Region.sinkB .any ops m && Region.chainB .any ops m && Nat.blt m ops.size))
def takeB (ops : Array Oper) (m : Nat) (listed : Array Bool) (i : Nat) : Bool := Region.free .any ops listed i && (Region.ready .any ops listed).contains i && Nat.blt i m && headB ops m listed
theorem regB_w (h : regB ops m = true) : Waits ops m := by
 simp only [regB, Bool.and_eq_true, Bool.or_eq_true] at h
 rcases h.2 with h | h
 ·exact .inr (Nat.eq_of_beq_eq_true h)
 ·exact .inl ⟨h.1.1, h.1.2, blt_lt h.2⟩
theorem regB_s (h : regB ops m = true) : Region.noSelect ops = true := by
 simp only [regB, Bool.and_eq_true] at h
 exact h.1
theorem tStart {id : Nat} (Hs : Ghost) (Os : List HL) (m : Nat) (hm : P.follows .mixedOrders = true) (hmn : Nat.ble m ops.size = true) (hr : regB ops m = true) (h : regB ops m = true → TK n I (AnyT P ops Q (St Hs Os) m m (Array.replicate ops.size false)) E H O) : TK n I ((Code.region id ops true).wp P Q) E H O :=
 ta_start Hs Os m hm hmn (h hr)
theorem tk (i : Nat) (hi : ops[i]? = some o) (hB : takeB ops m listed i = true) (hw : regB ops m = true) (hQ : NP Q) (hS : ∀ w, St H O w → St Hs Os w) (hy : Yl P n E Hs Os o v) (hg : o.guard = none) (hd : o.dst = some d) (hn : Nat.blt d n = true) (h : TK n I (AnyT P ops Q (St Hs Os) m f (listed.setIfInBounds i true)) ((d, v) :: E) H O) : TK n I (AnyT P ops Q (St Hs Os) m (f + 1) listed) E H O := by
 simp only [takeB, Bool.and_eq_true] at hB
 exact ta_take i hi (regB_s hw) hB.1.1.1 hB.1.1.2 hB.1.2 (regB_w hw) hB.2 hQ hg hd (blt_lt hn) hS hy h
theorem tkY (i : Nat) {g t : Nat} {b want : Bool} (hi : ops[i]? = some o) (hB : takeB ops m listed i = true) (hw : regB ops m = true) (hQ : NP Q) (hS : ∀ w, St H O w → St Hs Os w) (hy : Yl P n E Hs Os o v) (hg : o.guard = some (g, want)) (ht : (ops[g]?).bind (·.dst) = some t) (hb : look E t = some (.bool b)) (hbw : b = want) (hd : o.dst = some d) (hn : Nat.blt d n = true) (h : TK n I (AnyT P ops Q (St Hs Os) m f (listed.setIfInBounds i true)) ((d, v) :: E) H O) : TK n I (AnyT P ops Q (St Hs Os) m (f + 1) listed) E H O := by
 simp only [takeB, Bool.and_eq_true] at hB
 exact ta_takeY i hi (regB_s hw) hB.1.1.1 hB.1.1.2 hB.1.2 (regB_w hw) hB.2 hQ hg ht hb hbw hd (blt_lt hn) hS hy h
theorem tkN (i : Nat) {g t : Nat} {b want : Bool} (hi : ops[i]? = some o) (hB : takeB ops m listed i = true) (hw : regB ops m = true) (hQ : NP Q) (hS : ∀ w, St H O w → St Hs Os w) (hg : o.guard = some (g, want)) (ht : (ops[g]?).bind (·.dst) = some t) (hb : look E t = some (.bool b)) (hbw : b = !want) (hd : o.dst = some d) (hn : Nat.blt d n = true) (h : TK n I (AnyT P ops Q (St Hs Os) m f (listed.setIfInBounds i true)) ((d, undef) :: E) H O) : TK n I (AnyT P ops Q (St Hs Os) m (f + 1) listed) E H O := by
 simp only [takeB, Bool.and_eq_true] at hB
 exact ta_takeN i hi (regB_s hw) hB.1.1.1 hB.1.1.2 hB.1.2 (regB_w hw) hB.2 hQ hg ht hb hbw hd (blt_lt hn) hS h
theorem yielded_undef {g t : Nat} (ha : EnvOk n E a) (ht : (ops[g]?).bind (·.dst) = some t) (hb : look E t = some undef) : yielded ops a.tmps g = none := by
 unfold yielded
 rw [ht]
 simp [ha.get t _ hb, undef]
theorem qU {g t : Nat} {want : Bool} (hg : o.guard = some (g, want)) (ht : (ops[g]?).bind (·.dst) = some t) (hb : look E t = some undef) (hd : o.dst = some d) (hn : Nat.blt d n = true) (h : TK n I (wpList P ops Q rest) ((d, undef) :: E) H O) : TK n I (wpList P ops Q (o :: rest)) E H O := by
 intro a w ha hs
 unfold wpList
 rw [if_neg (by simp [Region.wanted, hg, yielded_undef ha ht hb]), hd]
 exact h _ _ (ha.put d _ (blt_lt hn)) hs
theorem tkU (i : Nat) {g t : Nat} {want : Bool} (hi : ops[i]? = some o) (hB : takeB ops m listed i = true) (hw : regB ops m = true) (hQ : NP Q) (hS : ∀ w, St H O w → St Hs Os w) (hg : o.guard = some (g, want)) (ht : (ops[g]?).bind (·.dst) = some t) (hb : look E t = some undef) (hd : o.dst = some d) (hn : Nat.blt d n = true) (h : TK n I (AnyT P ops Q (St Hs Os) m f (listed.setIfInBounds i true)) ((d, undef) :: E) H O) : TK n I (AnyT P ops Q (St Hs Os) m (f + 1) listed) E H O := by
 simp only [takeB, Bool.and_eq_true] at hB
 intro a w ha hs
 refine AnyT_first (v := undef) hi (Region.noSelect_spec (regB_s hw)) (blt_lt hB.1.2) (regB_w hw) (fun c a w hp => absurd hp (hQ c _ w)) f listed a w (headB_spec hB.2) (Region.free_spec hi hB.1.1.1) (by simpa using hB.1.1.2) (.inr ⟨by simp [Region.wanted, hg, yielded_undef ha ht hb], rfl⟩) (hS w hs.st) ?_
 rw [hd]
 exact h _ _ (ha.put d _ (blt_lt hn)) hs
theorem splitB (t : Nat) {b : Bool} (hb : look E t = some (.bool b)) (hx : b = b) (h1 : b = true → TK n I K ((t, .bool true) :: E) H O) (h2 : b = false → TK n I K ((t, .bool false) :: E) H O) : TK n I K E H O := by
 have k0 : ∀ c : Bool, b = c → TK n I K ((t, .bool c) :: E) H O → TK n I K E H O := by
  rintro c rfl h
  refine fun a w ha hs => h a w ⟨ha.defers, ha.size, fun u x hu => ?_⟩ hs
  simp only [look] at hu
  cases hbt : Nat.beq t u with
  | true =>
   rw [hbt] at hu
   simp only [Option.some.injEq] at hu
   have : t = u := Nat.eq_of_beq_eq_true hbt
   subst this hu
   exact ha.get _ _ hb
  | false => rw [hbt] at hu; exact ha.get u x hu
 cases hc : b with
 | true => exact k0 true hc (h1 hc)
 | false => exact k0 false hc (h2 hc)
theorem splitD (t : Nat) {p : Prop} [Decidable p] (hb : look E t = some (.bool (decide p))) (hx : decide p = decide p) (h1 : p → TK n I K ((t, .bool true) :: E) H O) (h2 : ¬ p → TK n I K ((t, .bool false) :: E) H O) : TK n I K E H O :=
 splitB t hb rfl (fun h => h1 (of_decide_eq_true h)) (fun h => h2 (of_decide_eq_false h))
theorem ent {ats : Array TypeId} (hc : ∀ (args : Array Value) (w : World), (callFunc f args).run P w = .ok (.enter f args) w) (hv : evs E xs = some vs) :
  ∀ a w, EnvOk n E a → (execOp a.eval ⟨dst, .call { callee := .value (.func f), args := xs.toArray, argTypes := ats }, ty, pos, af, gd⟩).run P w = .ok (.enter f vs.toArray) w := by
 intro a w ha
 have h1 : a.eval (.func f) = .func (.func f) #[] #[] := rfl
 simp only [execOp, resolve, h1, Deferred.ofValue, Sem.run_bind, Sem.run_pure, Result.andThen_ok, invoke, List.map_toArray, evs_eval ha hv]
 simp [hc]
theorem entV {cs : LV} {ats : Array TypeId} (hc : ∀ (args : Array Value) (w : World), (callFunc f args).run P w = .ok (.enter f args) w) (hf : ev E g = some (.func (.func f) #[] cs.toArray)) (hv : evs E xs = some vs) :
  ∀ a w, EnvOk n E a → (execOp a.eval ⟨dst, .call { callee := .value g, args := xs.toArray, argTypes := ats }, ty, pos, af, gd⟩).run P w = .ok (.enter f (vs ++ cs).toArray) w := by
 intro a w ha
 simp only [execOp, resolve, ha.eval hf, Deferred.ofValue, Sem.run_bind, Sem.run_pure, Result.andThen_ok, invoke, List.map_toArray, evs_eval ha hv]
 simp [hc]
theorem TK.callP {D : Prop} (hDD : I.D → D) {f : FuncId} {args : Array Value} {R : Value → Ghost → Prop} (hd : o.dst = some d) (hn : Nat.blt d n = true) (he : ∀ a w, EnvOk n E a → (execOp a.eval o).run P w = .ok (.enter f args) w) (hc : CtG D P f args H [] fun v H' O' => O' = [] ∧ R v H') (h : ∀ v H', R v H' → Ghost.le H H' → TK n I K ((d, v) :: E) H' O) : TK n I (OpK P o K Q) E H O :=
 TK.call hDD hd (blt_lt hn) he hc.pure fun v H' O' ⟨O1, hO, h1, hr⟩ hle => by subst h1 hO; exact h v H' hr hle
theorem StepG.down {D : Prop} {H : Ghost} {O : List HL} {w : World} (h : StepG D H O w H' O' w') (h1 : Ghost.le H Hl) (h2 : Ghost.le Hl H') : StepG D H O w Hl O' w' :=
 { h with st := h.st.ghostDown h2, le := h1, newH := fun b o hb => h.newH b o (h2 b o hb) }
theorem TK.callS {D : Prop} (hDD : I.D → D) {f : FuncId} {args : Array Value} {R : Value → Prop} (hd : o.dst = some d) (hn : Nat.blt d n = true) (he : ∀ a w, EnvOk n E a → (execOp a.eval o).run P w = .ok (.enter f args) w) (hc : CtG D P f args H [] fun v H' O' => O' = [] ∧ R v) (h : ∀ v, R v → TK n I K ((d, v) :: E) H O) : TK n I (OpK P o K Q) E H O := by
 intro a w ha hs
 unfold OpK Oper.wp
 rw [he a w ha, Oper.upon_enter]
 refine (hc.pure w hs.st).mono ?_
 rintro e w' ⟨v, H', O', rfl, ⟨O1, rfl, rfl, hr⟩, h4⟩
 show K (a.put o.dst v) w'
 rw [hd]
 exact h v hr _ _ (ha.put d v (blt_lt hn)) (hs.trans ((h4.weak hDD).down (Ghost.le.refl _) h4.le))
theorem TK.callO {D : Prop} (hDD : I.D → D) {f : FuncId} {args : Array Value} {Oc F : List HL} {R : Value → Ghost → List HL → Prop} (hp : (Oc ++ F).Perm O) (hd : o.dst = some d) (hn : Nat.blt d n = true) (he : ∀ a w, EnvOk n E a → (execOp a.eval o).run P w = .ok (.enter f args) w) (hc : CtG D P f args H Oc R) (h : ∀ v H' O', R v H' O' → Ghost.le H H' → TK n I K ((d, v) :: E) H' (O' ++ F)) : TK n I (OpK P o K Q) E H O :=
 TK.call hDD hd (blt_lt hn) he (hc.frame hp) fun v H' O' ⟨O1, hO, hr⟩ hle => by subst hO; exact h v H' O1 hr hle
theorem newRow (e k : Nat) (h : TK n I K E H (.row e k (.slice none 0 0) 0 [] :: O)) : TK n I K E H O := by
 refine TK.step fun w hs => ⟨H, .row e k (.slice none 0 0) 0 [] :: O, ?_, h⟩
 refine Step.new_ (O' := [.row e k (.slice none 0 0) 0 []]) hs fun h0 => ?_
 refine ⟨⟨h0.ghost, fun x hx => ?_, by simp [fps, HL.fp, vblk], by simp [fps, HL.fp, vblk]⟩, Ghost.le.refl _, rfl, rfl, rfl, Nat.le_refl _, fun _ _ _ => rfl, fun b p hb => .inl (by rw [hb]; simp), by simp [fps, HL.fp, vblk], fun _ => Nat.le_refl _⟩
 simp only [List.mem_singleton] at hx
 subst hx
 exact World.ownsRow_nil w 0 e k
theorem Sl.ex {α : Type} {r : Rep α} {xs : List α} {A : OA} {n c : Nat} (h : Sl r H xs A n c) {i : Nat} (hi : i < n) : ∃ x, xs[i]? = some x := ⟨xs[i]'(by rw [h.1]; exact hi), List.getElem?_eq_getElem _⟩
theorem yIndexAddrE {t e b o' m c : Nat} {A : OA} {ik : IntKind} {i : Int} (ht : P.underlying t = some (.slice e)) (hs : Sz P e k) (hx : ev E x = some (.slice A m c)) (hA : A = some ⟨b, o', none⟩) (hy : ev E y = some (.int ik i)) (h0 : 0 ≤ i) (h1 : i < m) :
  Yl P n E H O ⟨dst, .indexAddr t x y, ty, pos, af, gd⟩ (.pointer (some ⟨b, o' + i.toNat * k, none⟩)) := by
 subst hA
 exact yIndexAddr ht hs hx hy h0 h1
theorem Mem.blk1 {i b off e : Nat} {arr : LV} (hO : O[i]? = some (.blk b e arr)) (hc : arr[off]? = some v) : Mem H O b off [v] := by
 intro w hs j c hj
 have hb : w.heap[b]? = some (.cells arr.toArray e (0, 0)) := hs.own _ (mG hO)
 have h4 : j < 1 := (gE hj).1
 obtain rfl : j = 0 := by omega
 simp only [List.getElem?_cons_zero, Option.some.injEq] at hj
 subst hj
 simp [World.cell?, hb, hc]
theorem fillAll (vs zs : LV) (hz : zs.length = vs.length * 1) : lfill (fun i => some (i * 1, 1)) zs (vs.zipIdx.map fun p => (p.2, [p.1])) = some vs := by
 have h := fillN vs 0 zs oM
 rw [h]
 simp [List.drop_of_length_le (show zs.length ≤ vs.length by omega)]
end
def mget {κ β : Type} [DecidableEq κ] : List (κ × β) → κ → Option β
 | [], _ => none
 | (a, v) :: r, k => if a = k then some v else mget r k
def mput {κ β : Type} [DecidableEq κ] : List (κ × β) → κ → β → List (κ × β)
 | [], k, v => [(k, v)]
 | (a, u) :: r, k, v => if a = k then (k, v) :: r else (a, u) :: mput r k v
theorem mget_mput {κ β : Type} [DecidableEq κ] (m : List (κ × β)) (k k' : κ) (v : β) : mget (mput m k v) k' = if k = k' then some v else mget m k' := by
 induction m with
 | nil => simp [mput, mget]
 | cons p r ih =>
  obtain ⟨a, u⟩ := p
  unfold mput
  split
  ·rename_i h; subst h; simp only [mget]; split <;> simp_all
  ·rename_i h
   simp only [mget, ih]
   split
   ·rename_i h2; subst h2; rw [if_neg (fun h3 => h h3.symm)]
   ·rfl
theorem mput_keys {κ β : Type} [DecidableEq κ] (m : List (κ × β)) (k : κ) (v : β) : (mput m k v).map (·.1) = if k ∈ m.map (·.1) then m.map (·.1) else m.map (·.1) ++ [k] := by
 induction m with
 | nil => simp [mput]
 | cons p r ih =>
  obtain ⟨a, u⟩ := p
  unfold mput
  split
  ·rename_i h; subst h; simp
  ·rename_i h
   simp only [List.map_cons, ih, List.mem_cons]
   split
   ·rename_i h2; rw [if_pos (.inr h2)]
   ·rename_i h2; rw [if_neg (fun h3 => h3.elim (fun h4 => h h4.symm) h2)]; rfl
theorem mput_nodup {κ β : Type} [DecidableEq κ] {m : List (κ × β)} (h : (m.map (·.1)).Nodup) (k : κ) (v : β) : ((mput m k v).map (·.1)).Nodup := by
 rw [mput_keys]
 split
 ·exact h
 ·rename_i hk
  rw [List.nodup_append]
  exact ⟨h, by simp, fun a ha b hb h4 => by simp only [List.mem_singleton] at hb; subst hb h4; exact hk ha⟩
def fnd {κ : Type} [DecidableEq κ] (k : κ) : List MapEntry → List κ → Nat → Option (Nat × Value)
 | e :: es, x :: xs, i => if x = k then some (i, e.val) else fnd k es xs (i + 1)
 | _, _, _ => none
structure KeyOk (P : Program) (t : TypeId) {κ : Type} [DecidableEq κ] (emb : κ → Value) : Prop where
 check : ∀ (e : Bool) (k : κ) (w : World), (Instr.checkKey e 10000 t (emb k)).run P w = .ok () w
 find : ∀ (k : κ) (es : List MapEntry) (m : List κ), es.map (·.key) = m.map emb → ∀ w, (Instr.findKey t (emb k) es).run P w = .ok (fnd k es m 0) w
 bits : ∀ k, Instr.sameBits 10000 (emb k) (emb k) = true
theorem checkKey_flat {P : Program} {t : TypeId} {d : TypeDesc} {v : Value} (hd : P.underlying t = some d) (h : (d = .string ∧ ∃ s, v = .string s) ∨ (∃ k, d = .int k) ∧ ∃ k n, v = .int k n) (e : Bool) (w : World) (n : Nat) : (Instr.checkKey e (n + 1) t v).run P w = .ok () w := by
 unfold Instr.checkKey
 simp only [Sem.run_bind, run_underlying hd, Result.andThen]
 rcases h with ⟨rfl, s, rfl⟩ | ⟨⟨k, rfl⟩, k', m, rfl⟩ <;> rfl
theorem fnd_str (s : BA) : ∀ (es : List MapEntry) (m : LB) (i : Nat), es.map (·.key) = m.map .string → Instr.findNow .string (.string s) es i = some (fnd s es m i)
 | [], m, i, h => by simp [Instr.findNow, fnd]
 | e :: es, [], i, h => by simp at h
 | e :: es, x :: xs, i, h => by
  simp only [List.map_cons, List.cons.injEq] at h
  have hb : (s == x) = decide (x = s) := by rw [Bool.eq_iff_iff, MapKept.bytes_beq, decide_eq_true_eq]; exact eq_comm
  simp only [Instr.findNow, h.1, Instr.sameNow, hb, fnd]
  by_cases hx : x = s
  ·simp [hx]
  ·simp only [hx, decide_false, if_false]; exact fnd_str s es xs (i + 1) h.2
theorem fnd_int (k : IntKind) (s : Int) : ∀ (es : List MapEntry) (m : LI) (i : Nat), es.map (·.key) = m.map (.int k) → Instr.findNow (.int k) (.int k s) es i = some (fnd s es m i)
 | [], m, i, h => by simp [Instr.findNow, fnd]
 | e :: es, [], i, h => by simp at h
 | e :: es, x :: xs, i, h => by
  simp only [List.map_cons, List.cons.injEq] at h
  have hb : (s == x) = decide (x = s) := by rw [Bool.eq_iff_iff]; simp only [beq_iff_eq, decide_eq_true_eq]; exact eq_comm
  simp only [Instr.findNow, h.1, Instr.sameNow, hb, fnd]
  by_cases hx : x = s
  ·simp [hx]
  ·simp only [hx, decide_false, if_true, if_false]; exact fnd_int k s es xs (i + 1) h.2
theorem keyStr {P : Program} {t : TypeId} (h : P.underlying t = some .string) : KeyOk P t (Value.string) where
 check e k w := checkKey_flat h (.inl ⟨rfl, k, rfl⟩) e w _
 find k es m hm w := by simp [Instr.findKey, run_underlying h, Result.andThen, fnd_str k es m 0 hm]
 bits k := by simp only [Instr.sameBits, MapKept.bytes_beq]
theorem keyInt {P : Program} {t : TypeId} {q : IntKind} (h : P.underlying t = some (.int q)) : KeyOk P t (Value.int q) where
 check e k w := checkKey_flat h (.inr ⟨⟨q, rfl⟩, q, k, rfl⟩) e w _
 find k es m hm w := by simp [Instr.findKey, run_underlying h, Result.andThen, fnd_int q k es m 0 hm]
 bits k := by simp [Instr.sameBits]
section
variable {P : Program} {n : Nat} {I : Init} {K : Act → World → Prop} {E : Env} {H : Ghost} {O : List HL} {Q : Exit → Act → World → Prop}
 {dst : Option Nat} {ty : TypeId} {pos : String} {af : Array Edge} {gd : Option (Nat × Bool)} {κ β : Type} [DecidableEq κ] {emb : κ → Value} {g : β → Value}
theorem fnd_mget (k : κ) : ∀ (es : List MapEntry) (m : List (κ × β)) (i : Nat), es.map (fun e => (e.key, e.val)) = m.map (fun p => (emb p.1, g p.2)) → (fnd k es (m.map (·.1)) i).map (·.2) = (mget m k).map g
 | [], [], i, h => rfl
 | [], p :: m, i, h => by simp at h
 | e :: es, [], i, h => by simp at h
 | e :: es, p :: m, i, h => by
  simp only [List.map_cons, List.cons.injEq, Prod.mk.injEq] at h
  simp only [List.map_cons, fnd, mget]
  split
  ·simp [h.1.2]
  ·exact fnd_mget k es m (i + 1) h.2
theorem keys_of {es : List MapEntry} {m : List (κ × β)} (h : es.map (fun e => (e.key, e.val)) = m.map (fun p => (emb p.1, g p.2))) : es.map (·.key) = (m.map (·.1)).map emb := by
 have := congrArg (List.map (·.1)) h
 simpa [List.map_map, Function.comp_def] using this
theorem run_getMap {w : World} {b : Nat} {ents : Array MapEntry} {clock : Nat} (h : w.heap[b]? = some (.map ents clock)) : (getObj b).run P w = .ok (.map ents clock) w := MapKept.run_getObj_map h
def mapL (emb : κ → Value) (g : β → Value) (m : List (κ × β)) : List (Value × Value) := m.map fun p => (emb p.1, g p.2)
theorem yLookup {t kt et b i : Nat} (ht : P.underlying t = some (.map kt et)) (hk : KeyOk P kt emb) (hz : ∀ w, (zeroValue et).run P w = .ok (g z) w) (hO : O[i]? = some (.map b (mapL emb g m))) (hx : ev E x = some (.map (some b))) (hy : ev E y = some (emb k)) : Yl P n E H O ⟨dst, .lookup t x y false, ty, pos, af, gd⟩ (g ((mget m k).getD z)) := by
 intro a w ha hs
 obtain ⟨e0, c0, hb, h4, -, -⟩ : MapObj w.heap[b]? (mapL emb g m) := hs.own _ (mG hO)
 have hf := hk.find k e0.toList _ (keys_of h4) w
 have hg := fnd_mget (emb := emb) (g := g) k e0.toList m 0 h4
 simp only [execOp, ha.eval hx, ha.eval hy, Instr.lookup, Sem.run_bind, run_underlying ht, Result.andThen_ok, run_getMap hb, Sem.run_pure, hk.check, hf]
 cases hq : fnd k e0.toList (m.map (·.1)) 0 with
 | some p => rw [hq] at hg; cases hm : mget m k with
  | some v => rw [hm] at hg; simp at hg; simp [hg]
  | none => rw [hm] at hg; simp at hg
 | none => rw [hq] at hg; cases hm : mget m k with
  | some v => rw [hm] at hg; simp at hg
  | none => simp [hz w, Result.andThen_ok]
theorem yLookupOk {t kt et b i : Nat} (ht : P.underlying t = some (.map kt et)) (hk : KeyOk P kt emb) (hz : ∀ w, (zeroValue et).run P w = .ok (g z) w) (hO : O[i]? = some (.map b (mapL emb g m))) (hx : ev E x = some (.map (some b))) (hy : ev E y = some (emb k)) : Yl P n E H O ⟨dst, .lookup t x y true, ty, pos, af, gd⟩ (.tuple #[g ((mget m k).getD z), .bool (mget m k).isSome]) := by
 intro a w ha hs
 obtain ⟨e0, c0, hb, h4, -, -⟩ : MapObj w.heap[b]? (mapL emb g m) := hs.own _ (mG hO)
 have hf := hk.find k e0.toList _ (keys_of h4) w
 have hg := fnd_mget (emb := emb) (g := g) k e0.toList m 0 h4
 simp only [execOp, ha.eval hx, ha.eval hy, Instr.lookup, Sem.run_bind, run_underlying ht, Result.andThen_ok, run_getMap hb, Sem.run_pure, hk.check, hf]
 cases hq : fnd k e0.toList (m.map (·.1)) 0 with
 | some p => rw [hq] at hg; cases hm : mget m k with
  | some v => rw [hm] at hg; simp at hg; simp [hg]
  | none => rw [hm] at hg; simp at hg
 | none => rw [hq] at hg; cases hm : mget m k with
  | some v => rw [hm] at hg; simp at hg
  | none => simp [hz w, Result.andThen_ok]
theorem yLenMap {t kt et b i : Nat} {es : List (Value × Value)} (ht : P.underlying t = some (.map kt et)) (hO : O[i]? = some (.map b es)) (hx : ev E x = some (.map (some b))) :
  Yl P n E H O ⟨dst, .call { callee := .builtin .len, args := #[x], argTypes := #[t] }, ty, pos, af, gd⟩ (.int .i64 es.length) := by
 intro a w ha hs
 obtain ⟨e0, c0, hb, h4, -, -⟩ : MapObj w.heap[b]? es := hs.own _ (mG hO)
 have hl : e0.size = es.length := by rw [← h4]; simp
 simp only [execOp, resolve, invoke, builtin, Sem.run_bind, Sem.run_pure, Result.andThen_ok, List.map_toArray, List.map_cons, List.map_nil, ha.eval hx]
 simp [Builtin.len_, run_underlying ht, goInt, run_getMap hb, hl]
theorem Step.setObj {w : World} {b : Nat} {o : Obj} {h h' : HL} (hs : St H [h] w) (hf : h.fp = [b]) (hf' : h'.fp = [b]) (hsat : h'.sat { w with heap := w.heap.setIfInBounds b o }) : Step H [h] w H [h'] { w with heap := w.heap.setIfInBounds b o } := by
 have h4 : b ∈ fps [h] := by simp [fps, hf]
 have h5 := (hs.apart b h4)
 have h6 : ∀ c, c ≠ b → (w.heap.setIfInBounds b o)[c]? = w.heap[c]? := fun c hc => by simp [Ne.symm hc]
 refine ⟨⟨fun c p hc => ?_, fun x hx => ?_, fun c hc => ?_, ?_⟩, Ghost.le.refl _, rfl, rfl, rfl, by simp, fun c hc hn => h6 c (fun e => hn (e ▸ h4)), fun c p hc => .inl (by rw [hc]; simp), fun c hc => ?_, fun _ => Nat.le_refl _⟩
 ·show (w.heap.setIfInBounds b o)[c]? = _
  rw [h6 c (fun e => by rw [e, h5.1] at hc; cases hc)]
  exact hs.ghost c p hc
 ·simp only [List.mem_singleton] at hx
  subst hx
  exact hsat
 ·simp only [fps, List.flatMap_cons, List.flatMap_nil, List.append_nil, hf', List.mem_singleton] at hc
  subst hc
  exact ⟨h5.1, by simpa using h5.2⟩
 ·simp [fps, hf']
 ·simp only [fps, List.flatMap_cons, List.flatMap_nil, List.append_nil, hf', List.mem_singleton] at hc
  subst hc
  exact .inl h4
theorem fnd_put (k : κ) (v : β) (clock : Nat) : ∀ (es : List MapEntry) (m : List (κ × β)) (i : Nat), es.map (fun e => (e.key, e.val)) = m.map (fun p => (emb p.1, g p.2)) →
  (match fnd k es (m.map (·.1)) i with
   | some p => ∃ j e, p.1 = i + j ∧ es[j]? = some e ∧ e.key = emb k ∧ (es.modify j fun e => { e with key := emb k, val := g v }).map (fun e => (e.key, e.val)) = (mput m k v).map (fun p => (emb p.1, g p.2))
   | none => (es ++ [(⟨emb k, g v, clock⟩ : MapEntry)]).map (fun e => (e.key, e.val)) = (mput m k v).map (fun p => (emb p.1, g p.2)))
 | [], [], i, h => rfl
 | [], p :: m, i, h => by simp at h
 | e :: es, [], i, h => by simp at h
 | e :: es, p :: m, i, h => by
  simp only [List.map_cons, List.cons.injEq, Prod.mk.injEq] at h
  have ih := fnd_put k v clock es m (i + 1) h.2
  simp only [List.map_cons, fnd, mput]
  by_cases hp : p.1 = k
  ·simp only [hp, if_true]
   exact ⟨0, e, rfl, rfl, by rw [h.1.1, hp], by simp [h.2]⟩
  ·simp only [hp, if_false]
   cases hq : fnd k es (m.map (·.1)) (i + 1) with
   | some r =>
    rw [hq] at ih
    obtain ⟨j, e', h1, h2, h3, h4⟩ := ih
    exact ⟨j + 1, e', by rw [h1]; omega, by simpa using h2, h3, by simp [h.1.1, h.1.2, h4]⟩
   | none => rw [hq] at ih; simp only [List.cons_append, List.map_cons, ih, h.1.1, h.1.2]
theorem modify_born {es : List MapEntry} {f : MapEntry → MapEntry} (hf : ∀ e, (f e).born = e.born) : (es.modify j f).map (·.born) = es.map (·.born) := by
 induction es generalizing j with
 | nil => cases j <;> rfl
 | cons e es ih => cases j with
  | zero => simp [hf]
  | succ j => simp [ih]
theorem pw_born {es : List MapEntry} : es.Pairwise (fun a b => a.born < b.born) ↔ (es.map (·.born)).Pairwise (· < ·) := by rw [List.pairwise_map]
theorem MapObj.modify {ents : Array MapEntry} {clock : Nat} {f : MapEntry → MapEntry} {es' : List (Value × Value)} (hf : ∀ e, (f e).born = e.born) (hp : ents.toList.Pairwise (fun a b => a.born < b.born)) (hc : ∀ e ∈ ents.toList, e.born < clock) (he : (ents.toList.modify j f).map (fun e => (e.key, e.val)) = es') : MapObj (some (.map (ents.modify j f) clock)) es' := by
 have hl : (ents.modify j f).toList = ents.toList.modify j f := by simp
 refine ⟨_, _, rfl, by rw [hl]; exact he, ?_, fun e h4 => ?_⟩
 ·rw [hl, pw_born, modify_born hf, ← pw_born]; exact hp
 ·rw [hl] at h4
  have : e.born ∈ (ents.toList.modify j f).map (·.born) := List.mem_map.2 ⟨e, h4, rfl⟩
  rw [modify_born hf] at this
  obtain ⟨e2, h2, h3⟩ := List.mem_map.1 this
  rw [← h3]; exact hc e2 h2
theorem MapObj.push {ents : Array MapEntry} {clock : Nat} {k v : Value} {es' : List (Value × Value)} (hp : ents.toList.Pairwise (fun a b => a.born < b.born)) (hc : ∀ e ∈ ents.toList, e.born < clock) (he : (ents.toList ++ [(⟨k, v, clock⟩ : MapEntry)]).map (fun e => (e.key, e.val)) = es') : MapObj (some (.map (ents.push ⟨k, v, clock⟩) (clock + 1))) es' := by
 refine ⟨_, _, rfl, by simpa using he, ?_, fun e h4 => ?_⟩
 ·simp only [Array.toList_push, List.pairwise_append]
  exact ⟨hp, by simp, fun a ha b hb => by simp only [List.mem_singleton] at hb; subst hb; exact hc a ha⟩
 ·simp only [Array.toList_push, List.mem_append, List.mem_singleton] at h4
  rcases h4 with h4 | rfl
  ·have := hc e h4; omega
  ·simp
theorem run_mapUpdate {t kt et b : Nat} {w : World} (ht : P.underlying t = some (.map kt et)) (hk : KeyOk P kt emb) (hm : MapObj w.heap[b]? (mapL emb g m)) :
  ∃ o, (Instr.mapUpdate t (.map (some b)) (emb k) (g v)).run P w = .ok () { w with heap := w.heap.setIfInBounds b o } ∧ MapObj (some o) (mapL emb g (mput m k v)) := by
 obtain ⟨e0, c0, hb, h8, hp, hc⟩ := hm
 have hf := hk.find k e0.toList _ (keys_of h8) w
 have hq := fnd_put (emb := emb) (g := g) k v c0 e0.toList m 0 h8
 have h5 : ∀ o, (setObj b o).run P w = .ok () { w with heap := w.heap.setIfInBounds b o } := fun o => MapKept.run_setObj_map o hb
 cases hr : fnd k e0.toList (m.map (·.1)) 0 with
 | some p =>
  rw [hr] at hq
  obtain ⟨j, e, h1, h2, h3, h4⟩ := hq
  have h6 : e0[p.1]? = some e := by rw [h1, Nat.zero_add, ← Array.getElem?_toList]; exact h2
  refine ⟨.map (e0.modify j fun e => { e with key := emb k, val := g v }) c0, ?_, MapObj.modify (fun _ => rfl) hp hc h4⟩
  have h7 : p.1 = j := by omega
  rw [h7] at h6
  simp only [Instr.mapUpdate, Sem.run_bind, run_underlying ht, Result.andThen_ok, run_getMap hb, hk.check, hf, hr, h6, Option.map_some, Option.getD_some, h3, Instr.keyThatStays, h7, h6, hk.bits, if_true, Sem.run_pure, h5]
 | none =>
  rw [hr] at hq
  refine ⟨.map (e0.push ⟨emb k, g v, c0⟩) (c0 + 1), ?_, MapObj.push hp hc hq⟩
  simp only [Instr.mapUpdate, Sem.run_bind, run_underlying ht, Result.andThen_ok, run_getMap hb, hk.check, hf, hr, h5]
theorem tMapUpd {t kt et b i : Nat} (ht : P.underlying t = some (.map kt et)) (hk : KeyOk P kt emb) (hO : O[i]? = some (.map b (mapL emb g m))) (hx : ev E x = some (.map (some b))) (hy : ev E y = some (emb k)) (hz : ev E z = some (g v)) (h : TK n I K E H (O.set i (.map b (mapL emb g (mput m k v))))) :
  TK n I (OpK P ⟨none, .mapUpdate t x y z, ty, pos, af, gd⟩ K Q) E H O := by
 refine TK.runSkip rfl fun a w ha hs => ?_
 have hm : MapObj w.heap[b]? (mapL emb g m) := hs.own _ (mG hO)
 obtain ⟨o, hr, ho⟩ := run_mapUpdate (k := k) (v := v) ht hk hm
 have h4 : b < w.heap.size := by obtain ⟨_, _, hb, _⟩ := hm; exact (Array.getElem?_eq_some_iff.1 hb).1
 refine ⟨_, H, _, ?_, Step.set_ hs hO (fun h0 => Step.setObj (b := b) (o := o) h0 rfl rfl ?_), h⟩
 ·simp only [execOp, ha.eval hx, ha.eval hy, ha.eval hz, Sem.run_bind, hr, Result.andThen_ok, Sem.run_pure]
 ·show MapObj _ _
  simp only [Array.getElem?_setIfInBounds_self_of_lt h4]
  exact ho
theorem tInsert {t kt et b i : Nat} (ht : P.underlying t = some (.map kt et)) (hk : KeyOk P kt emb) (hO : O[i]? = some (.map b (mapL emb g m))) (hx : ev E x = some (.map (some b))) (hy : ev E y = some (emb k)) (hz : ev E z = some (g v)) (h : TK n I K E H (O.set i (.map b (mapL emb g (mput m k v))))) :
  TK n I (OpK P ⟨none, .insert t x y z, ty, pos, af, gd⟩ K Q) E H O := by
 refine TK.runSkip rfl fun a w ha hs => ?_
 have hm : MapObj w.heap[b]? (mapL emb g m) := hs.own _ (mG hO)
 obtain ⟨o, hr, ho⟩ := run_mapUpdate (k := k) (v := v) ht hk hm
 have h4 : b < w.heap.size := by obtain ⟨_, _, hb, _⟩ := hm; exact (Array.getElem?_eq_some_iff.1 hb).1
 refine ⟨_, H, _, ?_, Step.set_ hs hO (fun h0 => Step.setObj (b := b) (o := o) h0 rfl rfl ?_), h⟩
 ·simp only [execOp, ha.eval hx, ha.eval hy, ha.eval hz, Sem.run_bind, hr, Result.andThen_ok, Sem.run_pure]
 ·show MapObj _ _
  simp only [Array.getElem?_setIfInBounds_self_of_lt h4]
  exact ho
theorem mapOpen {i b : Nat} {es : List (Value × Value)} (hO : O[i]? = some (.map b es)) (h : ∀ (ents : Array MapEntry) (clock : Nat), MapObj (some (.map ents clock)) es → TK n I K E H (O.set i (.obj b (.map ents clock)))) : TK n I K E H O := by
 refine TK.step fun w hs => ?_
 obtain ⟨ents, clock, hb, h1, h2, h3⟩ : MapObj w.heap[b]? es := hs.own _ (mG hO)
 refine ⟨H, _, Step.set_ (h' := .obj b (.map ents clock)) hs hO (fun h0 => ?_), h ents clock ⟨_, _, rfl, h1, h2, h3⟩⟩
 refine { Step.refl h0 with st := ⟨h0.ghost, fun x hx => ?_, h0.apart, h0.nodup⟩, newO := fun c hc => .inl hc }
 simp only [List.mem_singleton] at hx; subst hx; exact hb
def itObj (b : Nat) (ents : Array MapEntry) (clock : Nat) (dn : List Nat) : Obj := .mapIter (some b) clock (dn.map fun i => (ents[i]?.map (·.born)).getD 0).toArray clock
theorem tRange {t kt et b i d : Nat} {ents : Array MapEntry} {clock : Nat} (ht : P.underlying t = some (.map kt et)) (hO : O[i]? = some (.obj b (.map ents clock))) (hx : ev E x = some (.map (some b))) (hd : d < n) (h : ∀ r, TK n I K ((d, .pointer (some ⟨r, 0, none⟩)) :: E) H (.obj r (itObj b ents clock []) :: O)) : TK n I (OpK P ⟨some d, .range t x, ty, pos, af, gd⟩ K Q) E H O := by
 refine TK.run rfl hd fun a w ha hs => ⟨_, w.alloc (itObj b ents clock []), H, _, ?_, Step.new_ (O' := [.obj w.heap.size (itObj b ents clock [])]) hs (fun h0 => Step.alloc h0 rfl (heap_alloc_new w _)), h _⟩
 have hb : w.heap[b]? = some (.map ents clock) := hs.own _ (mG hO)
 simp only [execOp, ha.eval hx, Sem.run_bind, run_range_map w t kt et b ents clock ht hb, Result.andThen_ok, Sem.run_pure]
 rfl
theorem born_inj {ents : Array MapEntry} (hp : ents.toList.Pairwise (fun a b => a.born < b.born)) {i j : Nat} (hi : ents[i]? = some x) (hj : ents[j]? = some y) (h : x.born = y.born) : i = j := by
 have h6 : ents.toList[i]? = some x := by rw [Array.getElem?_toList]; exact hi
 have h7 : ents.toList[j]? = some y := by rw [Array.getElem?_toList]; exact hj
 obtain ⟨h1, h5⟩ := gE h6
 obtain ⟨h2, h4⟩ := gE h7
 rw [List.pairwise_iff_getElem] at hp
 rcases Nat.lt_trichotomy i j with h3 | h3 | h3
 ·have := hp i j h1 h2 h3; rw [h5, h4] at this; omega
 ·exact h3
 ·have := hp j i h2 h1 h3; rw [h5, h4] at this; omega
theorem Step.two {O : List HL} {w w' : World} {i : Nat} {b : Nat} {o : Obj} (hs : St H O w) (hO : O[i]? = some (.obj b o)) (hw : w' = { w with heap := w.heap.setIfInBounds b o' } ∨ w' = { w.drew with heap := w.heap.setIfInBounds b o' }) : Step H O w H (O.set i (.obj b o')) w' := by
 have hb : w.heap[b]? = some o := hs.own _ (mG hO)
 have h4 : b < w.heap.size := (Array.getElem?_eq_some_iff.1 hb).1
 have h1 : Step H O w H (O.set i (.obj b o')) { w with heap := w.heap.setIfInBounds b o' } :=
  Step.set_ hs hO (fun h0 => Step.setObj (b := b) (o := o') h0 rfl rfl (by show _ = _; simp [h4]))
 rcases hw with rfl | rfl
 ·exact h1
 ·exact StepG.trans h1 (Step.drew h1.st _ (Nat.le_succ _))
theorem tNext {i j r d : Nat} (hI : O[i]? = some (.obj r (itObj b ents clock dn))) (hO : O[j]? = some (.obj b (.map ents clock))) (hm : MapObj (some (.map ents clock)) es) (hx : ev E x = some (.pointer (some ⟨r, 0, none⟩))) (hd : d < n) (hdn : ∀ q ∈ dn, q < es.length) (h0 : (∀ q, q < es.length → q ∈ dn) → TK n I K ((d, .tuple #[.bool false]) :: E) H O) (h1 : ∀ q k v, es[q]? = some (k, v) → q ∉ dn → TK n I K ((d, .tuple #[.bool true, k, v]) :: E) H (O.set i (.obj r (itObj b ents clock (dn ++ [q]))))) : TK n I (OpK P ⟨some d, .next x false, ty, pos, af, gd⟩ K Q) E H O := by
 obtain ⟨_, _, e1, h9, hp, hc⟩ := hm
 injection e1 with e1; injection e1 with e1 e2; subst e1 e2
 have hlen : ents.size = es.length := by rw [← h9]; simp
 have h6 : ∀ q (hq : q ∈ dn), ∃ e, ents[q]? = some e := fun q hq => ⟨_, Array.getElem?_eq_getElem (by rw [hlen]; exact hdn q hq)⟩
 refine TK.run rfl hd fun a w ha hs => ?_
 have hr : w.heap[r]? = some (itObj b ents clock dn) := hs.own _ (mG hI)
 have hb : w.heap[b]? = some (.map ents clock) := hs.own _ (mG hO)
 rcases run_next_at (P := P) w ty r b clock clock _ ents clock hr hb hc (Nat.le_refl _) with ⟨h2, h3⟩ | ⟨e, he, w1, hw1, h3⟩
 ·refine ⟨_, w, H, O, ?_, .refl hs, h0 fun q hq => ?_⟩
  ·simp only [execOp, ha.eval hx, Sem.run_bind, h3, Result.andThen_ok, Sem.run_pure]
  ·have b5 : q < ents.size := by omega
   have h4 : ents[q] ∉ leftOf ents (dn.map fun i => (ents[i]?.map (·.born)).getD 0).toArray := by
    rw [Array.eq_empty_of_size_eq_zero h2]; simp
   rw [leftOf, Array.mem_filter] at h4
   have h4 : (dn.map fun i => (ents[i]?.map (·.born)).getD 0).toArray.contains ents[q].born = true := by
    cases hcc : (dn.map fun i => (ents[i]?.map (·.born)).getD 0).toArray.contains ents[q].born with
    | true => rfl
    | false => exact absurd ⟨Array.getElem_mem b5, by rw [hcc]; rfl⟩ h4
   rw [Array.contains_iff_mem, List.mem_toArray, List.mem_map] at h4
   obtain ⟨i2, b7, b4⟩ := h4
   obtain ⟨e2, b6⟩ := h6 i2 b7
   rw [b6] at b4
   have := born_inj hp (i := i2) (j := q) b6 (Array.getElem?_eq_getElem b5) (by simpa using b4)
   exact this ▸ b7
 ·simp only [leftOf, Array.toList_filter, List.mem_filter, Bool.not_eq_true', Array.mem_toList_iff] at he
  obtain ⟨he, h8⟩ := he
  obtain ⟨q, hq, h7⟩ := Array.mem_iff_getElem.1 he
  have b9 : es[q]? = some (e.key, e.val) := by
   rw [← h9, List.getElem?_map, Array.getElem?_toList, Array.getElem?_eq_getElem hq, h7]; rfl
  have c0 : q ∉ dn := fun b8 => by
   have : (dn.map fun i => (ents[i]?.map (·.born)).getD 0).toArray.contains e.born = true := by
    rw [Array.contains_iff_mem, List.mem_toArray, List.mem_map]
    exact ⟨q, b8, by rw [Array.getElem?_eq_getElem hq, h7]; rfl⟩
   rw [this] at h8; cases h8
  have h5 : (dn.map fun i => (ents[i]?.map (·.born)).getD 0).toArray.push e.born = ((dn ++ [q]).map fun i => (ents[i]?.map (·.born)).getD 0).toArray := by
   simp [Array.getElem?_eq_getElem hq, h7]
  refine ⟨_, ChangeMaps.setBlock w1 r (itObj b ents clock (dn ++ [q])), H, _, ?_, Step.two (o' := itObj b ents clock (dn ++ [q])) hs hI ?_, h1 q _ _ b9 c0⟩
  ·rw [h5] at h3
   simp only [execOp, ha.eval hx, Sem.run_bind, h3, Result.andThen_ok, Sem.run_pure]
   rfl
  ·rcases hw1 with rfl | rfl
   ·exact .inl rfl
   ·exact .inr rfl
theorem yEntry {i j r q : Nat} {dn : List Nat} {k v : Value} (hI : O[i]? = some (.obj r (itObj b ents clock (dn ++ [q])))) (hO : O[j]? = some (.obj b (.map ents clock))) (hm : MapObj (some (.map ents clock)) es) (hq : es[q]? = some (k, v)) (hx : ev E x = some (.pointer (some ⟨r, 0, none⟩))) :
  Yl P n E H O ⟨dst, .entry x, ty, pos, af, gd⟩ (.tuple #[k, v]) := by
 obtain ⟨_, _, e1, h6, hp, hc⟩ := hm
 injection e1 with e1; injection e1 with e1 e2; subst e1 e2
 intro a w ha hs
 have hr : w.heap[r]? = some (itObj b ents clock (dn ++ [q])) := hs.own _ (mG hI)
 have hb : w.heap[b]? = some (.map ents clock) := hs.own _ (mG hO)
 rw [← h6, List.getElem?_map, Array.getElem?_toList] at hq
 obtain ⟨e, he, h4⟩ := Option.map_eq_some_iff.1 hq
 simp only [Prod.mk.injEq] at h4
 have h5 : w.heap[r]? = some (.mapIter (some b) clock ((dn.map fun i => (ents[i]?.map (·.born)).getD 0).toArray.push e.born) clock) := by
  rw [hr]; simp [itObj, he]
 have h3 := run_entry_at (P := P) w r b clock _ ents clock e h5 hb (by rw [Array.mem_toList_iff]; exact Array.mem_of_getElem? he) (by
  have := hp; rw [pw_born] at this; exact this.imp (fun h => Nat.ne_of_lt h))
 simp only [execOp, ha.eval hx, Sem.run_bind, h3, Result.andThen_ok, Sem.run_pure, h4.1, h4.2]
end
end
end Go.Proofs.YtookcfeogbeooaaGreatDoor
