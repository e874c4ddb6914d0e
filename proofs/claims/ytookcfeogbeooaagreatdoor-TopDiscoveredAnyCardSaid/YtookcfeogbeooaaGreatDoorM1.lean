/-
Short names of this claim: small proofs that find themselves, short words for types. The frame of this claim's walks: a symbolic state (what the temporaries hold, what memory is sealed, what memory is owned), and how a statement about it goes over one operation.
Conditions: those that each theorem states.
-/
import Derived.WalkKit
import Derived.OwnWalk
import Derived.OrdersHeld
import Derived.Deep.LoopGhost
import Derived.Maps.AppendAt
set_option linter.all false
set_option maxRecDepth 100000
set_option maxHeartbeats 8000000
set_option autoImplicit true
set_option relaxedAutoImplicit true
namespace Go.Proofs.YtookcfeogbeooaaGreatDoor
open Go Go.Proofs
theorem oM {p : Prop} (h : p := by omega) : p := h
theorem dC {p : Prop} (h : p := by decide) : p := h
theorem mG {α : Type} {l : List α} {i : Nat} {a : α} (h : l[i]? = some a) : a ∈ l := List.mem_of_getElem? h
theorem gE {α : Type} {l : List α} {i : Nat} {a : α} (h : l[i]? = some a) : ∃ h : i < l.length, l[i] = a := List.getElem?_eq_some_iff.1 h
abbrev BA := ByteArray
abbrev OA := Option Addr
abbrev LV := List Value
abbrev LI := List Int
abbrev LB := List BA
abbrev ad (b : Nat) : OA := some ⟨b, 0, none⟩
section
abbrev Env := List (Nat × Value)
def look : Env → Nat → Option Value
 | [], _ => none
 | (k, v) :: r, t => match Nat.beq k t with
  | true => some v
  | false => look r t
def ev (E : Env) : Operand → Option Value
 | .tmp t => look E t
 | .const v => some v
 | .global g => some (.pointer (some ⟨g, 0, none⟩))
 | .func f => some (.func (.func f) #[] #[])
structure EnvOk (n : Nat) (E : Env) (a : Act) : Prop where
 defers : a.defers = []
 size : a.tmps.size = n
 get : ∀ t v, look E t = some v → a.tmps[t]? = some v
theorem EnvOk.tmp {n : Nat} {a : Act} (h : EnvOk n E a) {t : Nat} (hx : look E t = some v) : a.tmps.getD t undef = v := by
 have := h.get t v hx
 simp [Array.getD_eq_getD_getElem?, this]
theorem EnvOk.eval {n : Nat} {a : Act} (h : EnvOk n E a) (hx : ev E x = some v) : a.eval x = v := by
 cases x with
 | tmp t => exact h.tmp hx
 | const v' => simpa [ev, Act.eval] using hx
 | global g => simpa [ev, Act.eval] using hx
 | func f => simpa [ev, Act.eval] using hx
theorem EnvOk.put {n : Nat} {a : Act} (h : EnvOk n E a) (d : Nat) (v : Value) (hd : d < n) : EnvOk n ((d, v) :: E) (a.put (some d) v) := by
 refine ⟨h.defers, by simp [Act.put, h.size], fun t u hu => ?_⟩
 simp only [look] at hu
 cases hb : Nat.beq d t with
 | true =>
  rw [hb] at hu
  simp only [Option.some.injEq] at hu
  have h4 : d = t := Nat.eq_of_beq_eq_true hb
  subst h4 hu
  have : d < a.tmps.size := by rw [h.size]; exact hd
  simp [Act.put, this]
 | false =>
  rw [hb] at hu
  have h4 : d ≠ t := Nat.ne_of_beq_eq_false hb
  have := h.get t u hu
  simp [Act.put, Array.getElem?_setIfInBounds_ne h4, this]
theorem EnvOk.mono {n : Nat} {a : Act} (h : EnvOk n E a) (hE : ∀ t v, look E' t = some v → look E t = some v) : EnvOk n E' a :=
 ⟨h.defers, h.size, fun t v ht => h.get t v (hE t v ht)⟩
def Sub (E : Env) : Env → Prop
 | [] => True
 | (t, v) :: r => look E t = some v ∧ Sub E r
theorem Sub.mono : ∀ {E' : Env}, Sub E E' → ∀ t v, look E' t = some v → look E t = some v
 | [], _, t, v, h => by simp [look] at h
 | (k, u) :: r, hs, t, v, h => by
  simp only [look] at h
  cases hb : Nat.beq k t with
  | true =>
   rw [hb] at h
   simp only [Option.some.injEq] at h
   have : k = t := Nat.eq_of_beq_eq_true hb
   subst this h
   exact hs.1
  | false => rw [hb] at h; exact Sub.mono hs.2 t v h
abbrev Ghost := Nat → Option Obj
def Ghost.le (H H' : Ghost) : Prop := ∀ b o, H b = some o → H' b = some o
theorem Ghost.le.refl (H : Ghost) : Ghost.le H H := fun _ _ h => h
theorem Ghost.le.trans {H : Ghost} (h : Ghost.le H H') (k : Ghost.le H' H'') : Ghost.le H H'' := fun b o x => k b o (h b o x)
inductive HL where
 | blk (b : Nat) (e : TypeId) (cs : LV)
 | row (e : TypeId) (k : Nat) (v : Value) (n : Nat) (cs : LV)
 | rows (e : TypeId) (k : Nat) (l : List (Value × Nat × LV))
 | map (b : Nat) (es : List (Value × Value))
 | maps (l : List (Nat × List (Value × Value)))
 | obj (b : Nat) (o : Obj)
 | pred (b : Nat) (p : Obj → Prop)
def vblk : Value → List Nat
 | .slice (some a) _ _ => [a.block]
 | _ => []
def HL.fp : HL → List Nat
 | .blk b _ _ => [b]
 | .row _ _ v _ _ => vblk v
 | .rows _ _ l => l.flatMap fun x => vblk x.1
 | .map b _ => [b]
 | .maps l => l.map (·.1)
 | .obj b _ => [b]
 | .pred b _ => [b]
def MapObj (o : Option Obj) (es : List (Value × Value)) : Prop :=
 ∃ ents clock, o = some (.map ents clock) ∧ (ents.toList.map fun e => (e.key, e.val)) = es ∧ ents.toList.Pairwise (fun a b => a.born < b.born) ∧ ∀ e ∈ ents.toList, e.born < clock
def HL.sat (w : World) : HL → Prop
 | .blk b e cs => w.heap[b]? = some (.cells cs.toArray e (0, 0))
 | .row e k v n cs => w.ownsRow 0 e k v n cs
 | .rows e k l => ∀ x ∈ l, w.ownsRow 0 e k x.1 x.2.1 x.2.2
 | .map b es => MapObj w.heap[b]? es
 | .maps l => ∀ x ∈ l, MapObj w.heap[x.1]? x.2
 | .obj b o => w.heap[b]? = some o
 | .pred b p => ∃ o, w.heap[b]? = some o ∧ p o
theorem ownsRow_local {w w' : World} {e : TypeId} (hb : ∀ b ∈ vblk v, w'.heap[b]? = w.heap[b]?) (h : w.ownsRow 0 e k v n cs) : w'.ownsRow 0 e k v n cs := by
 refine ⟨h.1, ?_⟩
 rcases h.2 with hn | ⟨g, cap, cur, rfl, hg, hh, r⟩
 ·exact .inl hn
 ·exact .inr ⟨g, cap, cur, rfl, hg, by rw [hb g (by simp [vblk])]; exact hh, r⟩
theorem HL.sat_local {w w' : World} {h : HL} (hb : ∀ b ∈ h.fp, w'.heap[b]? = w.heap[b]?) (hs : h.sat w) : h.sat w' := by
 cases h with
 | blk b e cs => exact (hb b (by simp [HL.fp])).trans hs
 | row e k v n cs => exact ownsRow_local hb hs
 | rows e k l => exact fun x hx => ownsRow_local (fun b h4 => hb b (List.mem_flatMap.2 ⟨x, hx, h4⟩)) (hs x hx)
 | map b es => have := hb b (by simp [HL.fp]); simp only [HL.sat, this]; exact hs
 | maps l => exact fun x hx => by have := hb x.1 (List.mem_map.2 ⟨x, hx, rfl⟩); rw [this]; exact hs x hx
 | obj b o => exact (hb b (by simp [HL.fp])).trans hs
 | pred b p => have := hb b (by simp [HL.fp]); simp only [HL.sat, this]; exact hs
theorem ownsRow_lt {w : World} {e : TypeId} (h : w.ownsRow 0 e k v n cs) : ∀ b ∈ vblk v, b < w.heap.size := by
 rcases h.2 with ⟨rfl, _⟩ | ⟨g, cap, cur, rfl, hg, hh, r⟩
 ·simp [vblk]
 ·simp only [vblk, List.mem_singleton]; rintro b rfl; exact (Array.getElem?_eq_some_iff.1 hh).1
def fps (O : List HL) : List Nat := O.flatMap HL.fp
theorem fps_append (O F : List HL) : fps (O ++ F) = fps O ++ fps F := by simp [fps]
theorem fps_cons (h : HL) (F : List HL) : fps (h :: F) = h.fp ++ fps F := by simp [fps]
theorem fps_perm {O : List HL} (h : O.Perm O') : (fps O).Perm (fps O') := by
 induction h with
 | nil => exact .refl _
 | cons x _ ih => rw [fps_cons, fps_cons]; exact ih.append_left _
 | swap x y l => rw [fps_cons, fps_cons, fps_cons, fps_cons, ← List.append_assoc, ← List.append_assoc]; exact List.perm_append_comm.append_right _
 | trans _ _ ih1 ih2 => exact ih1.trans ih2
structure St (H : Ghost) (O : List HL) (w : World) : Prop where
 ghost : ∀ b o, H b = some o → w.heap[b]? = some o
 own : ∀ h ∈ O, h.sat w
 apart : ∀ b ∈ fps O, H b = none ∧ b < w.heap.size
 nodup : (fps O).Nodup
theorem St.lt {H : Ghost} {O : List HL} {w : World} (h : St H O w) {o : Obj} (hb : H b = some o) : b < w.heap.size :=
 (Array.getElem?_eq_some_iff.1 (h.ghost b o hb)).1
theorem St.perm {H : Ghost} {O : List HL} {w : World} (h : St H O w) (hp : O.Perm O') : St H O' w :=
 ⟨h.ghost, fun x hx => h.own x (hp.mem_iff.2 hx), fun b hb => h.apart b ((fps_perm hp).mem_iff.2 hb), (fps_perm hp).nodup_iff.1 h.nodup⟩
theorem St.left {H : Ghost} {O F : List HL} {w : World} (h : St H (O ++ F) w) : St H O w :=
 ⟨h.ghost, fun x hx => h.own x (List.mem_append_left _ hx), fun b hb => h.apart b (by rw [fps_append]; exact List.mem_append_left _ hb), by have := h.nodup; rw [fps_append] at this; exact (List.nodup_append.1 this).1⟩
structure StepG (D : Prop) (H : Ghost) (O : List HL) (w : World) (H' : Ghost) (O' : List HL) (w' : World) : Prop where
 st : St H' O' w'
 le : Ghost.le H H'
 os : w'.os = w.os
 tape : w'.tape = w.tape
 output : w'.output = w.output
 size : w.heap.size ≤ w'.heap.size
 old : ∀ b, b < w.heap.size → b ∉ fps O → w'.heap[b]? = w.heap[b]?
 newH : ∀ b o, H' b = some o → H b ≠ none ∨ b ∈ fps O ∨ w.heap.size ≤ b
 newO : ∀ b ∈ fps O', b ∈ fps O ∨ w.heap.size ≤ b
 drawn : D → w.drawn ≤ w'.drawn
abbrev Step (H : Ghost) (O : List HL) (w : World) (H' : Ghost) (O' : List HL) (w' : World) : Prop := StepG True H O w H' O' w'
theorem StepG.any {D : Prop} {H : Ghost} {O : List HL} {w : World} (h : Step H O w H' O' w') : StepG D H O w H' O' w' := { h with drawn := fun _ => h.drawn trivial }
theorem StepG.weak {D D' : Prop} {H : Ghost} {O : List HL} {w : World} (hd : D' → D) (h : StepG D H O w H' O' w') : StepG D' H O w H' O' w' := { h with drawn := fun x => h.drawn (hd x) }
theorem StepG.refl {D : Prop} {H : Ghost} {O : List HL} {w : World} (h : St H O w) : StepG D H O w H O w :=
 ⟨h, Ghost.le.refl _, rfl, rfl, rfl, Nat.le_refl _, fun _ _ _ => rfl, fun b o hb => .inl (by rw [hb]; simp), fun b hb => .inl hb, fun _ => Nat.le_refl _⟩
theorem StepG.trans {D : Prop} {H : Ghost} {O : List HL} {w : World} (h : StepG D H O w H' O' w') (k : StepG D H' O' w' H'' O'' w'') : StepG D H O w H'' O'' w'' := by
 refine ⟨k.st, h.le.trans k.le, k.os.trans h.os, k.tape.trans h.tape, k.output.trans h.output, Nat.le_trans h.size k.size, fun b hb hn => ?_, fun b o hb => ?_, fun b hb => ?_, fun hd => Nat.le_trans (h.drawn hd) (k.drawn hd)⟩
 ·refine (k.old b (Nat.lt_of_lt_of_le hb h.size) fun h5 => ?_).trans (h.old b hb hn)
  rcases h.newO b h5 with x | x
  ·exact hn x
  ·omega
 ·rcases k.newH b o hb with x | x | x
  ·obtain ⟨o', h4⟩ := Option.ne_none_iff_exists'.1 x
   exact h.newH b o' h4
  ·exact .inr (h.newO b x)
  ·exact .inr (.inr (Nat.le_trans h.size x))
 ·rcases k.newO b hb with x | x
  ·exact h.newO b x
  ·exact .inr (Nat.le_trans h.size x)
theorem StepG.permR {D : Prop} {H : Ghost} {O : List HL} {w : World} (h : StepG D H O w H' O' w') (hp : O'.Perm O'') : StepG D H O w H' O'' w' :=
 { h with st := h.st.perm hp, newO := fun b hb => h.newO b ((fps_perm hp).mem_iff.2 hb) }
theorem StepG.permL {D : Prop} {H : Ghost} {O : List HL} {w : World} (h : StepG D H O w H' O' w') (hp : O.Perm O1) : StepG D H O1 w H' O' w' :=
 { h with
  old := fun b hb hn => h.old b hb fun hx => hn ((fps_perm hp).mem_iff.1 hx)
  newH := fun b o hb => (h.newH b o hb).imp id (Or.imp (fps_perm hp).mem_iff.1 id)
  newO := fun b hb => (h.newO b hb).imp (fps_perm hp).mem_iff.1 id }
theorem StepG.frame {D : Prop} {H : Ghost} {O : List HL} {w : World} (F : List HL) (h : StepG D H O w H' O' w') (hs : St H (O ++ F) w) : StepG D H (O ++ F) w H' (O' ++ F) w' := by
 have h8 := hs.nodup
 rw [fps_append, List.nodup_append] at h8
 obtain ⟨h1, h2, h3⟩ := h8
 have hF : ∀ b ∈ fps F, b < w.heap.size ∧ H b = none := fun b hb => by
  have := hs.apart b (by rw [fps_append]; exact List.mem_append_right _ hb)
  exact ⟨this.2, this.1⟩
 have h6 : ∀ b ∈ fps F, b ∉ fps O := fun b hb h7 => h3 b h7 b hb rfl
 have h4 : ∀ b ∈ fps F, w'.heap[b]? = w.heap[b]? := fun b hb => h.old b (hF b hb).1 (h6 b hb)
 have h5 : ∀ b ∈ fps F, b ∉ fps O' := fun b hb h7 => by
  rcases h.newO b h7 with x | x
  ·exact h6 b hb x
  ·have := (hF b hb).1; omega
 refine { h with st := ⟨h.st.ghost, fun x hx => ?_, fun b hb => ?_, ?_⟩, old := fun b hb hn => h.old b hb fun hx => hn (by rw [fps_append]; exact List.mem_append_left _ hx), newH := fun b o hb => (h.newH b o hb).imp id (Or.imp (fun hx => by rw [fps_append]; exact List.mem_append_left _ hx) id), newO := fun b hb => ?_ }
 ·rcases List.mem_append.1 hx with hx | hx
  ·exact h.st.own x hx
  ·exact HL.sat_local (fun b hb => h4 b (List.mem_flatMap.2 ⟨x, hx, hb⟩)) (hs.own x (List.mem_append_right _ hx))
 ·rw [fps_append] at hb
  rcases List.mem_append.1 hb with hb | hb
  ·exact h.st.apart b hb
  ·refine ⟨?_, Nat.lt_of_lt_of_le (hF b hb).1 h.size⟩
   cases hc : H' b with
   | none => rfl
   | some o =>
    rcases h.newH b o hc with x | x | x
    ·exact absurd (hF b hb).2 x
    ·exact absurd x (h6 b hb)
    ·have := (hF b hb).1; omega
 ·rw [fps_append, List.nodup_append]
  exact ⟨h.st.nodup, h2, fun a ha b hb h9 => h5 b hb (h9 ▸ ha)⟩
 ·rw [fps_append] at hb
  rw [fps_append]
  rcases List.mem_append.1 hb with hb | hb
  ·exact (h.newO b hb).imp (List.mem_append_left _) id
  ·exact .inl (List.mem_append_right _ hb)
theorem perm_at {α : Type} {h : α} : ∀ {O : List α} {i : Nat}, O[i]? = some h → ([h] ++ O.eraseIdx i).Perm O
 | [], _, hi => by simp at hi
 | x :: O, 0, hi => by
  simp only [List.getElem?_cons_zero, Option.some.injEq] at hi
  subst hi
  exact .refl _
 | x :: O, i + 1, hi => by
  rw [List.eraseIdx_cons_succ]
  exact (List.Perm.swap x h _).trans ((perm_at (O := O) (i := i) (by simpa using hi)).cons x)
theorem perm_set {α : Type} {O : List α} {i : Nat} {h h' : α} (hi : O[i]? = some h) : ([h'] ++ O.eraseIdx i).Perm (O.set i h') := by
 obtain ⟨hl, _⟩ := gE hi
 have : (O.set i h')[i]? = some h' := by simp [hl]
 have hp := perm_at this
 rwa [List.eraseIdx_set_eq] at hp
theorem StepG.at_ {D : Prop} {H : Ghost} {O : List HL} {w : World} {i : Nat} (hs : St H O w) (hi : O[i]? = some h) (k : St H [h] w → StepG D H [h] w H' O' w') : StepG D H O w H' (O' ++ O.eraseIdx i) w' := by
 have h4 : St H ([h] ++ O.eraseIdx i) w := hs.perm (perm_at hi).symm
 exact ((k h4.left).frame (O.eraseIdx i) h4).permL (perm_at hi)
theorem StepG.set_ {D : Prop} {H : Ghost} {O : List HL} {w : World} {i : Nat} {h' : HL} (hs : St H O w) (hi : O[i]? = some h) (k : St H [h] w → StepG D H [h] w H' [h'] w') : StepG D H O w H' (O.set i h') w' :=
 (StepG.at_ hs hi k).permR (perm_set hi)
theorem StepG.drop_ {D : Prop} {H : Ghost} {O : List HL} {w : World} {i : Nat} (hs : St H O w) (hi : O[i]? = some h) (k : St H [h] w → StepG D H [h] w H' [] w') : StepG D H O w H' (O.eraseIdx i) w' := by
 simpa using StepG.at_ hs hi k
theorem StepG.new_ {D : Prop} {H : Ghost} {O : List HL} {w : World} (hs : St H O w) (k : St H [] w → StepG D H [] w H' O' w') : StepG D H O w H' (O' ++ O) w' := by
 have h4 : St H ([] ++ O) w := hs
 have := (k h4.left).frame O h4
 simpa using this
theorem StepG.forget {D : Prop} {H : Ghost} {O O' F : List HL} {w : World} (h : StepG D H O w H' (O' ++ F) w') : StepG D H O w H' O' w' :=
 { h with st := h.st.left, newO := fun b hb => h.newO b (by rw [fps_append]; exact List.mem_append_left _ hb) }
theorem Step.refl {H : Ghost} {O : List HL} {w : World} (h : St H O w) : Step H O w H O w := StepG.refl h
theorem Step.trans {D : Prop} {H : Ghost} {O : List HL} {w : World} (h : StepG D H O w H' O' w') (k : StepG D H' O' w' H'' O'' w'') : StepG D H O w H'' O'' w'' := StepG.trans h k
theorem Step.set_ {D : Prop} {H : Ghost} {O : List HL} {w : World} {i : Nat} {h' : HL} (hs : St H O w) (hi : O[i]? = some h) (k : St H [h] w → StepG D H [h] w H' [h'] w') : StepG D H O w H' (O.set i h') w' := StepG.set_ hs hi k
theorem Step.drop_ {D : Prop} {H : Ghost} {O : List HL} {w : World} {i : Nat} (hs : St H O w) (hi : O[i]? = some h) (k : St H [h] w → StepG D H [h] w H' [] w') : StepG D H O w H' (O.eraseIdx i) w' := StepG.drop_ hs hi k
theorem Step.new_ {D : Prop} {H : Ghost} {O : List HL} {w : World} (hs : St H O w) (k : St H [] w → StepG D H [] w H' O' w') : StepG D H O w H' (O' ++ O) w' := StepG.new_ hs k
structure Init where
 D : Prop
 H : Ghost
 O : List HL
 w : World
def TK (n : Nat) (I : Init) (K : Act → World → Prop) (E : Env) (H : Ghost) (O : List HL) : Prop :=
 ∀ a w, EnvOk n E a → StepG I.D I.H I.O I.w H O w → K a w
section
variable {P : Program} {n : Nat} {I : Init} {K K' : Act → World → Prop} {E : Env} {H : Ghost} {O : List HL} {Q : Exit → Act → World → Prop}
def OpK (P : Program) (o : Oper) (K : Act → World → Prop) (Q : Exit → Act → World → Prop) : Act → World → Prop := fun a w => o.wp P a w K Q
theorem TK.run {o : Oper} (hd : o.dst = some d) (hn : d < n) (h : ∀ a w, EnvOk n E a → St H O w → ∃ v w' H' O', (execOp a.eval o).run P w = .ok (.value v) w' ∧ Step H O w H' O' w' ∧ TK n I K ((d, v) :: E) H' O') : TK n I (OpK P o K Q) E H O := by
 intro a w ha hs
 obtain ⟨v, w', H', O', hr, h4, hk⟩ := h a w ha hs.st
 unfold OpK Oper.wp
 rw [hr, Oper.upon_value, hd]
 exact hk _ _ (ha.put d v hn) (hs.trans h4.any)
theorem TK.runF {o : Oper} (hD : ¬ I.D) (hd : o.dst = some d) (hn : d < n) (h : ∀ a w, EnvOk n E a → St H O w → ∃ v w' H' O', (execOp a.eval o).run P w = .ok (.value v) w' ∧ StepG False H O w H' O' w' ∧ TK n I K ((d, v) :: E) H' O') : TK n I (OpK P o K Q) E H O := by
 intro a w ha hs
 obtain ⟨v, w', H', O', hr, h4, hk⟩ := h a w ha hs.st
 unfold OpK Oper.wp
 rw [hr, Oper.upon_value, hd]
 exact hk _ _ (ha.put d v hn) (hs.trans (h4.weak hD))
theorem TK.runSkip {o : Oper} (hd : o.dst = none) (h : ∀ a w, EnvOk n E a → St H O w → ∃ w' H' O', (execOp a.eval o).run P w = .ok .skip w' ∧ Step H O w H' O' w' ∧ TK n I K E H' O') : TK n I (OpK P o K Q) E H O := by
 intro a w ha hs
 obtain ⟨w', H', O', hr, h4, hk⟩ := h a w ha hs.st
 unfold OpK Oper.wp
 rw [hr, Oper.upon_skip, hd]
 exact hk _ _ ha (hs.trans h4.any)
def Yl (P : Program) (n : Nat) (E : Env) (H : Ghost) (O : List HL) (o : Oper) (v : Value) : Prop :=
 ∀ a w, EnvOk n E a → St H O w → (execOp a.eval o).run P w = .ok (.value v) w
theorem TK.yl {o : Oper} (hy : Yl P n E H O o v) (hd : o.dst = some d) (hn : d < n) (h : TK n I K ((d, v) :: E) H O) : TK n I (OpK P o K Q) E H O :=
 TK.run hd hn fun a w ha hs => ⟨v, w, H, O, hy a w ha hs, .refl hs, h⟩
theorem sq {o : Oper} (hg : o.guard = none) (h : TK n I (OpK P o (wpList P ops Q rest) Q) E H O) : TK n I (wpList P ops Q (o :: rest)) E H O := by
 intro a w ha hs
 unfold wpList
 rw [if_pos (by simp [Region.wanted, hg])]
 exact .inl (h a w ha hs)
theorem yielded_of {ops : Array Oper} {g t : Nat} {b : Bool} (ha : EnvOk n E a) (ht : (ops[g]?).bind (·.dst) = some t) (hb : look E t = some (.bool b)) : yielded ops a.tmps g = some b := by
 unfold yielded
 rw [ht]
 simp [ha.get t _ hb]
theorem sqY {ops : Array Oper} {o : Oper} {g t : Nat} {b want : Bool} (hg : o.guard = some (g, want)) (ht : (ops[g]?).bind (·.dst) = some t) (hb : look E t = some (.bool b)) (hw : b = want) (h : TK n I (OpK P o (wpList P ops Q rest) Q) E H O) : TK n I (wpList P ops Q (o :: rest)) E H O := by
 intro a w ha hs
 unfold wpList
 rw [if_pos (by simp [Region.wanted, hg, yielded_of ha ht hb, hw])]
 exact .inl (h a w ha hs)
theorem sqN {ops : Array Oper} {o : Oper} {g t : Nat} {b want : Bool} (hg : o.guard = some (g, want)) (ht : (ops[g]?).bind (·.dst) = some t) (hb : look E t = some (.bool b)) (hw : b = !want) (hd : o.dst = some d) (hn : d < n) (h : TK n I (wpList P ops Q rest) ((d, undef) :: E) H O) : TK n I (wpList P ops Q (o :: rest)) E H O := by
 intro a w ha hs
 unfold wpList
 rw [if_neg (by simp [Region.wanted, hg, yielded_of ha ht hb, hw]), hd]
 exact h _ _ (ha.put d _ hn) hs
theorem TK.nil (h : TK n I (Q .normal) E H O) : TK n I (wpList P ops Q []) E H O := fun a w ha hs => h a w ha hs
theorem TK.seq {x y : Code} (h : ∀ K, (∀ E H O, TK n I (y.wp P Q) E H O → TK n I K E H O) → TK n I (x.wp P (Exit.then K Q)) E H O) : TK n I ((x.seq y).wp P Q) E H O :=
 fun a w ha hs => wp_seq_k fun K hK => h K (fun _ _ _ hy a w ha hs => hK a w (hy a w ha hs)) a w ha hs
theorem TK.region {id : Nat} {ops : Array Oper} {l : List Oper} (hl : ops.toList = l) (h : TK n I (wpList P ops Q l) E H O) : TK n I ((Code.region id ops false).wp P Q) E H O :=
 fun a w ha hs => wp_region_list (by rw [hl]; exact h a w ha hs)
theorem TK.block {id : Nat} {c : Code} (h : TK n I (c.wp P (Exit.inBlock id Q)) E H O) : TK n I ((Code.block id c).wp P Q) E H O := fun a w ha hs => wp_block (h a w ha hs)
theorem TK.skip (h : TK n I (Q .normal) E H O) : TK n I (Code.skip.wp P Q) E H O := fun a w ha hs => wp_skip (h a w ha hs)
theorem TK.exit {id : Nat} (h : TK n I (Q (.exit id)) E H O) : TK n I ((Code.exit id).wp P Q) E H O := fun a w ha hs => wp_exit (h a w ha hs)
theorem TK.ret (h : TK n I (Q .ret) E H O) : TK n I (Code.ret.wp P Q) E H O := fun a w ha hs => wp_ret (h a w ha hs)
theorem TK.cond {c : Operand} {x y : Code} {b : Bool} (hc : ev E c = some (.bool b)) (h1 : b = true → TK n I (x.wp P Q) E H O) (h2 : b = false → TK n I (y.wp P Q) E H O) : TK n I ((Code.cond c x y).wp P Q) E H O :=
 fun a w ha hs => wp_cond_split (ha.eval hc) (fun h => h1 h a w ha hs) (fun h => h2 h a w ha hs)
theorem TK.condD {c : Operand} {x y : Code} {p : Prop} [Decidable p] (hc : ev E c = some (.bool (decide p))) (h1 : p → TK n I (x.wp P Q) E H O) (h2 : ¬ p → TK n I (y.wp P Q) E H O) : TK n I ((Code.cond c x y).wp P Q) E H O :=
 TK.cond hc (fun h => h1 (of_decide_eq_true h)) (fun h => h2 (of_decide_eq_false h))
theorem TK.condY {c : Operand} {x : Code} {b : Bool} (hc : ev E c = some (.bool b)) (hb : b = true) (h : TK n I (x.wp P Q) E H O) : TK n I ((Code.cond c x y).wp P Q) E H O :=
 TK.cond hc (fun _ => h) (fun h' => by rw [hb] at h'; cases h')
theorem TK.condN {c : Operand} {y : Code} {b : Bool} (hc : ev E c = some (.bool b)) (hb : b = false) (h : TK n I (y.wp P Q) E H O) : TK n I ((Code.cond c x y).wp P Q) E H O :=
 TK.cond hc (fun h' => by rw [hb] at h'; cases h') (fun _ => h)
def pick (O : List HL) : List Nat → List HL
 | [] => []
 | i :: r => match O[i]? with
  | some h => h :: pick O r
  | none => pick O r
theorem pick_sub : ∀ (O : List HL) (l : List Nat), l.Pairwise (· < ·) → (pick O l).Sublist O := by
 have k0 : ∀ (l : List Nat) (O : List HL) (m : Nat), l.Pairwise (· < ·) → (∀ j ∈ l, m ≤ j) → (pick O l).Sublist (O.drop m) := by
  intro l
  induction l with
  | nil => intro O m _ _; exact List.nil_sublist _
  | cons i r ih =>
   intro O m hp hm
   have hr := (List.pairwise_cons.1 hp)
   have h4 := hm i (by simp)
   unfold pick
   cases ho : O[i]? with
   | none => exact (ih O (i + 1) hr.2 fun j hj => hr.1 j hj).trans ((List.drop_sublist_drop_left O oM))
   | some h =>
    obtain ⟨hl, rfl⟩ := gE ho
    have h1 := ih O (i + 1) hr.2 fun j hj => hr.1 j hj
    have h2 : (O[i] :: pick O r).Sublist (O.drop i) := by rw [List.drop_eq_getElem_cons hl]; exact h1.cons_cons _
    exact h2.trans (List.drop_sublist_drop_left O oM)
 intro O l hp
 simpa using k0 l O 0 hp (fun j _ => Nat.zero_le j)
theorem StepG.sub {D : Prop} {H : Ghost} {O O'' : List HL} {w : World} (h : StepG D H O w H' O' w') (hs : O''.Sublist O') : StepG D H O w H' O'' w' := by
 obtain ⟨F, hp⟩ : ∃ F, O'.Perm (O'' ++ F) := hs.exists_perm_append
 exact (h.permR hp).forget
theorem TK.weak {O' : List HL} (l : List Nat) (hl : l.Pairwise (· < ·)) (hO : pick O l = O') (hE : Sub E E') (h : TK n I K E' H O') : TK n I K E H O := by
 intro a w ha hs
 exact h a w (ha.mono hE.mono) (hs.sub (hO ▸ pick_sub O l hl))
theorem TK.loop {c : Code} (J : Env → Ghost → List HL → Nat → Prop) (E0 : Env) (O0 : List HL) (m0 : Nat) (l : List Nat) (hl : l.Pairwise (· < ·)) (hO : pick O l = O0) (hE : Sub E E0) (h0 : J E0 H O0 m0) (round : ∀ E H O m, J E H O m → ∀ K, (∀ E' H' O' m', J E' H' O' m' → m' < m → TK n I K E' H' O') → TK n I (c.wp P (Exit.then K Q)) E H O) : TK n I ((Code.loop c).wp P Q) E H O := by
 intro a w ha hs
 refine wp_loop_ghost (fun m a w => ∃ E H O, J E H O m ∧ EnvOk n E a ∧ StepG I.D I.H I.O I.w H O w) m0 ⟨E0, H, O0, h0, ha.mono hE.mono, hs.sub (hO ▸ pick_sub O l hl)⟩ ?_
 rintro m a w ⟨E, H, O, hJ, ha, hs⟩
 exact round E H O m hJ _ (fun E' H' O' m' h7 h5 a' w' h6 h4 => ⟨m', h5, E', H', O', h7, h6, h4⟩) a w ha hs
theorem TK.cut {x y : Code} (J : Env → Ghost → List HL → Prop) (h1 : ∀ K, (∀ E H O, J E H O → TK n I K E H O) → TK n I (x.wp P (Exit.then K Q)) E H O) (h2 : ∀ E H O, J E H O → TK n I (y.wp P Q) E H O) : TK n I ((x.seq y).wp P Q) E H O :=
 TK.seq fun K hK => h1 K fun E H O hJ => hK E H O (h2 E H O hJ)
def CtG (D : Prop) (P : Program) (f : FuncId) (args : Array Value) (H : Ghost) (O : List HL) (R : Value → Ghost → List HL → Prop) : Prop :=
 ∀ w, St H O w → Calls P f args w fun e w' => ∃ v H' O', e = .returned v ∧ R v H' O' ∧ StepG D H O w H' O' w'
abbrev Ct := CtG False
abbrev CtD := CtG True
theorem CtG.weak {R : Value → Ghost → List HL → Prop} (h : CtD P f args H O R) : Ct P f args H O R :=
 fun w hs => (h w hs).mono fun e w' ⟨v, H', O', he, hr, h4⟩ => ⟨v, H', O', he, hr, h4.any⟩
theorem CtG.mono {D : Prop} {R R' : Value → Ghost → List HL → Prop} (h : CtG D P f args H O R) (hR : ∀ v H' O', Ghost.le H H' → R v H' O' → R' v H' O') : CtG D P f args H O R' :=
 fun w hs => (h w hs).mono fun e w' ⟨v, H', O', he, hr, h4⟩ => ⟨v, H', O', he, hR v H' O' h4.le hr, h4⟩
theorem CtG.frame {D : Prop} {Oc F : List HL} {R : Value → Ghost → List HL → Prop} (hp : (Oc ++ F).Perm O) (h : CtG D P f args H Oc R) : CtG D P f args H O fun v H' O' => ∃ O1, O' = O1 ++ F ∧ R v H' O1 :=
 fun w hs => (h w (hs.perm hp.symm).left).mono fun e w' ⟨v, H', O', he, hr, h4⟩ =>
  ⟨v, H', O' ++ F, he, ⟨O', rfl, hr⟩, (h4.frame F (hs.perm hp.symm)).permL hp⟩
theorem CtG.pure {D : Prop} {R : Value → Ghost → List HL → Prop} (h : CtG D P f args H [] R) : CtG D P f args H O fun v H' O' => ∃ O1, O' = O1 ++ O ∧ R v H' O1 := CtG.frame (.refl _) h
theorem TK.call {D : Prop} (hDD : I.D → D) {o : Oper} {f : FuncId} {args : Array Value} {R : Value → Ghost → List HL → Prop} (hd : o.dst = some d) (hn : d < n) (he : ∀ a w, EnvOk n E a → (execOp a.eval o).run P w = .ok (.enter f args) w) (hc : CtG D P f args H O R) (h : ∀ v H' O', R v H' O' → Ghost.le H H' → TK n I K ((d, v) :: E) H' O') : TK n I (OpK P o K Q) E H O := by
 intro a w ha hs
 unfold OpK Oper.wp
 rw [he a w ha, Oper.upon_enter]
 refine (hc w hs.st).mono ?_
 rintro e w' ⟨v, H', O', rfl, hr, h4⟩
 show K (a.put o.dst v) w'
 rw [hd]
 exact h v H' O' hr h4.le _ _ (ha.put d v hn) (hs.trans (h4.weak hDD))
def evs (E : Env) : List Operand → Option LV
 | [] => some []
 | x :: r => match ev E x, evs E r with
  | some v, some vs => some (v :: vs)
  | _, _ => none
theorem evs_eval (ha : EnvOk n E a) : ∀ {xs : List Operand} {vs : LV}, evs E xs = some vs → xs.map a.eval = vs
 | [], vs, h => by simp only [evs, Option.some.injEq] at h; subst h; rfl
 | x :: r, vs, h => by
  simp only [evs] at h
  cases hx : ev E x with
  | none => rw [hx] at h; cases h
  | some v =>
   cases hr : evs E r with
   | none => rw [hx, hr] at h; cases h
   | some us =>
    rw [hx, hr] at h
    simp only [Option.some.injEq] at h
    subst h
    rw [List.map_cons, ha.eval hx, evs_eval ha hr]
def Fin (P : Program) (fn : Func) (I : Init) (R : Value → Ghost → List HL → Prop) : Exit → Act → World → Prop :=
 bodyPost P fn fun e w' => ∃ v H' O', e = .returned v ∧ R v H' O' ∧ StepG I.D I.H I.O I.w H' O' w'
def args0 : Nat → LV → Env
 | _, [] => []
 | k, v :: r => (k, v) :: args0 (k + 1) r
theorem args0_get : ∀ (l : LV) (k t : Nat) (v : Value), look (args0 k l) t = some v → k ≤ t ∧ l[t - k]? = some v
 | [], k, t, v, h => by simp [args0, look] at h
 | x :: l, k, t, v, h => by
  simp only [args0, look] at h
  cases hb : Nat.beq k t with
  | true =>
   rw [hb] at h
   have : k = t := Nat.eq_of_beq_eq_true hb
   subst this
   simpa using h
  | false =>
   rw [hb] at h
   have h4 : k ≠ t := Nat.ne_of_beq_eq_false hb
   obtain ⟨h1, h2⟩ := args0_get l (k + 1) t v h
   refine ⟨by omega, ?_⟩
   rw [show t - k = (t - (k + 1)) + 1 by omega, List.getElem?_cons_succ]
   exact h2
theorem CtG.body {D : Prop} {f : FuncId} {c : Code} {l : LV} {R : Value → Ghost → List HL → Prop} {m : Nat} (hf : P.funcs[f]? = some fn) (hb : fn.body = some c) (hm : fn.ntmps = m) (hl : l.length ≤ m) (h : ∀ I : Init, (I.D → D) → I.H = H → I.O = O → TK m I (c.wp P (Fin P fn I R)) (args0 0 l) H O) : CtG D P f l.toArray H O R := by
 intro w hs
 refine calls_of_wp hf hb ?_
 rw [hm]
 refine h ⟨D, H, O, w⟩ (fun x => x) rfl rfl _ _ ⟨rfl, by simp; omega, fun t v ht => ?_⟩ (.refl hs)
 obtain ⟨_, h2⟩ := args0_get l 0 t v ht
 have h4 : t < l.length := by simpa using (gE h2).1
 simp only [Nat.sub_zero] at h2
 simp [Array.getElem?_append, h4, List.getElem?_toArray]
 simpa [List.getElem?_eq_getElem h4] using h2
theorem TK.ret1 {fn : Func} {R : Value → Ghost → List HL → Prop} {t : Nat} (hr : fn.results = #[.tmp t]) (hv : look E t = some v) (h : R v H O) : TK n I (Fin P fn I R .ret) E H O := by
 intro a w ha hs
 exact bodyPost_ret (results_tmp hr a.tmps P w) ha.defers ⟨_, H, O, rfl, by rw [ha.tmp hv]; exact h, hs⟩
theorem TK.ret2 {fn : Func} {R : Value → Ghost → List HL → Prop} {t u : Nat} (hr : fn.results = #[.tmp t, .tmp u]) (hv : look E t = some v) (hv' : look E u = some v') (h : R (.tuple #[v, v']) H O) : TK n I (Fin P fn I R .ret) E H O := by
 intro a w ha hs
 exact bodyPost_ret (results_tmp2 hr a.tmps P w) ha.defers ⟨_, H, O, rfl, by rw [ha.tmp hv, ha.tmp hv']; exact h, hs⟩
theorem TK.ret3 {fn : Func} {R : Value → Ghost → List HL → Prop} {t u s : Nat} (hr : fn.results = #[.tmp t, .tmp u, .tmp s]) (hv : look E t = some v) (hv' : look E u = some v') (hv'' : look E s = some v'') (h : R (.tuple #[v, v', v'']) H O) : TK n I (Fin P fn I R .ret) E H O := by
 intro a w ha hs
 exact bodyPost_ret (results_tmp3 hr a.tmps P w) ha.defers ⟨_, H, O, rfl, by rw [ha.tmp hv, ha.tmp hv', ha.tmp hv'']; exact h, hs⟩
theorem TK.ret0 {fn : Func} {R : Value → Ghost → List HL → Prop} (hr : fn.results = #[]) (h : R (.tuple #[]) H O) : TK n I (Fin P fn I R .ret) E H O := by
 intro a w ha hs
 exact bodyPost_ret (results_none hr a.tmps P w) ha.defers ⟨_, H, O, rfl, h, hs⟩
theorem TK.end0 {fn : Func} {R : Value → Ghost → List HL → Prop} (hr : fn.results = #[]) (h : R (.tuple #[]) H O) : TK n I (Fin P fn I R .normal) E H O := by
 intro a w ha hs
 exact bodyPost_end (results_none hr a.tmps P w) ha.defers ⟨_, H, O, rfl, h, hs⟩
end
end
end Go.Proofs.YtookcfeogbeooaaGreatDoor
