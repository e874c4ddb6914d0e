/-
The library's strconv.AppendInt at this program, and keys made of it. Keys of sets of states. Graphs of automata: rows of moves, sets that are closed. The graph of an automaton. Sets of states that are closed. Words that an automaton takes. Words that an automaton accepts. Sets of states, one by one: the table of an automaton.
Conditions: those that each theorem states.
-/
import Derived.Test.YtookcfeogbeooaaGreatDoorM21
import Derived.Lib.ItoaLen
set_option linter.all false
set_option maxRecDepth 100000
set_option maxHeartbeats 8000000
set_option autoImplicit true
set_option relaxedAutoImplicit true
namespace Go.Proofs.YtookcfeogbeooaaGreatDoor
open Go Go.Proofs
section
open Go.Lib
theorem CtG.bodyS {P : Program} {H : Ghost} {O : List HL} {D : Prop} {f : FuncId} {c : Code} {l : LV} {R : Value → Ghost → List HL → Prop} {m : Nat} (hf : P.funcs[f]? = some fn) (hb : fn.body = some c) (hm : fn.ntmps = m) (hl : l.length ≤ m) (h : ∀ I : Init, (I.D → D) → I.H = H → I.O = O → St H O I.w → TK m I (c.wp P (Fin P fn I R)) (args0 0 l) H O) : CtG D P f l.toArray H O R := by
 intro w hs
 refine calls_of_wp hf hb ?_
 rw [hm]
 refine h ⟨D, H, O, w⟩ (fun x => x) rfl rfl hs _ _ ⟨rfl, by simp; omega, fun t v ht => ?_⟩ (.refl hs)
 obtain ⟨_, h2⟩ := args0_get l 0 t v ht
 have h4 : t < l.length := by simpa using (gE h2).1
 simp only [Nat.sub_zero] at h2
 simp [Array.getElem?_append, h4, List.getElem?_toArray]
 simpa [List.getElem?_eq_getElem h4] using h2
section
variable {P : Program} {n : Nat} {I : Init} {K : Act → World → Prop} {E : Env} {H : Ghost} {O : List HL} {Q : Exit → Act → World → Prop}
theorem TK.callX {o : Oper} {f : FuncId} {args : Array Value} {R : Value → List HL → Prop} (hd : o.dst = some d) (hn : Nat.blt d n = true) (he : ∀ a w, EnvOk n E a → (execOp a.eval o).run P w = .ok (.enter f args) w) (hc : ∀ w, StepG I.D I.H I.O I.w H O w → Calls P f args w fun e w' => ∃ v O', e = .returned v ∧ R v O' ∧ StepG I.D I.H I.O I.w H O' w') (h : ∀ v O', R v O' → TK n I K ((d, v) :: E) H O') : TK n I (OpK P o K Q) E H O := by
 intro a w ha hs
 unfold OpK Oper.wp
 rw [he a w ha, Oper.upon_enter]
 refine (hc w hs).mono ?_
 rintro e w' ⟨v, O', rfl, hr, h4⟩
 show K (a.put o.dst v) w'
 rw [hd]
 exact h v O' hr _ _ (ha.put d v (blt_lt hn)) h4
end
def TabH (H : Ghost) : Prop := ∃ t fz, H 1 = some (.cells (pow10Tab.map fun z => Value.int .u64 z).toArray t fz)
theorem TabH.mono {H : Ghost} (h : TabH H) (hle : Ghost.le H H') : TabH H' := by obtain ⟨t, fz, h⟩ := h; exact ⟨t, fz, hle _ _ h⟩
theorem tab_is {w : World} (h : TabH H) (hg : ∀ b o, H b = some o → w.heap[b]? = some o) : TabIs PP w "internal/strconv.uint64pow10" .u64 pow10Tab := by
 obtain ⟨t, fz, h⟩ := h
 have h1 : PP.globalNamed "internal/strconv.uint64pow10" = some 1 := by kernel_rfl
 unfold TabIs World.var?
 rw [h1]
 simp only [Option.bind_some, hg 1 _ h]
theorem appendInt {I : Init} (hT : TabH H) (hH : I.H = H) (hO : I.O = []) (hD : ¬ I.D) (hS : St H [] I.w) {sv : Value} {n : Nat} {cs : LV} {i : Int} (h0 : -9223372036854775808 ≤ i) (h1 : i ≤ 9223372036854775807) (hn : n + 21 ≤ 140737488355328) (hs : StepG I.D I.H I.O I.w H [.row 5 1 sv n cs] w) :
  Calls PP 284 #[sv, .int .i64 i, .int .i64 10] w fun e w' => ∃ v O', e = .returned v ∧ O' = [.row 5 1 v (n + (itoa i).length) (cs ++ byteCells (itoa i))] ∧ StepG I.D I.H I.O I.w H O' w' := by
 have b5 := hs.size
 have h8 : w.ownsRow 0 5 1 sv n cs := hs.st.own (.row 5 1 sv n cs) (by simp)
 have h7 : w.ownsRow I.w.heap.size 5 1 sv n cs := by
  refine ⟨h8.1, ?_⟩
  rcases h8.2 with h | ⟨g, cap, cur, hv, hg, r⟩
  ·exact .inl h
  ·refine .inr ⟨g, cap, cur, hv, ?_, r⟩
   rcases hs.newO g (by rw [hv]; simp [fps, HL.fp, vblk]) with h | h
   ·rw [hO] at h; simp [fps] at h
   ·exact h
 have h9 : TabBelow PP I.w.heap.size w "internal/strconv.uint64pow10" .u64 pow10Tab := fun w' hb => tab_is hT fun b o h5 => by
  rw [hb.block b (hS.lt h5)]; exact hs.st.ghost b o h5
 refine (Any.strconv_AppendInt_10 Tryz.laysM176 I.w.heap.size n i h0 h1 sv cs w h7 b5 hn h9).mono ?_
 rintro e w' ⟨v', rfl, hr, hb, _⟩
 refine ⟨v', _, rfl, rfl, ?_⟩
 have h6 : ∀ b ∈ fps [HL.row 5 1 v' (n + (itoa i).length) (cs ++ byteCells (itoa i))], I.w.heap.size ≤ b ∧ b < w'.heap.size := by
  intro b h4
  rcases hr.2 with ⟨h, _⟩ | ⟨g, cap, cur, hv, hg, hh, _⟩
  ·rw [h] at h4; simp [fps, HL.fp, vblk] at h4
  ·rw [hv] at h4
   simp [fps, HL.fp, vblk] at h4
   subst h4
   exact ⟨hg, (Array.getElem?_eq_some_iff.1 hh).1⟩
 refine ⟨⟨fun b o h5 => by rw [hb.block b (hS.lt h5)]; exact hs.st.ghost b o h5, fun x hx => ?_, fun b h4 => ⟨?_, (h6 b h4).2⟩, ?_⟩, by rw [hH]; exact Ghost.le.refl _, hb.os.trans hs.os, hb.tape.trans hs.tape, hb.output.trans hs.output, Nat.le_trans b5 hb.size, fun b b4 b6 => by rw [hb.block b b4]; exact hs.old b b4 b6, fun b o h5 => .inl (by rw [hH, h5]; simp), fun b h4 => .inr (h6 b h4).1, fun h => absurd h hD⟩
 ·simp only [List.mem_singleton] at hx
  subst hx
  refine ⟨hr.1, ?_⟩
  rcases hr.2 with h | ⟨g, cap, cur, hv, hg, r⟩
  ·exact .inl h
  ·exact .inr ⟨g, cap, cur, hv, Nat.zero_le _, r⟩
 ·cases hc : H b with
  | none => rfl
  | some o => have := hS.lt hc; have := (h6 b h4).1; omega
 ·rcases hr.2 with ⟨h, _⟩ | ⟨g, cap, cur, hv, _⟩
  ·rw [h]; simp [fps, HL.fp, vblk]
  ·rw [hv]; simp [fps, HL.fp, vblk]
def keyN (l : LI) : List UInt8 := l.flatMap fun x => itoa x ++ [32]
def keyA (l : LI) : BA := ⟨(keyN l).toArray⟩
def valD (l : List UInt8) : Nat := l.foldl (fun a d => a * 10 + (d.toNat - 48)) 0
theorem valD_snoc (l : List UInt8) (d : UInt8) : valD (l ++ [d]) = valD l * 10 + (d.toNat - 48) := by simp [valD]
theorem u8_dig {k : Nat} (h : k < 10) : (UInt8.ofNat (48 + k)).toNat = 48 + k := by simp; omega
theorem val_dec (u : Nat) : valD (decDigits u) = u ∧ ∀ d ∈ decDigits u, d ≠ 32 := by
 induction u using Nat.strongRecOn with
 | _ u ih =>
  rw [decDigits]
  split
  ·rename_i h
   refine ⟨by rw [← List.nil_append [UInt8.ofNat (48 + u)], valD_snoc, u8_dig h]; simp [valD], fun d hd => ?_⟩
   rw [List.mem_singleton.1 hd]
   intro e
   have h3 := u8_dig h
   rw [e] at h3
   have h4 : (32 : UInt8).toNat = 32 := rfl
   omega
  ·rename_i h
   obtain ⟨h1, h2⟩ := ih (u / 10) oM
   have hm : u % 10 < 10 := Nat.mod_lt _ dC
   refine ⟨by rw [valD_snoc, h1, u8_dig hm]; omega, fun d hd => ?_⟩
   rcases List.mem_append.1 hd with hd | hd
   ·exact h2 d hd
   ·simp only [List.mem_singleton] at hd; subst hd
    intro e
    have := congrArg UInt8.toNat e
    rw [u8_dig hm] at this
    simp at this
    omega
theorem app_stop {a b x y : List UInt8} (ha : ∀ d ∈ a, d ≠ 32) (hb : ∀ d ∈ b, d ≠ 32) (h : a ++ 32 :: x = b ++ 32 :: y) : a = b ∧ x = y := by
 induction a generalizing b with
 | nil =>
  cases b with
  | nil => simp at h; exact ⟨rfl, h⟩
  | cons d r => simp at h; exact absurd h.1.symm (hb d (by simp))
 | cons c r ih =>
  cases b with
  | nil => simp at h; exact absurd h.1 (ha c (by simp))
  | cons d s =>
   simp at h
   obtain ⟨h1, h2⟩ := ih (fun z hz => ha z (by simp [hz])) (fun z hz => hb z (by simp [hz])) h.2
   exact ⟨by rw [h.1, h1], h2⟩
theorem keyN_inj : ∀ {l l' : LI}, (∀ x ∈ l, 0 ≤ x) → (∀ x ∈ l', 0 ≤ x) → keyN l = keyN l' → l = l'
 | [], [], _, _, _ => rfl
 | [], y :: l', _, _, h => by simp [keyN] at h
 | x :: l, [], _, _, h => by simp [keyN] at h
 | x :: l, y :: l', h1, h2, h => by
  have e1 : ∀ (z : Int) (l : LI), keyN (z :: l) = itoa z ++ 32 :: keyN l := fun z l => by simp [keyN]
  rw [e1, e1] at h
  have hx := h1 x (by simp); have hy := h2 y (by simp)
  have ex : itoa x = decDigits x.toNat := by unfold itoa; rw [if_neg oM]
  have ey : itoa y = decDigits y.toNat := by unfold itoa; rw [if_neg oM]
  rw [ex, ey] at h
  obtain ⟨h3, h4⟩ := app_stop (val_dec _).2 (val_dec _).2 h
  have h5 := congrArg valD h3
  rw [(val_dec _).1, (val_dec _).1] at h5
  rw [keyN_inj (fun z hz => h1 z (by simp [hz])) (fun z hz => h2 z (by simp [hz])) h4, show x = y by omega]
theorem keyA_inj {l l' : LI} (h1 : ∀ x ∈ l, 0 ≤ x) (h2 : ∀ x ∈ l', 0 ≤ x) (h : keyA l = keyA l') : l = l' := by
 have := congrArg (fun b : BA => b.data.toList) h
 exact keyN_inj h1 h2 (by simpa [keyA] using this)
instance : Mo (TabH H) H H' (TabH H') := ⟨fun h e => h.mono e⟩
end
section
open Go.Proofs.Tryz Go.Lib
theorem row_slice {K : Act → World → Prop} {O : List HL} {i e k m : Nat} {v : Value} {cs : LV} (hO : O[i]? = some (.row e k v m cs)) (h : ∀ A c, v = .slice A m c → TK n I K E H O) : TK n I K E H O := by
 intro a w ha hs
 have h4 : w.ownsRow 0 e k v m cs := hs.st.own _ (mG hO)
 rcases h4.2 with ⟨h1, h2⟩ | ⟨g, cap, cur, hv, _⟩
 ·exact h none 0 (by rw [h1, h2]) a w ha hs
 ·exact h _ _ hv a w ha hs
theorem keyN_take {l : LI} {i : Nat} (h : l[i]? = some x) : byteCells (keyN (l.take i)) ++ byteCells (itoa x) ++ [Value.int .u8 32] = byteCells (keyN (l.take (i + 1))) := by
 rw [List.take_add_one, h]; simp [keyN, byteCells]
theorem keyN_len {l : LI} {i : Nat} (h : l[i]? = some x) : (keyN (l.take (i + 1))).length = (keyN (l.take i)).length + (itoa x).length + 1 := by
 rw [List.take_add_one, h]; simp [keyN]; omega
theorem key_str (l : List UInt8) : (l.map fun b => (b.toNat : Int)).foldl (fun r n => r.push (UInt8.ofNat n.toNat)) ByteArray.empty = ⟨l.toArray⟩ := by
 have k0 : ∀ (l : List UInt8) (r : BA), (l.map fun b => (b.toNat : Int)).foldl (fun r n => r.push (UInt8.ofNat n.toNat)) r = ⟨r.data ++ l.toArray⟩ := by
  intro l
  induction l with
  | nil => intro r; simp
  | cons b l ih =>
   intro r
   rw [List.map_cons, List.foldl_cons, ih]
   simp [ByteArray.push]
 rw [k0]; simp [ByteArray.empty, ByteArray.emptyWithCapacity]; rfl
theorem byte_ns (l : List UInt8) : byteCells l = (l.map fun b => (b.toNat : Int)).map (Value.int .u8) := by simp [byteCells]
theorem c260 (hT : TabH H) {l : LI} (hl : Sl rInt H l A n c) (hn : n ≤ 1000000) (hr : ∀ x ∈ l, 0 ≤ x ∧ x ≤ 1000000) : Ct PP 260 #[.slice A n c] H [] fun v H' O' => O' = [] ∧ v = .string (keyA l) := by
 have b8 := hl.len
 refine CtG.bodyS (l := [.slice A n c]) func260 rfl ntmps260 nL fun I hD hI h9 hS => ?_
 refine g16d ?_
 intros
 refine newRow 5 1 ?_
 refine lp0 (fun D E H' O m => ∃ (i nb : Nat) (Ab : OA) (cb : Nat), H = H' ∧ (i ≤ n) ∧ ((keyN (l.take i)).length = nb ∧ nb ≤ 22 * i) ∧ m = n - i ∧ O = [.row 5 1 (.slice Ab nb cb) nb (byteCells (keyN (l.take i)))] ∧ E = (3, .slice Ab nb cb) :: (8, .int .i64 (i : Int)) :: D) [6, 7] [0] ⟨0, 0, none, 0, rfl, Nat.zero_le _, (by simp [keyN]), rfl, rfl, rfl⟩ ?_
 rintro _ _ _ _ ⟨i, nb, Ab, cb, rfl, hi, d0, rfl, rfl, rfl⟩ _ h5
 refine g5b ?_
 intros
 refine cD ?_ ?_ <;> intro h8
 refine g5b ?_
 intros
 obtain ⟨b4, h4⟩ := eX hl i
 obtain ⟨c0, o4, h7, h6⟩ := hl.atI h4
 refine g7 ?_
 have b7 := hr _ (mG h4)
 have c1 := itoa_length_le b4 oM oM
 refine sq rfl (TK.callX rfl rfl (ent call284 rfl) (fun w hs => appendInt hT hI h9 hD hS oM oM oM hs) ?_)
 rintro v0 O1 rfl
 refine row_slice (i := 0) rfl fun A1 c14 e0 => ?_
 subst e0
 refine sq rfl (bS [.int .u8 32] fun b5 => ?_)
 refine sq rfl (aR 1 fun A0 c24 => ?_)
 refine g5 ?_
 rw [keyN_take h4]
 have b6 := keyN_len h4
 exact nK h5 ⟨i + 1, ((nb + (itoa b4).length) + 1), A0, c24, rfl, oM, ⟨by omega, by omega⟩, rfl, rfl, rfl⟩
 refine g3a ?_
 intros
 have b9 : i = n := by omega
 rw [List.take_of_length_le oM, byte_ns]
 refine g1 ?_
 refine q (yBytesStr (ns := ((keyN l).map fun b => (b.toNat : Int))) (i := 0) rfl uC uC uC rfl) rfl rfl rfl ?_
 refine g2 ?_
 refine kP [] ?_
 refine rT results260 ?_
 exact ⟨rfl, congrArg Value.string (key_str _)⟩
end
section
def mvC (l : List Mv) : LV := l.flatMap fun m => [.int .i64 m.src, .int .i64 m.dst, .int .i64 m.sym]
theorem mvC_len (l : List Mv) : (mvC l).length = l.length * 3 := by
 induction l with
 | nil => rfl
 | cons p l ih => simp only [mvC, List.flatMap_cons, List.length_append, List.length_cons, List.length_nil] at ih ⊢; omega
theorem mv_reps : ∀ l : List Mv, Reps rMv H l (mvC l)
 | [] => .nil
 | m :: l => Reps.cons (r := rMv) (c := [_, _, _]) rfl (mv_reps l)
theorem mvC_snoc (l : List Mv) (a b c : Int) : mvC l ++ [.int .i64 a, .int .i64 b, .int .i64 c] = mvC (l ++ [⟨a, b, c⟩]) := by simp [mvC]
theorem mv_eq : ∀ {l : List Mv} {cs : LV}, Reps rMv H l cs → cs = mvC l
 | _, _, .nil => rfl
 | m :: _, _, .cons h1 h0 => by
  have e : ∀ (m : Mv) (l : List Mv), mvC (m :: l) = [.int .i64 m.src, .int .i64 m.dst, .int .i64 m.sym] ++ mvC l := fun _ _ => rfl
  rw [e, ← mv_eq h0]; exact congrArg (fun z => z ++ _) h1
structure QV where
 A : OA
 c : Nat
 ms : List Mv
def qO (l : List QV) : LV := l.map fun p => .slice p.A p.ms.length p.c
def qR (l : List QV) : List RowT := l.map fun p => (.slice p.A p.ms.length p.c, p.ms.length, mvC p.ms)
section
variable {l : List QV} {k : Nat} {p : QV}
theorem qO_at (h : l[k]? = some p) : (qO l)[0 + k * 1]? = some (.slice p.A p.ms.length p.c) := by rw [Nat.zero_add, Nat.mul_one]; simp [qO, h]
theorem qR_at (h : l[k]? = some p) : (qR l)[k]? = some (.slice p.A p.ms.length p.c, p.ms.length, mvC p.ms) := by simp [qR, h]
theorem qR_app {A : OA} {c : Nat} {m : Mv} : (qR l).set k (.slice A (p.ms.length + 1) c, p.ms.length + 1, mvC p.ms ++ [.int .i64 m.src, .int .i64 m.dst, .int .i64 m.sym]) = qR (l.set k ⟨A, c, p.ms ++ [m]⟩) := by simp [qR, List.map_set, mvC]
theorem qO_app {A : OA} {c : Nat} {m : Mv} : (qO l).set (0 + k * 1) (.slice A (p.ms.length + 1) c) = qO (l.set k ⟨A, c, p.ms ++ [m]⟩) := by rw [Nat.zero_add, Nat.mul_one]; simp [qO, List.map_set]
end
def q0 (N : Nat) : List QV := List.replicate N ⟨none, 0, []⟩
theorem qO_0 (N : Nat) : List.replicate N (Value.slice none 0 0) = qO (q0 N) := by simp [qO, q0]
theorem qR_0 (N : Nat) : ∀ x ∈ qR (q0 N), x = (.slice none 0 0, 0, []) := by
 intro x hx
 simp only [qR, q0, List.map_replicate] at hx
 exact (List.mem_replicate.1 hx).2
structure OutI (mv : List Mv) (N i : Nat) (l : List QV) : Prop where
 len : l.length = N
 mem : ∀ (k : Nat) (p : QV), l[k]? = some p → ∀ m, m ∈ p.ms ↔ m ∈ mv.take i ∧ m.src = (k : Int)
 few : ∀ p ∈ l, p.ms.length ≤ i
theorem OutI.start {mv : List Mv} : OutI mv N 0 (q0 N) where
 len := by simp [q0]
 mem k p h m := by
  have := mG h
  rw [(List.mem_replicate.1 this).2]; simp
 few p h := by rw [(List.mem_replicate.1 h).2]; simp
theorem OutI.step {mv : List Mv} {k : Nat} {l : List QV} {m : Mv} {A : OA} {c : Nat} (h : OutI mv N i l) (hp : l[k]? = some p) (hm : mv[i]? = some m) (hk : m.src = (k : Int)) : OutI mv N (i + 1) (l.set k ⟨A, c, p.ms ++ [m]⟩) where
 len := by rw [List.length_set]; exact h.len
 mem j q hq u := by
  rw [List.take_add_one, hm, Option.toList_some, List.mem_append, List.mem_singleton]
  rw [List.getElem?_set] at hq
  split at hq
  ·rename_i e
   subst e
   split at hq
   ·cases hq
    simp only [List.mem_append, List.mem_singleton, h.mem k p hp]
    constructor
    ·rintro (⟨h1, h2⟩ | rfl)
     ·exact ⟨.inl h1, h2⟩
     ·exact ⟨.inr rfl, hk⟩
    ·rintro ⟨h1 | h1, h2⟩
     ·exact .inl ⟨h1, h2⟩
     ·exact .inr h1
   ·cases hq
  ·rename_i e
   rw [h.mem j q hq]
   constructor
   ·rintro ⟨h1, h2⟩; exact ⟨.inl h1, h2⟩
   ·rintro ⟨h1 | rfl, h2⟩
    ·exact ⟨h1, h2⟩
    ·omega
 few q hq := by
  rcases List.mem_or_eq_of_mem_set hq with hq | rfl
  ·have := h.few q hq; omega
  ·have := h.few p (mG hp); simp; omega
theorem q_seal : ∀ {l : List QV}, (∀ (i : Nat) (p : QV), l[i]? = some p → Sl rMv H p.ms p.A p.ms.length p.c) → Reps (rSl rMv) H (l.map (·.ms)) (qO l)
 | [], _ => .nil
 | p :: l, h => Reps.cons (r := rSl rMv) (c := [_]) ⟨_, _, _, rfl, h 0 p rfl⟩ (q_seal fun i q hq => h (i + 1) q (by simpa using hq))
def FinI (fs : LI) (i : Nat) (F : List Bool) : Prop := ∀ s ∈ fs.take i, F[s.toNat]? = some true
theorem FinI.step (h : FinI fs i F) (hs : fs[i]? = some s) (hlt : s.toNat < F.length) : FinI fs (i + 1) (F.set s.toNat true) := by
 intro u hu
 rw [List.take_add_one, hs, Option.toList_some, List.mem_append, List.mem_singleton] at hu
 rw [List.getElem?_set]
 split
 ·first | rfl | rw [if_pos hlt]
 ·rename_i e
  rcases hu with hu | rfl
  ·exact h u hu
  ·exact absurd rfl e
theorem boolS {k : Nat} {F : List Bool} {b : Bool} : (F.map Value.bool).set (0 + k * 1) (.bool b) = (F.set k b).map Value.bool := by rw [Nat.zero_add, Nat.mul_one, List.map_set]
structure GrAt (H : Ghost) (b : Nat) (a : Auto) (N : Nat) (A B : OA) (c d : Nat) (G : List (List Mv)) (F : List Bool) : Prop where
 cells : HC H b 0 [.int .i64 a.syms, .slice A N c, .slice B N d]
 out : Sl (rSl rMv) H G A N c
 fin : Sl rBool H F B N d
 st : a.states = (N : Int)
 mem : ∀ (k : Nat) (ms : List Mv), G[k]? = some ms → ∀ m, m ∈ ms ↔ m ∈ a.moves ∧ m.src = (k : Int)
 few : ∀ ms ∈ G, ms.length ≤ 100000
 isf : ∀ s ∈ a.final, F[s.toNat]? = some true
theorem GrAt.mono {H : Ghost} {a : Auto} {A : OA} {c : Nat} (h : GrAt H b a N A B c d G F) (hle : Ghost.le H H') : GrAt H' b a N A B c d G F :=
 { h with cells := h.cells.mono hle, out := h.out.mono hle, fin := h.fin.mono hle }
structure ClR (a : Auto) (l R : LI) : Prop where
 sub : ∀ s ∈ l, s ∈ R
 cl : ∀ s ∈ R, ∀ u, (⟨s, u, -1⟩ : Mv) ∈ a.moves → u ∈ R
 rg : ∀ s ∈ R, 0 ≤ s ∧ s < a.states
 len : (R.length : Int) ≤ a.states
structure InS (xs : LI) (m : List (Int × Bool)) : Prop where
 iff : ∀ s, (mget m s).getD false = true ↔ s ∈ xs
 nd : xs.Nodup
theorem InS.start : InS [] [] := ⟨fun s => by simp [mget], by simp⟩
theorem InS.add {m : List (Int × Bool)} (h : InS xs m) (hs : ¬ (mget m s).getD false = true) : InS (xs ++ [s]) (mput m s true) := by
 have hn : s ∉ xs := fun e => hs ((h.iff s).2 e)
 refine ⟨fun u => ?_, ?_⟩
 ·rw [mget_mput, List.mem_append, List.mem_singleton]
  by_cases e : s = u
  ·subst e; simp
  ·rw [if_neg e, h.iff]
   exact ⟨fun h => .inl h, fun h => h.elim id fun h => absurd h.symm e⟩
 ·rw [List.nodup_append]
  exact ⟨h.nd, by simp, fun a ha b hb => by simp at hb; subst hb; exact fun e => hn (e ▸ ha)⟩
def addI (xs : LI) (s : Int) : LI := if s ∈ xs then xs else xs ++ [s]
theorem addI_mem {s : Int} : s ∈ addI xs s := by unfold addI; split <;> simp_all
theorem addI_sub {xs : LI} {u : Int} (h : u ∈ xs) : u ∈ addI xs s := by unfold addI; split <;> simp_all
theorem addI_of {u : Int} (h : u ∈ addI xs s) : u ∈ xs ∨ u = s := by unfold addI at h; split at h <;> simp_all
theorem addI_take {xs : LI} {i : Nat} (h : i ≤ xs.length) : (addI xs s).take i = xs.take i := by
 unfold addI; split
 ·rfl
 ·rw [List.take_append_of_le_length h]
theorem addI_len {xs : LI} : xs.length ≤ (addI xs s).length ∧ (addI xs s).length ≤ xs.length + 1 := by unfold addI; split <;> simp
theorem addI_at {xs : LI} {i : Nat} (h : xs[i]? = some x) : (addI xs s)[i]? = some x := by
 unfold addI; split
 ·exact h
 ·rw [List.getElem?_append_left (gE h).1]; exact h
theorem few_of {xs : LI} {N : Nat} (hn : xs.Nodup) (hr : ∀ s ∈ xs, 0 ≤ s ∧ s < (N : Int)) : xs.length ≤ N := by
 have h := nodup_sub hn (ys := upTo N) fun x hx => by
  have := hr x hx
  exact upTo_mem.2 this
 rwa [upTo_len] at h
instance : Mo (GrAt H b a N A B c d G F) H H' (GrAt H' b a N A B c d G F) := ⟨fun h e => h.mono e⟩
end
section
open Go.Proofs.Tryz
attribute [local irreducible] TK Yl OpK AnyT wpList Code.wp
theorem q_row {l : List QV} (h : OutI mv N i l) (hi : i ≤ 140737488355328) {k : Nat} (hx : (qR l)[k]? = some x) (hy : (l.map (·.ms))[k]? = some ys) : (∃ B c, x.1 = .slice B x.2.1 c) ∧ Reps rMv H ys x.2.2 ∧ x.2.1 ≤ 140737488355328 := by
 simp only [qR, List.getElem?_map, Option.map_eq_some_iff] at hx hy
 obtain ⟨p, hp, rfl⟩ := hx
 obtain ⟨q, hq, rfl⟩ := hy
 rw [hp] at hq; cases hq
 have := h.few p (mG hp)
 exact ⟨⟨_, _, rfl⟩, mv_reps _, by simp only; omega⟩
theorem out_mem {l : List QV} (h : OutI mv N n l) (hn : mv.length = n) {k : Nat} (hk : (l.map (·.ms))[k]? = some ms) (m : Mv) : m ∈ ms ↔ m ∈ mv ∧ m.src = (k : Int) := by
 rw [List.getElem?_map] at hk
 obtain ⟨p, hp, rfl⟩ := Option.map_eq_some_iff.1 hk
 rw [h.mem k p hp, List.take_of_length_le oM]
theorem out_few {l : List QV} (h : OutI mv N n l) (hn : mv.length = n) (h1 : mv.length ≤ 100000) {ms : List Mv} (hm : ms ∈ l.map (·.ms)) : ms.length ≤ 100000 := by
 obtain ⟨p, hp, rfl⟩ := List.mem_map.1 hm
 have := h.few p hp
 omega
theorem c85 {a : Auto} {N : Nat} (hN : a.states = (N : Int)) (hw : WfA a) (h1 : Sl rInt H a.start A1 n1 k1) (h2 : Sl rInt H a.final A2 n2 k2) (h3 : Sl rMv H a.moves A3 n3 k3) : Ct PP 85 #[.agg #[.int .i64 a.states, .int .i64 a.syms, .slice A1 n1 k1, .slice A2 n2 k2, .slice A3 n3 k3]] H [] fun v H' O' => O' = [] ∧ ∃ b A B c d G F, v = .pointer (ad b) ∧ GrAt H' b a N A B c d G F := by
 have j3 := hw.st
 have i9 := h3.len
 have j0 := h2.len
 have d7 := h2.cap
 have i8 := h2.2.2.1
 have i5 := hw.len
 rw [hN]
 refine cB func85 ntmps85 fun I hD hI j5 => ?_
 refine g2a ?_
 intros
 refine bG fun b2 => ?_
 refine g2 ?_
 refine TK.seq fun K4 d5 => ?_
 have d2 : ∀ (bo bf bg : Nat), TK 59 I K4 [(1, .pointer (ad b2)), (3, .pointer (ad bg))] H [.blk bg 211 [.int .i64 a.syms, .slice (ad bo) N N, .slice (ad bf) N N], .row 82 1 (.slice (ad bo) N N) N (List.replicate N (.slice none 0 0)), .row 4 1 (.slice (ad bf) N N) N (List.replicate N (.bool false)), .blk b2 84 [.int .i64 (N : Int), .int .i64 a.syms, .slice A1 n1 k1, .slice A2 n2 k2, .slice A3 n3 k3]] := by
  intro bo bf bg
  refine d5 _ _ _ ?_
  refine g2b ?_
  intros
  refine newRowsNil 166 3 (qR (q0 N)) (qR_0 N) ?_
  refine eO5 (fun _ e1 _ _ e4 => [.rows 166 3 (qR (q0 N)), e1, .row 82 1 (.slice (ad bo) N N) N (qO (q0 N)), .row 4 1 (.slice (ad bf) N N) N ((List.replicate N false).map Value.bool), e4]) ?_ (he := by simp [qO_0])
  refine g7 ?_
  refine lp3 (fun D f f1 f2 E H' O m => ∃ (i : Nat) (l : List QV), H = H' ∧ (i ≤ n3) ∧ (OutI a.moves N i l) ∧ m = n3 - i ∧ O = [.rows 166 3 (qR (l)), f, .row 82 1 (.slice (ad bo) N N) N (qO (l)), f1, f2] ∧ E = (21, .int .i64 (i : Int)) :: D) [1, 3, 19, 20] [0, 1, 2, 3, 4] ⟨0, q0 N, rfl, Nat.zero_le _, OutI.start, rfl, rfl, rfl⟩ ?_
  rintro _ _ _ _ ⟨i, l, rfl, hi, hO, rfl, rfl, rfl⟩ _ c0
  refine g5b ?_
  intros
  refine cD ?_ ?_ <;> intro e7
  refine g5b ?_
  intros
  obtain ⟨b4, h6⟩ := eX h3 i
  obtain ⟨i6, o5, _, e5, rfl, e8⟩ := h3.at_ h6
  refine g2 ?_
  refine aL fun d0 => ?_
  refine sG 0 ?_
  refine g1 ?_
  have j2 := okMv_iff.1 (hw.mv _ (mG h6))
  have d1 := hO.len
  obtain ⟨p, hp⟩ := ex_i (l := l) (i := (b4.src : Int).toNat) oM
  have j4 := hO.few p (mG hp)
  refine tss (.cons_cons _ (.cons _ (.cons_cons _ (.cons_cons _ (.cons_cons _ (.cons_cons _ (List.nil_sublist _))))))) 17 fun _ => ?_
  refine tj 0 ?_
  refine g12 ?_
  refine tk 13 rfl kR aS nP kS (yLoad1 aC rfl (Mem.row1 (i := 2) rfl (qO_at hp))) rfl rfl rfl ?_
  refine g1 ?_
  refine oI 15 rfl kR (bS [.int .i64 b4.src, .int .i64 b4.dst, .int .i64 b4.sym] fun c1 => ?_)
  refine g1 ?_
  refine oI 16 rfl kR (TK.rowOut (O := [.row 166 3 (.slice (ad c1) 1 1) 1 [.int .i64 b4.src, .int .i64 b4.dst, .int .i64 b4.sym], .blk d0 166 [.int .i64 b4.src, .int .i64 b4.dst, .int .i64 b4.sym], .rows 166 3 (qR (l)), .blk bg 211 [.int .i64 a.syms, .slice (ad bo) N N, .slice (ad bf) N N], .row 82 1 (.slice (ad bo) N N) N (qO (l)), .row 4 1 (.slice (ad bf) N N) N ((List.replicate N false).map Value.bool), .blk b2 84 [.int .i64 (N : Int), .int .i64 a.syms, .slice A1 n1 k1, .slice A2 n2 k2, .slice A3 n3 k3]]) (q := 2) (i := (b4.src : Int).toNat) rfl (qR_at hp) (tAppend hD (i := 0) (m := p.ms.length) (news := [.int .i64 b4.src, .int .i64 b4.dst, .int .i64 b4.sym]) rfl uC In166 rfl dC rfl rfl (Mem.row (i := 1) rfl rfl) rfl oC oM oM dC fun An cn => TK.rowIn (O := [.row 166 3 (.slice (ad c1) 1 1) 1 [.int .i64 b4.src, .int .i64 b4.dst, .int .i64 b4.sym], .blk d0 166 [.int .i64 b4.src, .int .i64 b4.dst, .int .i64 b4.sym], .rows 166 3 (qR (l)), .blk bg 211 [.int .i64 a.syms, .slice (ad bo) N N, .slice (ad bf) N N], .row 82 1 (.slice (ad bo) N N) N (qO (l)), .row 4 1 (.slice (ad bf) N N) N ((List.replicate N false).map Value.bool), .blk b2 84 [.int .i64 (N : Int), .int .i64 a.syms, .slice A1 n1 k1, .slice A2 n2 k2, .slice A3 n3 k3]]) (q := 2) (i := (b4.src : Int).toNat) (y := (.slice An (p.ms.length + 1) cn, p.ms.length + 1, mvC p.ms ++ [.int .i64 b4.src, .int .i64 b4.dst, .int .i64 b4.sym])) rfl (qR_at hp) rfl ?_))
  rw [qR_app (m := b4)]
  refine g3 ?_
  refine sq rfl (rS 4 ?_ (ho := by simp [qO, d1]; omega))
  rw [qO_app (m := b4)]
  refine g4 ?_
  exact nK c0 ⟨i + 1, l.set (b4.src : Int).toNat ⟨An, cn, p.ms ++ [b4]⟩, rfl, oM, (hO.step hp h6 oM), rfl, rfl, rfl⟩
  refine g10b ?_
  intros
  have b5 : OutI a.moves N n3 l := by rw [show n3 = i by omega]; exact hO
  refine lp4 (fun D f f1 f2 f3 E H' O m => ∃ (j : Nat) (F : List Bool), H = H' ∧ (j ≤ n2) ∧ (F.length = N) ∧ (FinI a.final j F) ∧ m = n2 - j ∧ O = [f, f1, f2, .row 4 1 (.slice (ad bf) N N) N ((F).map Value.bool), f3] ∧ E = (47, .int .i64 (j : Int)) :: D) [3, 45, 46] [0, 1, 2, 3, 4] ⟨0, List.replicate N false, rfl, Nat.zero_le _, (by simp), (fun s h => by simp at h), rfl, rfl, rfl⟩ ?_
  rintro _ _ _ _ ⟨j, F, rfl, hj, e6, hF, rfl, rfl, rfl⟩ _ b6
  refine g5b ?_
  intros
  refine cD ?_ ?_ <;> intro d8
  refine g5b ?_
  intros
  obtain ⟨e0, h4⟩ := eX h2 j
  obtain ⟨j1, o4, e9, d6⟩ := h2.atI h4
  refine g4 ?_
  have i7 := hw.final _ (mG h4)
  refine g7 ?_
  refine sq rfl (rS 3 ?_ (ho := by rw [List.length_map]; omega))
  rw [boolS]
  refine g4 ?_
  exact nK b6 ⟨j + 1, (F).set (e0 : Int).toNat true, rfl, oM, (by rw [List.length_set]; exact e6), (hF.step h4 oM), rfl, rfl, rfl⟩
  refine g6a ?_
  intros
  have d1 := b5.len
  refine tSealRows (r := rMv) (q := 0) (xs := l.map (·.ms)) dC (by simp [qR]) rfl (fun i x ys hx hy => q_row b5 oM hx hy) fun H7 b7 i4 => ?_
  have ⟨h2, h1, h3⟩ := mo3 b7 h2 h1 h3
  refine tSealRow (r := rSl rMv) (ys := l.map (·.ms)) (i := 1) rfl (q_seal fun i p hp => i4 i _ _ _ _ _ (qR_at hp) (by simp [hp])) dC oM fun H8 b9 h7 => ?_
  have ⟨h2, h1, h3⟩ := mo3 b9 h2 h1 h3
  refine tR 1 (r := rBool) (ys := F) (repsB F) fun H0 h9 h5 => ?_
  have ⟨h2, h1, h3, h7⟩ := mo4 h9 h2 h1 h3 h7
  refine tSeal (i := 0) rfl fun H1 h8 b8 => ?_
  have ⟨h2, h1, h3, h7, h5⟩ := mo5 h8 h2 h1 h3 h7 h5
  refine kP [] ?_
  refine rT results85 ?_
  exact ⟨rfl, _, _, _, _, _, _, _, rfl, ⟨b8, h7, h5, hN, fun k ms hk m => out_mem b5 h3.len hk m, fun ms e3 => out_few b5 h3.len hw.len e3, fun s hs => hF s (by rw [List.take_of_length_le (by have := h2.len; omega)]; exact hs)⟩⟩
 refine ts 8 fun _ => ?_
 refine tj 0 ?_
 refine g3 ?_
 refine tj 5 ?_
 refine g1 ?_
 refine tm2 4 7 ?_ ?_
 refine tMake uC iC rfl rfl rfl oM oM oM dC fun e2 => ?_
 refine g1 ?_
 refine oI 7 rfl kR (tMake uC iC rfl rfl rfl oM oM oM dC fun f9 => ?_)
 refine g3 ?_
 refine bG fun d3 => ?_
 refine g1 ?_
 exact TK.nil (wP [0, 2, 1, 3] [] 4 (d2 e2 f9 d3))
 refine tMake uC iC rfl rfl rfl oM oM oM dC fun d4 => ?_
 refine g1 ?_
 refine oI 4 rfl kR (tMake uC iC rfl rfl rfl oM oM oM dC fun f8 => ?_)
 refine g3 ?_
 refine bG fun d9 => ?_
 refine g1 ?_
 exact jN (d2 f8 d4 d9)
theorem c138 {n c : Nat} {A : OA} {s : Int} (hIn : InS xs m) (hn : n ≤ 1000000) : Ct PP 138 #[.int .i64 s, .pointer (ad b5), .pointer (ad b6)] H [.blk b5 212 [.map (some mb)], .blk b6 50 [.slice A n c], .map mb (mapL (Value.int .i64) Value.bool m), .row 3 1 (.slice A n c) n ((xs).map fun x => Value.int .i64 x)] fun v H' O' => ∃ A' n' c' m', O' = [.blk b5 212 [.map (some mb)], .blk b6 50 [.slice A' n' c'], .map mb (mapL (Value.int .i64) Value.bool m'), .row 3 1 (.slice A' n' c') n' ((addI xs s).map fun x => Value.int .i64 x)] ∧ InS (addI xs s) m' := by
 refine cB func138 ntmps138 fun I hD hI h6 => ?_
 refine g4a ?_
 intros
 refine q (yLookup (k := s) (g := Value.bool) (z := false) (i := 2) uC (keyInt uC) nC rfl rfl rfl) rfl rfl rfl ?_
 refine g2 ?_
 refine cN ?_ ?_ <;> intro h5
 have h4 : ¬ (mget m s).getD false = true := by simpa using h5
 refine g4a ?_
 intros
 refine sq rfl (tMapUpd (m := m) (k := s) (g := Value.bool) (v := true) (i := 2) uC (keyInt uC) rfl rfl rfl rfl ?_)
 refine g4 ?_
 refine sq rfl (bS [.int .i64 s] fun b4 => ?_)
 refine sq rfl (aR 4 fun A5 c6 => ?_)
 refine sU 2 ?_
 refine TK.nil (TK.keep [1, 2, 3, 4] dC rfl (TK.end0 results138 ?_))
 have hx : addI xs s = xs ++ [s] := by unfold addI; rw [if_neg fun e => h4 ((hIn.iff s).2 e)]
 exact ⟨A5, n + 1, c6, mput m s true, by rw [hx, List.map_append]; rfl, by rw [hx]; exact hIn.add h4⟩
 have h4 : (mget m s).getD false = true := by simpa using h5
 refine TK.skip (TK.keep [0, 1, 2, 3] dC rfl (TK.end0 results138 ?_))
 have hx : addI xs s = xs := by unfold addI; rw [if_pos ((hIn.iff s).1 h4)]
 exact ⟨A, n, c, m, by rw [hx]; rfl, by rw [hx]; exact hIn⟩
theorem cl_next {a : Auto} {zs : LI} (h : ∀ s ∈ zs.take k, ∀ u, (⟨s, u, -1⟩ : Mv) ∈ a.moves → u ∈ zs) (hx : zs[k]? = some x) (hn : ∀ u, (⟨x, u, -1⟩ : Mv) ∈ a.moves → u ∈ zs) : ∀ s ∈ zs.take (k + 1), ∀ u, (⟨s, u, -1⟩ : Mv) ∈ a.moves → u ∈ zs := by
 rw [List.take_add_one, hx]
 intro s hs
 rcases List.mem_append.1 hs with hs | hs
 ·exact h s hs
 ·simp at hs; rw [hs]; exact hn
theorem cl_done {a : Auto} {l ys : LI} {N : Nat} (h1 : ∀ u ∈ l, u ∈ ys) (h2 : ∀ u ∈ ys, 0 ≤ u ∧ u < a.states) (h3 : ∀ s ∈ ys.take k, ∀ u, (⟨s, u, -1⟩ : Mv) ∈ a.moves → u ∈ ys) (hk : ys.length ≤ k) (hN : a.states = (N : Int)) (hl : ys.length ≤ N) : ClR a l (ys.mergeSort fun x y => decide (x ≤ y)) where
 sub s hs := (sort_perm ys).mem_iff.2 (h1 s hs)
 cl s hs u hu := (sort_perm ys).mem_iff.2 (h3 s (by rw [List.take_of_length_le hk]; exact (sort_perm ys).mem_iff.1 hs) u hu)
 rg s hs := h2 s ((sort_perm ys).mem_iff.1 hs)
 len := by rw [(sort_perm ys).length_eq]; omega
theorem c86 (hG : GrAt H gb a N GA GB Gc Gd G F) (hw : WfA a) {l : LI} (hl : Sl rInt H l A n c) (hlr : ∀ s ∈ l, 0 ≤ s ∧ s < a.states) (hn : n ≤ 140737488355328) : Ct PP 86 #[.pointer (ad gb), .slice A n c] H [] fun v H' O' => O' = [] ∧ ∃ A n c R, v = .slice A n c ∧ Sl rInt H' R A n c ∧ ClR a l R := by
 have i4 := hG.cells
 have d4 := hG.out
 have l4 := hG.fin
 have hN := hG.st
 have l3 := hw.st
 have k8 := d4.len
 have l0 := hl.len
 refine cB func86 ntmps86 fun I hD hI l9 => ?_
 refine g6b ?_
 intros
 refine sq rfl (tMakeMap dC fun b3 => ?_)
 refine aL fun b4 => ?_
 refine sU 0 ?_
 refine g3a ?_
 intros
 refine aL fun b6 => ?_
 refine g14c ?_
 intros
 refine newRow 3 1 ?_
 have j8 : ([] : LV) = (([] : LI)).map fun x => Value.int .i64 x := rfl
 refine lp1 (fun D f E H' O m' => ∃ (i : Nat) (xs : LI) (m : List (Int × Bool)) (Ax : OA) (nx cx : Nat), H = H' ∧ (i ≤ n) ∧ (InS xs m) ∧ (∀ u ∈ l.take i, u ∈ xs) ∧ (∀ u ∈ xs, 0 ≤ u ∧ u < a.states) ∧ m' = n - i ∧ O = [.row 3 1 (.slice Ax nx cx) nx ((xs).map fun x => Value.int .i64 x), .blk b6 50 [.slice Ax nx cx], f, .map b3 (mapL (Value.int .i64) Value.bool m)] ∧ E = (17, .int .i64 (i : Int)) :: D) [0, 6, 7, 15, 16] [0, 1, 2, 3] ⟨0, [], [], none, 0, 0, rfl, Nat.zero_le _, InS.start, (by simp), (by simp), rfl, rfl, rfl⟩ ?_
 rintro _ _ _ _ ⟨i, xs, m, Ax, nx, cx, rfl, hi, h9, e1, b8, rfl, rfl, rfl⟩ _ d2
 refine g5b ?_
 intros
 refine cD ?_ ?_ <;> intro k5
 refine g5b ?_
 intros
 obtain ⟨f9, h8⟩ := eX hl i
 obtain ⟨l8, o5, k0, k2⟩ := hl.atI h8
 refine g7 ?_
 refine row_len (i := 0) rfl fun e0 _ => ?_
 rw [List.length_map, Nat.mul_one] at e0
 have j3 := few_of (N := N) h9.nd (fun s hs => by have := b8 s hs; omega)
 refine sq rfl (TK.callSO hD (perm_of_pick [2, 1, 3, 0] [] 4 rfl rfl rfl rfl) rfl rfl (entV call138 rfl rfl) (c138 (s := f9) h9 oM) ?_)
 rintro v0 O2 ⟨A1, n1, d6, d9, rfl, h7⟩
 refine g4 ?_
 exact TK.nil (wP [3, 1, 0, 2] [] 4 (d2 _ _ _ _ ⟨i + 1, addI xs f9, d9, A1, n1, d6, rfl, oM, h7, (by rw [List.take_add_one, h8]; intro u hu; rcases List.mem_append.1 hu with hu | hu; exact addI_sub (e1 u hu); simp at hu; rw [hu]; exact addI_mem), (fun u hu => (addI_of hu).elim (b8 u) fun e => by rw [e]; exact hlr _ (mG h8)), rfl, rfl, rfl⟩ oM))
 refine g7b ?_
 intros
 have j9 : ∀ u ∈ l, u ∈ xs := by rw [List.take_of_length_le (by have := hl.len; omega)] at e1; exact e1
 refine lp1 (fun D f E H' O m => ∃ (k : Nat) (ys : LI) (my : List (Int × Bool)) (Ay : OA) (ny cy : Nat), H = H' ∧ (InS ys my) ∧ (∀ u ∈ l, u ∈ ys) ∧ (∀ u ∈ ys, 0 ≤ u ∧ u < a.states) ∧ (∀ s ∈ ys.take k, ∀ u, (⟨s, u, -1⟩ : Mv) ∈ a.moves → u ∈ ys) ∧ m = N - k ∧ O = [.row 3 1 (.slice Ay ny cy) ny ((ys).map fun x => Value.int .i64 x), .blk b6 50 [.slice Ay ny cy], f, .map b3 (mapL (Value.int .i64) Value.bool my)] ∧ E = (10, .int .i64 (k : Int)) :: D) [0, 6, 7] [0, 1, 2, 3] ⟨0, xs, m, Ax, nx, cx, rfl, h9, j9, b8, (by simp), rfl, rfl, rfl⟩ ?_
 rintro _ _ _ _ ⟨k, ys, my, Ay, ny, cy, rfl, f8, i5, c1, i7, rfl, rfl, rfl⟩ _ e3
 refine row_len (i := 0) rfl fun j6 _ => ?_
 rw [List.length_map, Nat.mul_one] at j6
 have k1 := few_of (N := N) f8.nd (fun s hs => by have := c1 s hs; omega)
 refine g8b ?_
 intros
 refine cD ?_ ?_ <;> intro k6
 refine g4b ?_
 intros
 refine ts 12 fun _ => ?_
 refine tj 0 ?_
 refine g5 ?_
 refine row_addr (i := 0) rfl oM fun k7 e7 => ?_
 subst e7
 refine tj 6 ?_
 obtain ⟨x, hx⟩ := ex_i (l := ys) (i := k) oM
 have k9 := c1 x (mG hx)
 refine tk 7 rfl kR aS nP kS (yLoad1 aC rfl (Mem.row1 (i := 0) rfl (by rw [Nat.zero_add, Nat.mul_one, List.getElem?_map, Int.toNat_natCast, hx]; rfl))) rfl rfl rfl ?_
 obtain ⟨j2, b5⟩ := Sl.ex d4 (i := (x : Int).toNat) oM
 obtain ⟨l6, o6, k3, i9, e9, k4⟩ := d4.at_ b5
 obtain ⟨A2, n2, l7, rfl, h5⟩ := e9
 refine g7 ?_
 have e2 := b5
 have j4 := h5.len
 have l1 := hG.few _ (mG e2)
 refine lp1 (fun D f E H' O m => ∃ (j : Nat) (zs : LI) (mz : List (Int × Bool)) (Az : OA) (nz cz : Nat), H = H' ∧ (j ≤ n2) ∧ (InS zs mz) ∧ (∀ u ∈ l, u ∈ zs) ∧ (∀ u ∈ zs, 0 ≤ u ∧ u < a.states) ∧ (∀ s ∈ zs.take k, ∀ u, (⟨s, u, -1⟩ : Mv) ∈ a.moves → u ∈ zs) ∧ (zs[k]? = some x) ∧ (∀ q ∈ j2.take j, q.sym = -1 → q.dst ∈ zs) ∧ (k ≤ zs.length) ∧ m = n2 - j ∧ O = [.row 3 1 (.slice Az nz cz) nz ((zs).map fun x => Value.int .i64 x), .blk b6 50 [.slice Az nz cz], f, .map b3 (mapL (Value.int .i64) Value.bool mz)] ∧ E = (42, .int .i64 (j : Int)) :: D) [0, 6, 7, 10, 40, 41] [0, 1, 2, 3] ⟨0, ys, my, some ⟨k7, 0, none⟩, ny, cy, rfl, Nat.zero_le _, f8, i5, c1, i7, hx, (by simp), oM, rfl, rfl, rfl⟩ ?_
 rintro _ _ _ _ ⟨j, zs, mz, Az, nz, cz, rfl, hj, d1, e8, d0, d7, d3, d5, i6, rfl, rfl, rfl⟩ _ b7
 refine g5b ?_
 intros
 refine cD ?_ ?_ <;> intro j1
 refine g5b ?_
 intros
 obtain ⟨c0, h4⟩ := eX h5 j
 obtain ⟨l2, o4, _, j7, rfl, j0⟩ := h5.at_ h4
 refine g2 ?_
 refine aL fun l5 => ?_
 refine sG 0 ?_
 refine g7a ?_
 intros
 refine cD ?_ ?_ <;> intro d8
 have i8 := okMv_iff.1 (hw.mv _ ((hG.mem _ _ e2 _).1 (mG h4)).1)
 have j5 : 0 ≤ c0.dst ∧ c0.dst < a.states := ⟨i8.2.2.1, i8.2.2.2.1⟩
 have h9 := d1
 have b8 := d0
 refine g4 ?_
 refine row_len (i := 1) rfl fun e0 _ => ?_
 rw [List.length_map, Nat.mul_one] at e0
 have j3 := few_of (N := N) h9.nd (fun s hs => by have := b8 s hs; omega)
 refine sq rfl (TK.callSO hD (perm_of_pick [3, 2, 4, 1] [0] 5 rfl rfl rfl rfl) rfl rfl (entV call138 rfl rfl) (c138 (s := c0.dst) h9 oM) ?_)
 rintro v1 O1 ⟨A0, n0, e6, e4, rfl, h6⟩
 refine g4 ?_
 exact TK.nil (wP [3, 1, 0, 2] [4] 5 (b7 _ _ _ _ ⟨j + 1, addI zs c0.dst, e4, A0, n0, e6, rfl, oM, h6, (fun u hu => addI_sub (e8 u hu)), (fun u hu => (addI_of hu).elim (d0 u) fun e => by rw [e]; exact j5), (by rw [addI_take oM]; exact fun s hs u hu => addI_sub (d7 s hs u hu)), (addI_at d3), (by rw [List.take_add_one, h4]; intro u hu; rcases List.mem_append.1 hu with hu | hu; exact fun e => addI_sub (d5 u hu e); simp at hu; rw [hu]; exact fun _ => addI_mem), (Nat.le_trans i6 addI_len.1), rfl, rfl, rfl⟩ oM))
 refine g4 ?_
 exact nK b7 ⟨j + 1, zs, mz, Az, nz, cz, rfl, oM, d1, e8, d0, d7, d3, (by rw [List.take_add_one, h4]; intro u hu; rcases List.mem_append.1 hu with hu | hu; exact d5 u hu; simp at hu; rw [hu]; exact fun e => absurd e d8), i6, rfl, rfl, rfl⟩
 refine g5 ?_
 exact nK e3 ⟨k + 1, zs, mz, Az, nz, cz, rfl, d1, (fun u hu => e8 u hu), d0, (cl_next d7 d3 (fun u hu => by obtain ⟨q, hq⟩ := List.getElem?_of_mem ((hG.mem _ _ e2 _).2 ⟨hu, by simp only; omega⟩); exact d5 _ (by rw [List.take_of_length_le oM]; exact mG hq) rfl)), rfl, rfl, rfl⟩
 refine g4a ?_
 intros
 refine sq rfl (fT hD [0] [1, 2, 3] rfl call139 rfl (c139 (xs := ys) oM oM) ?_)
 rintro v2 O3 rfl
 refine g6a ?_
 intros
 refine tR 0 (r := rInt) (ys := (ys.mergeSort fun x y => decide (x ≤ y))) (repsI _) fun H0 b9 e5 => ?_
 have i4 := i4.mono b9
 refine kP [] ?_
 refine rT results86 ?_
 exact ⟨rfl, _, _, _, _, rfl, e5, cl_done i5 c1 i7 oM hN k1⟩
theorem nx_next {a : Auto} {l ys zs : LI} {sym : Int} (h : ∀ s ∈ l.take i, ∀ u, (⟨s, u, sym⟩ : Mv) ∈ a.moves → u ∈ ys) (hx : l[i]? = some x) (hs : ∀ u ∈ ys, u ∈ zs) (hn : ∀ u, (⟨x, u, sym⟩ : Mv) ∈ a.moves → u ∈ zs) : ∀ s ∈ l.take (i + 1), ∀ u, (⟨s, u, sym⟩ : Mv) ∈ a.moves → u ∈ zs := by
 rw [List.take_add_one, hx]
 intro s h4
 rcases List.mem_append.1 h4 with h1 | h1
 ·exact fun u hu => hs u (h s h1 u hu)
 ·simp at h1; rw [h1]; exact hn
theorem ints_snoc {ys : LI} {x : Int} : (ys.map fun x => Value.int .i64 x) ++ [Value.int .i64 x] = (ys ++ [x]).map fun x => Value.int .i64 x := by simp
theorem c87 {sym : Int} (hG : GrAt H gb a N GA GB Gc Gd G F) (hw : WfA a) {l : LI} (hl : Sl rInt H l A n c) (hlr : ∀ s ∈ l, 0 ≤ s ∧ s < a.states) (hn : n ≤ 1000000) : Ct PP 87 #[.pointer (ad gb), .slice A n c, .int .i64 sym] H [] fun v H' O' => O' = [] ∧ ∃ A n c R, v = .slice A n c ∧ Sl rInt H' R A n c ∧ ∃ ys, (∀ s ∈ l, ∀ u, (⟨s, u, sym⟩ : Mv) ∈ a.moves → u ∈ ys) ∧ ClR a ys R := by
 have b6 := hG.cells
 have b7 := hG.out
 have j3 := hG.fin
 have hN := hG.st
 have j2 := hw.st
 have i6 := b7.len
 have i8 := hl.len
 refine cB func87 ntmps87 fun I hD hI j8 => ?_
 refine g16d ?_
 intros
 refine newRow 3 1 ?_
 have e5 : ([] : LV) = (([] : LI)).map fun x => Value.int .i64 x := rfl
 refine lp0 (fun D E H' O m => ∃ (i : Nat) (ys : LI) (Ay : OA) (ny cy : Nat), H = H' ∧ (i ≤ n) ∧ (∀ u ∈ ys, 0 ≤ u ∧ u < a.states) ∧ (∀ s ∈ l.take i, ∀ u, (⟨s, u, sym⟩ : Mv) ∈ a.moves → u ∈ ys) ∧ (ny ≤ i * 1000 * 100) ∧ m = n - i ∧ O = [.row 3 1 (.slice Ay ny cy) ny ((ys).map fun x => Value.int .i64 x)] ∧ E = (7, .slice Ay ny cy) :: (14, .int .i64 (i : Int)) :: D) [0, 2, 12, 13] [0] ⟨0, [], none, 0, 0, rfl, Nat.zero_le _, (by simp), (by simp), (Nat.zero_le _), rfl, rfl, rfl⟩ ?_
 rintro _ _ _ _ ⟨i, ys, Ay, ny, cy, rfl, hi, d4, c1, j9, rfl, rfl, rfl⟩ _ d7
 refine g5b ?_
 intros
 refine cD ?_ ?_ <;> intro e3
 refine g5b ?_
 intros
 obtain ⟨e7, h5⟩ := eX hl i
 obtain ⟨j7, o5, e9, d8⟩ := hl.atI h5
 refine g5a ?_
 intros
 have i7 := hlr _ (mG h5)
 refine g6 ?_
 obtain ⟨e8, b4⟩ := Sl.ex b7 (i := (e7 : Int).toNat) oM
 obtain ⟨j1, o4, f9, e2, c0, e6⟩ := b7.at_ b4
 obtain ⟨A1, n0, c33, rfl, h6⟩ := c0
 refine g6 ?_
 have b9 := b4
 have e1 := h6.len
 have j0 := hG.few _ (mG b9)
 refine lp0 (fun D E H' O m => ∃ (j : Nat) (zs : LI) (Az : OA) (nz cz : Nat), H = H' ∧ (j ≤ n0) ∧ (∀ u ∈ zs, 0 ≤ u ∧ u < a.states) ∧ (∀ u ∈ ys, u ∈ zs) ∧ (∀ q ∈ e8.take j, q.sym = sym → q.dst ∈ zs) ∧ (nz ≤ i * 1000 * 100 + j) ∧ m = n0 - j ∧ O = [.row 3 1 (.slice Az nz cz) nz ((zs).map fun x => Value.int .i64 x)] ∧ E = (7, .slice Az nz cz) :: (26, .int .i64 (j : Int)) :: D) [0, 2, 12, 13, 14, 24, 25] [0] ⟨0, ys, Ay, ny, cy, rfl, Nat.zero_le _, d4, (fun u h => h), (by simp), oM, rfl, rfl, rfl⟩ ?_
 rintro _ _ _ _ ⟨j, zs, Az, nz, cz, rfl, hj, d0, d1, b8, j6, rfl, rfl, rfl⟩ _ h9
 refine g5b ?_
 intros
 refine cD ?_ ?_ <;> intro e0
 refine g5b ?_
 intros
 obtain ⟨d3, h4⟩ := eX h6 j
 obtain ⟨j4, o6, _, d6, rfl, f8⟩ := h6.at_ h4
 refine g2 ?_
 refine aL fun i9 => ?_
 refine sG 0 ?_
 refine g8a ?_
 intros
 refine cD ?_ ?_ <;> intro d2
 refine g4 ?_
 refine sq rfl (bS [.int .i64 d3.dst] fun j5 => ?_)
 refine sq rfl (aR 2 fun A0 i4 => ?_)
 refine g5 ?_
 rw [ints_snoc]
 have d5 := okMv_iff.1 (hw.mv _ ((hG.mem _ _ b9 _).1 (mG h4)).1)
 exact nK h9 ⟨j + 1, zs ++ [d3.dst], A0, (nz + 1), i4, rfl, oM, (by intro u hu; rcases List.mem_append.1 hu with hu | hu; exact d0 u hu; simp at hu; rw [hu]; exact ⟨d5.2.2.1, d5.2.2.2.1⟩), (fun u hu => List.mem_append_left _ (d1 u hu)), (by rw [List.take_add_one, h4]; intro u hu; rcases List.mem_append.1 hu with hu | hu; exact fun e => List.mem_append_left _ (b8 u hu e); simp at hu; rw [hu]; exact fun _ => by simp), oM, rfl, rfl, rfl⟩
 refine g4 ?_
 exact nK h9 ⟨j + 1, zs, Az, nz, cz, rfl, oM, d0, d1, (by rw [List.take_add_one, h4]; intro u hu; rcases List.mem_append.1 hu with hu | hu; exact b8 u hu; simp at hu; rw [hu]; exact fun e => absurd e d2), oM, rfl, rfl, rfl⟩
 refine g4 ?_
 exact nK d7 ⟨i + 1, zs, Az, nz, cz, rfl, oM, d0, (nx_next c1 h5 d1 (fun u hu => by obtain ⟨q, hq⟩ := List.getElem?_of_mem ((hG.mem _ _ b9 _).2 ⟨hu, by simp only; omega⟩); exact b8 _ (by rw [List.take_of_length_le oM]; exact mG hq) rfl)), oM, rfl, rfl, rfl⟩
 refine g5a ?_
 intros
 have d9 : ∀ s ∈ l, ∀ u, (⟨s, u, sym⟩ : Mv) ∈ a.moves → u ∈ ys := by rw [List.take_of_length_le (by have := hl.len; omega)] at c1; exact c1
 refine tR 0 (r := rInt) (ys := ys) (repsI ys) fun H0 h8 h7 => ?_
 have ⟨b6, hl, hG⟩ := mo3 h8 b6 hl hG
 refine sq rfl (fP hD rfl call86 rfl (c86 hG hw h7 d4 oM) ?_)
 rintro v0 H1 ⟨A7, n7, c7, R7, rfl, e4, i5⟩ b5
 have ⟨b6, h7, hl⟩ := mo3 b5 b6 h7 hl
 refine g2 ?_
 refine rT results87 ?_
 exact ⟨rfl, _, _, _, _, rfl, e4, ys, d9, i5⟩
theorem c140 {s : Int} (hG : GrAt H gb a N GA GB Gc Gd G F) (hw : WfA a) (hs : 0 ≤ s ∧ s < a.states) (hq : HC H z 0 [.pointer (ad gb)]) : Ct PP 140 #[.int .i64 s, .pointer (ad z)] H [] fun v H' O' => O' = [] ∧ v = .bool (F.getD s.toNat false) := by
 have b7 := hG.cells
 have h6 := hG.out
 have h4 := hG.fin
 have hN := hG.st
 have b4 := hw.st
 have h8 := h6.len
 have b6 := h4.len
 refine cB func140 ntmps140 fun I hD hI h9 => ?_
 refine g11b ?_
 intros
 obtain ⟨x4, h5⟩ := Sl.ex h4 (i := (s : Int).toNat) oM
 obtain ⟨b5, o6, b8, h7⟩ := h4.atB h5
 refine g4 ?_
 refine rT results140 ?_
 exact ⟨rfl, congrArg Value.bool (by rw [List.getD_eq_getElem?_getD, h5]; rfl)⟩
theorem c88 (hG : GrAt H gb a N GA GB Gc Gd G F) (hw : WfA a) {l : LI} (hl : Sl rInt H l A n c) (hlr : ∀ s ∈ l, 0 ≤ s ∧ s < a.states) (hn : n ≤ 1000000) : Ct PP 88 #[.pointer (ad gb), .slice A n c] H [] fun v H' O' => O' = [] ∧ v = .bool (l.any fun s => F.getD s.toNat false) := by
 refine cB func88 ntmps88 fun I hD hI h6 => ?_
 refine g2a ?_
 intros
 refine bX [.pointer (ad gb)] fun b2 => ?_
 refine g3a ?_
 intros
 refine tSeal (i := 0) rfl fun H4 h4 h5 => ?_
 have ⟨hl, hG⟩ := mo2 h4 hl hG
 refine g3 ?_
 refine sq rfl (fS hD rfl call77 rfl (c77 (p := fun s => F.getD s.toNat false) (caps := [.pointer (ad b2)]) hl oM call140 (fun x hx => c140 hG hw (hlr x hx) h5)) ?_)
 rintro v7 rfl
 refine g2 ?_
 refine rT results88 ?_
 exact ⟨rfl, rfl⟩
def outS (a : Auto) (s : Int) : Bool := !decide (0 ≤ s ∧ s < a.syms)
theorem c84 {a : Auto} {s : Int} {x0 x2 x3 x4 : Value} (hq : HC H z 0 [x0, .int .i64 a.syms, x2, x3, x4]) : Ct PP 84 #[.int .i64 s, .pointer (ad z)] H [] fun v H' O' => O' = [] ∧ v = .bool (outS a s) := by
 refine cB func84 ntmps84 fun I hD hI h4 => ?_
 refine g9b ?_
 intros
 refine sD 6 ?_ ?_ <;> intro h5
 refine g7 ?_
 refine rT results84 ?_
 exact ⟨rfl, congrArg Value.bool (by unfold outS; by_cases h : 0 ≤ s ∧ s < a.syms <;> simp [h] <;> omega)⟩
 refine g7 ?_
 refine rT results84 ?_
 exact ⟨rfl, congrArg Value.bool (by unfold outS; by_cases h : 0 ≤ s ∧ s < a.syms <;> simp [h] <;> omega)⟩
theorem RunA.back {mv : List Mv} {v : LI} {c : Int} (h : RunA mv s (v ++ [c]) u) : ∃ p q, RunA mv s v p ∧ (⟨p, q, c⟩ : Mv) ∈ mv ∧ RunA mv q [] u := by
 generalize he : v ++ [c] = z at h
 induction h generalizing v with
 | nil => simp at he
 | eps h1 _ ih => obtain ⟨p, q, e1, e2, e3⟩ := ih he; exact ⟨p, q, .eps h1 e1, e2, e3⟩
 | sym h1 h2 h3 ih =>
  cases v with
  | nil => simp at he; obtain ⟨rfl, rfl⟩ := he; exact ⟨_, _, .nil, h1, h3⟩
  | cons d v =>
   simp at he
   obtain ⟨rfl, he⟩ := he
   obtain ⟨p, q, e1, e2, e3⟩ := ih he
   exact ⟨p, q, .sym h1 h2 e1, e2, e3⟩
theorem eps_cl {mv : List Mv} {R : LI} (h : ∀ s ∈ R, ∀ u, (⟨s, u, -1⟩ : Mv) ∈ mv → u ∈ R) (hr : RunA mv s [] u) (hs : s ∈ R) : u ∈ R := by
 generalize he : ([] : LI) = z at hr
 induction hr with
 | nil => exact hs
 | eps h1 _ ih => exact ih (h _ hs _ h1) he
 | sym _ _ _ _ => cases he
structure ReaS (a : Auto) (w R : LI) : Prop where
 on : ∀ s0 ∈ a.start, ∀ u, RunA a.moves s0 w u → u ∈ R
 rg : ∀ s ∈ R, 0 ≤ s ∧ s < a.states
 len : (R.length : Int) ≤ a.states
theorem ReaS.start {a : Auto} (h : ClR a a.start R) : ReaS a [] R := ⟨fun s0 hs u hr => eps_cl h.cl hr (h.sub s0 hs), h.rg, h.len⟩
theorem ReaS.step {a : Auto} {w ys : LI} {c : Int} (h : ReaS a (w.take i) R) (hc : w[i]? = some c) (h1 : ∀ s ∈ R, ∀ u, (⟨s, u, c⟩ : Mv) ∈ a.moves → u ∈ ys) (h2 : ClR a ys R') : ReaS a (w.take (i + 1)) R' := by
 refine ⟨fun s0 hs u hr => ?_, h2.rg, h2.len⟩
 rw [List.take_add_one, hc] at hr
 obtain ⟨p, q, e1, e2, e3⟩ := hr.back
 exact eps_cl h2.cl e3 (h2.sub q (h1 p (h.on s0 hs p e1) q e2))
theorem ReaS.acc {a : Auto} {w : LI} {F : List Bool} (h : ReaS a w R) (hF : ∀ s ∈ a.final, F[s.toNat]? = some true) (ha : AccA a w) : (R.any fun s => F.getD s.toNat false) = true := by
 obtain ⟨s, hs, f, hf, hr⟩ := ha
 exact List.any_eq_true.2 ⟨f, h.on s hs f hr, by rw [List.getD_eq_getElem?_getD, hF f hf]; rfl⟩
theorem wordS_out {a : Auto} (h : WordS a.syms w) : w.any (outS a) = false := by
 rw [List.any_eq_false]; intro c hc; unfold outS; have := h c hc; simp [this]
theorem c41 {a : Auto} (h1 : Sl rInt H a.start A1 n1 k1) (h2 : Sl rInt H a.final A2 n2 k2) (h3 : Sl rMv H a.moves A3 n3 k3) (hv : validA a = true) (hl : Sl rInt H w A n c) (hn : n ≤ 200) (hws : WordS a.syms w) : Ct PP 41 #[.agg #[.int .i64 a.states, .int .i64 a.syms, .slice A1 n1 k1, .slice A2 n2 k2, .slice A3 n3 k3], .slice A n c] H [] fun v H' O' => O' = [] ∧ ∃ r, v = .tuple #[.bool r, .int .i64 0] ∧ (AccA a w → r = true) := by
 have hw := validA_wf hv
 have d3 := hw.st
 obtain ⟨N, hN⟩ := Int.eq_ofNat_of_zero_le d3.1
 have d9 := hl.len
 refine cB func41 ntmps41 fun I hD hI e3 => ?_
 refine g2a ?_
 intros
 refine bG fun b2 => ?_
 refine g6b ?_
 intros
 refine tSeal (i := 0) rfl fun H5 c0 h6 => ?_
 have ⟨h1, h2, h3, hl⟩ := mo4 c0 h1 h2 h3 hl
 refine g2 ?_
 refine sq rfl (fS hD rfl call83 rfl (c83 h1 h2 h3) ?_)
 rintro v8 rfl
 refine g3 ?_
 refine cN ?_ ?_ <;> intro c1
 exfalso; rw [hv] at c1; cases c1
 refine g7a ?_
 intros
 refine cD ?_ ?_ <;> intro d4
 exfalso; omega
 refine g4a ?_
 intros
 refine sq rfl (fS hD rfl call77 rfl (c77 (p := outS a) (caps := [.pointer (ad b2)]) hl oM call84 (fun x hx => c84 h6)) ?_)
 rintro v2 rfl
 refine g2 ?_
 refine cN ?_ ?_ <;> intro h7
 exfalso; rw [wordS_out hws] at h7; cases h7
 refine g4a ?_
 intros
 refine sq rfl (fP hD rfl call85 rfl (c85 hN hw h1 h2 h3) ?_)
 rintro v4 H3 ⟨gb, GA, GB, Gc, Gd, G, F, rfl, hG⟩ h9
 have ⟨h1, h2, h3, hl, h6⟩ := mo5 h9 h1 h2 h3 hl h6
 refine g7a ?_
 intros
 refine sq rfl (fP hD rfl call86 rfl (c86 hG hw h1 hw.start (by have := h1.2.2.1; have := h1.cap; omega)) ?_)
 rintro v0 H0 ⟨A7, n7, c7, R7, rfl, b9, d8⟩ b6
 have ⟨h1, h2, h3, hl, h6, hG⟩ := mo6 b6 h1 h2 h3 hl h6 hG
 refine g10b ?_
 intros
 refine lp0 (fun D E H O m => ∃ (i : Nat) (R : LI) (Ar : OA) (nr cr : Nat), Ghost.le H0 H ∧ (i ≤ n) ∧ (Sl rInt H R Ar nr cr) ∧ (ReaS a (w.take i) R) ∧ (GrAt H gb a N GA GB Gc Gd G F) ∧ m = n - i ∧ O = [] ∧ E = (7, .slice Ar nr cr) :: (30, .int .i64 (i : Int)) :: D) [6, 28, 29] [] ⟨0, R7, A7, n7, c7, Ghost.le.refl _, Nat.zero_le _, b9, (ReaS.start d8), hG, rfl, rfl, rfl⟩ ?_
 rintro _ _ _ _ ⟨i, R, Ar, nr, cr, h5, hi, hR, b7, hG, rfl, rfl, rfl⟩ _ b8
 have ⟨h1, h2, h3, hl, h6, b9⟩ := mo6 h5 h1 h2 h3 hl h6 b9
 have e2 := hR.len
 have e0 := b7.len
 refine g5b ?_
 intros
 refine cD ?_ ?_ <;> intro d1
 refine g5b ?_
 intros
 obtain ⟨d2, b4⟩ := eX hl i
 obtain ⟨e1, o4, d7, h8⟩ := hl.atI b4
 refine g8 ?_
 refine sq rfl (fP hD rfl call87 rfl (c87 (sym := d2) hG hw hR b7.rg oM) ?_)
 rintro v3 H2 ⟨A8, n8, c8, R8, rfl, d0, y8, d5, d6⟩ h4
 have ⟨hR, hl, h8, hG⟩ := mo4 h4 hR hl h8 hG
 refine g5 ?_
 exact nK b8 ⟨i + 1, R8, A8, n8, c8, (h5.trans h4), oM, d0, (b7.step b4 d5 d6), hG, rfl, rfl, rfl⟩
 refine g5a ?_
 intros
 refine sq rfl (fP hD rfl call88 rfl (c88 hG hw hR b7.rg oM) ?_)
 rintro v1 H1 rfl b5
 have ⟨hR, hl, hG⟩ := mo3 b5 hR hl hG
 refine g3 ?_
 refine r2 results41 ?_
 exact ⟨rfl, _, rfl, fun ha => b7.acc hG.isf (by rw [List.take_of_length_le oM]; exact ha)⟩
end
section
structure SV where
 A : OA
 n : Nat
 c : Nat
 l : LI
def sO (S : List SV) : LV := S.map fun p => .slice p.A p.n p.c
def svOk (H : Ghost) (S : List SV) : Prop := ∀ p ∈ S, Sl rInt H p.l p.A p.n p.c
theorem svOk.mono {H : Ghost} (h : svOk H S) (hle : Ghost.le H H') : svOk H' S := fun p hp => (h p hp).mono hle
theorem sO_at {S : List SV} {k : Nat} (h : S[k]? = some p) : (sO S)[0 + k * 1]? = some (.slice p.A p.n p.c) := by rw [Nat.zero_add, Nat.mul_one]; simp [sO, h]
theorem sO_snoc {A : OA} {n c : Nat} {l : LI} : sO S ++ [.slice A n c] = sO (S ++ [⟨A, n, c, l⟩]) := by simp [sO]
theorem svOk.snoc {H : Ghost} {A : OA} {n c : Nat} {l : LI} (h : svOk H S) (hl : Sl rInt H l A n c) : svOk H (S ++ [⟨A, n, c, l⟩]) := fun p hp => by
 rcases List.mem_append.1 hp with hp | hp
 ·exact h p hp
 ·simp at hp; subst hp; exact hl
def RowS (a : Auto) (S : List SV) (j : Nat) (r : LI) (n : Nat) : Prop := ∀ (c : Nat) (x : Int), c < n → r[c]? = some x → 0 ≤ x ∧ x < (S.length : Int) ∧ ∀ p p', S[j]? = some p → S[x.toNat]? = some p' → ∀ s ∈ p.l, ∀ u, (⟨s, u, (c : Int)⟩ : Mv) ∈ a.moves → u ∈ p'.l
structure SubI (a : Auto) (S : List SV) (nx : List LI) (fn : List Bool) (i : Nat) : Prop where
 st : ∃ s0, S[0]? = some s0 ∧ ∀ s ∈ a.start, s ∈ s0.l
 cl : ∀ p ∈ S, ∀ s ∈ p.l, ∀ u, (⟨s, u, -1⟩ : Mv) ∈ a.moves → u ∈ p.l
 rg : ∀ p ∈ S, ∀ s ∈ p.l, 0 ≤ s ∧ s < a.states
 ln : ∀ p ∈ S, (p.l.length : Int) ≤ a.states
 nl : nx.length = i
 fl : fn.length = i
 ik : i ≤ S.length
 row : ∀ r ∈ nx, r.length = a.syms.toNat
 to : ∀ (j : Nat) (r : LI), nx[j]? = some r → RowS a S j r a.syms.toNat
 fi : ∀ (j : Nat) (p : SV), j < i → S[j]? = some p → (∃ s ∈ p.l, s ∈ a.final) → fn[j]? = some true
structure KeyI (S : List SV) (m : List (BA × Int)) : Prop where
 inv : ∀ k v, mget m k = some v → ∃ (j : Nat) (p : SV), v = (j : Int) ∧ S[j]? = some p ∧ keyA p.l = k
section
variable {a : Auto} {S : List SV} {nx : List LI} {fn : List Bool} {i j n : Nat} {r : LI} {m : List (BA × Int)}
theorem at_grow {S : List SV} {q : SV} {k : Nat} (h : S[k]? = some p) : (S ++ [q])[k]? = some p := by rw [List.getElem?_append_left (gE h).1]; exact h
theorem RowS.grow {q : SV} (h : RowS a S j r n) (hj : j < S.length) : RowS a (S ++ [q]) j r n := fun c x hc hx => by
 obtain ⟨h1, h2, h3⟩ := h c x hc hx
 refine ⟨h1, by simp; omega, fun p p' hp h4 => ?_⟩
 rw [List.getElem?_append_left hj] at hp
 rw [List.getElem?_append_left oM] at h4
 exact h3 p p' hp h4
theorem SubI.grow {q : SV} (h : SubI a S nx fn i) (h1 : ∀ s ∈ q.l, ∀ u, (⟨s, u, -1⟩ : Mv) ∈ a.moves → u ∈ q.l) (h2 : ∀ s ∈ q.l, 0 ≤ s ∧ s < a.states) (h3 : (q.l.length : Int) ≤ a.states) : SubI a (S ++ [q]) nx fn i := by
 have mm : ∀ {P : SV → Prop}, (∀ p ∈ S, P p) → P q → ∀ p ∈ S ++ [q], P p := fun hS hq p hp => by
  rcases List.mem_append.1 hp with hp | hp
  ·exact hS p hp
  ·simp at hp; subst hp; exact hq
 obtain ⟨s0, h4, h5⟩ := h.st
 refine ⟨⟨s0, at_grow h4, h5⟩, mm h.cl h1, mm h.rg h2, mm h.ln h3, h.nl, h.fl, by have := h.ik; simp; omega, h.row, fun j r hj => (h.to j r hj).grow ?_, fun j p hj hp hs => ?_⟩
 ·have := (gE hj).1; have := h.nl; have := h.ik; omega
 ·have := h.ik
  rw [List.getElem?_append_left oM] at hp
  exact h.fi j p hj hp hs
theorem SubI.next {b : Bool} (h : SubI a S nx fn i) (hp : S[i]? = some p) (hr : RowS a S i r a.syms.toNat) (hrl : r.length = a.syms.toNat) (hb : (∃ s ∈ p.l, s ∈ a.final) → b = true) : SubI a S (nx ++ [r]) (fn ++ [b]) (i + 1) := by
 have h6 := h.nl; have h5 := h.fl
 refine ⟨h.st, h.cl, h.rg, h.ln, by simp [h.nl], by simp [h.fl], (gE hp).1, fun x hx => ?_, fun j x hj => ?_, fun j q hj hq hs => ?_⟩
 ·rcases List.mem_append.1 hx with hx | hx
  ·exact h.row x hx
  ·simp at hx; subst hx; exact hrl
 ·rcases Nat.lt_or_ge j i with h1 | h1
  ·rw [List.getElem?_append_left oM] at hj; exact h.to j x hj
  ·rw [List.getElem?_append_right oM] at hj
   have h2 : j = i := by
    rcases Nat.eq_zero_or_pos (j - nx.length) with h4 | h4
    ·omega
    ·rw [List.getElem?_eq_none (by simp; omega)] at hj; cases hj
   subst h2
   rw [h6, Nat.sub_self] at hj
   simp at hj; subst hj
   exact hr
 ·rcases Nat.lt_or_ge j i with h1 | h1
  ·rw [List.getElem?_append_left oM]; exact h.fi j q h1 hq hs
  ·obtain rfl : j = i := by omega
   rw [hp] at hq; cases hq
   rw [List.getElem?_append_right oM, h5, Nat.sub_self]
   simp; exact hb hs
theorem RowS.zero : RowS a S j r 0 := fun c x hc => by omega
theorem RowS.put {x : Int} (h : RowS a S j r n) (hn : n < r.length) (hx : 0 ≤ x) (hp : S[j]? = some p) (hp' : S[x.toNat]? = some p') (hm : ∀ s ∈ p.l, ∀ u, (⟨s, u, (n : Int)⟩ : Mv) ∈ a.moves → u ∈ p'.l) : RowS a S j (r.set n x) (n + 1) := fun c y hc hy => by
 have h5 := (gE hp').1
 rw [List.getElem?_set] at hy
 split at hy
 ·rename_i e
  subst e
  first | (rw [if_pos hn] at hy; cases hy) | cases hy
  refine ⟨hx, by omega, fun q q' hq h4 => ?_⟩
  rw [hp] at hq; cases hq
  rw [hp'] at h4; cases h4
  exact hm
 ·exact h c y oM hy
theorem KeyI.start {p : SV} : KeyI [p] (mput [] (keyA p.l) 0) := ⟨fun k v h => by
 rw [mget_mput] at h
 split at h
 ·rename_i e; cases h; exact ⟨0, p, rfl, rfl, e⟩
 ·simp [mget] at h⟩
theorem KeyI.add {q : SV} (h : KeyI S m) : KeyI (S ++ [q]) (mput m (keyA q.l) (S.length : Int)) := ⟨fun k v hv => by
 rw [mget_mput] at hv
 split at hv
 ·rename_i e; cases hv; exact ⟨S.length, q, rfl, by simp, e⟩
 ·obtain ⟨j, p, h1, h2, h3⟩ := h.inv k v hv; exact ⟨j, p, h1, at_grow h2, h3⟩⟩
theorem KeyI.known (h : KeyI S m) (hs : (mget m (keyA R)).isSome = true) (hR : ∀ x ∈ R, 0 ≤ x) (hS : ∀ p ∈ S, ∀ s ∈ p.l, 0 ≤ s ∧ s < a.states) : ∃ (j : Nat) (p : SV), (mget m (keyA R)).getD 0 = (j : Int) ∧ S[j]? = some p ∧ p.l = R := by
 obtain ⟨v, hv⟩ := Option.isSome_iff_exists.1 hs
 obtain ⟨j, p, h1, h2, h3⟩ := h.inv _ _ hv
 exact ⟨j, p, by rw [hv, Option.getD_some, h1], h2, keyA_inj (fun x hx => (hS p (mG h2) x hx).1) hR h3⟩
theorem SubI.done (h : SubI a S nx fn i) (hi : S.length ≤ i) (hs : 0 ≤ a.syms ∧ a.syms ≤ 40) (h1 : 1 ≤ S.length ∧ S.length ≤ 2000) : SubR a ⟨a.syms, nx, fn⟩ := by
 have h7 := h.ik; have h9 := h.nl; have h8 := h.fl
 have ok : TabOk ⟨a.syms, nx, fn⟩ := ⟨hs, by simp only; omega, by simp only; omega, h.row, fun r hr x hx => by
  obtain ⟨j, hj⟩ := List.getElem?_of_mem hr
  obtain ⟨c, hc⟩ := List.getElem?_of_mem hx
  have h4 := (gE hc).1
  have := h.to j r hj c x (by rw [← h.row r hr]; exact h4) hc
  simp only; omega⟩
 refine ⟨ok, rfl, S.map (·.l), by simp only [List.length_map]; omega, fun s0 h0 => ?_, fun l hl => ?_, fun j c l l' hc hl h6 => ?_, fun j l hl hs => ?_⟩
 ·obtain ⟨q, h2, h3⟩ := h.st
  rw [List.getElem?_map, h2] at h0; simp at h0; subst h0; exact h3
 ·obtain ⟨p, hp, rfl⟩ := List.mem_map.1 hl; exact h.cl p hp
 ·rw [List.getElem?_map] at hl h6
  obtain ⟨p, hp, rfl⟩ := Option.map_eq_some_iff.1 hl
  obtain ⟨p', h5, rfl⟩ := Option.map_eq_some_iff.1 h6
  have hj : j < nx.length := by have := (gE hp).1; omega
  have hr := List.getElem?_eq_getElem hj
  have b4 := h.row _ (List.getElem_mem hj)
  have h4 : c < (nx[j]).length := by omega
  have e := Tab.to_at (t := ⟨a.syms, nx, fn⟩) hr (List.getElem?_eq_getElem h4)
  rw [e] at h5
  exact (h.to j _ hr c _ oM (List.getElem?_eq_getElem h4)).2.2 p p' hp h5
 ·rw [List.getElem?_map] at hl
  obtain ⟨p, hp, rfl⟩ := Option.map_eq_some_iff.1 hl
  exact h.fi j p (by have := (gE hp).1; omega) hp hs
end
instance : Mo (svOk H S) H H' (svOk H' S) := ⟨fun h e => h.mono e⟩
end
end Go.Proofs.YtookcfeogbeooaaGreatDoor
