/-
Operations of strings.Builder: raw pointers, strings over a row of bytes, appending a string. More operations: a row taken out of many and put back; copy; a fresh row of bytes. Plain data and plain functions: what the program's functions answer, in Lean alone. The program's data as plain Lean data, and how they lie in memory. Moves that are compared. Loops that are walked round by round; rows that are made with room.
Conditions: those that each theorem states.
-/
import Derived.Test.YtookcfeogbeooaaGreatDoorM4
import Derived.Lib.UnsafeStr
import Derived.Lib.Builder
import Derived.Lib.AppendStr
import Derived.Lib.MakeNoZero
import Derived.Laws.Externs
import Derived.Laws.StructEq
import Derived.LoopN
set_option linter.all false
set_option maxRecDepth 100000
set_option maxHeartbeats 8000000
set_option autoImplicit true
set_option relaxedAutoImplicit true
namespace Go.Proofs.YtookcfeogbeooaaGreatDoor
open Go Go.Proofs
section
open Go.Lib
section
variable {P : Program} {n : Nat} {I : Init} {K : Act → World → Prop} {E : Env} {H : Ghost} {O : List HL} {Q : Exit → Act → World → Prop}
 {dst : Option Nat} {ty : TypeId} {pos : String} {af : Array Edge} {gd : Option (Nat × Bool)}
theorem run_eql_ptr_nil {t u : TypeId} (ht : P.underlying t = some (.pointer u)) (x : OA) (w : World) : (Op.equal t (.pointer x) (.pointer none)).run P w = .ok x.isNone w := by
 have : ∀ d : Nat, (Op.equalIn (d + 1) t (.pointer x) (.pointer none)).run P w = .ok x.isNone w := fun d => by
  cases x <;> simp [Op.equalIn, run_underlying ht, Sem.run_bind]
 exact this 9999
theorem yEqlPtrNil {t t' u : Nat} {p : OA} (ht : P.underlying t = some (.pointer u)) (hx : ev E x = some (.pointer p)) (hy : ev E y = some (.pointer none)) : Yl P n E H O ⟨dst, .binOp .eql t x y t', ty, pos, af, gd⟩ (.bool p.isNone) := by
 intro a w ha _
 have hg : ∀ w, (eqGuard .eql t x y (.pointer p) (.pointer none)).run P w = .ok () w := fun w => by unfold eqGuard; rfl
 simp only [execOp, ha.eval hx, ha.eval hy, Sem.run_bind, hg, binOp, run_eql_ptr_nil ht, Result.andThen_ok, Sem.run_pure]
theorem yNeqPtrSame {t t' u : Nat} {j : TypeInfo} (ht : P.underlying t = some (.pointer u)) (hj : P.info? u = some j) (hx : ev E x = some (.pointer (some p))) (hy : ev E y = some (.pointer (some p))) : Yl P n E H O ⟨dst, .binOp .neq t x y t', ty, pos, af, gd⟩ (.bool false) := by
 intro a w ha _
 have hg : ∀ w, (eqGuard .neq t x y (.pointer (some p)) (.pointer (some p))).run P w = .ok () w := fun w => by unfold eqGuard; rfl
 simp only [execOp, ha.eval hx, ha.eval hy, Sem.run_bind, hg, Lib.run_neq_ptr_same w p ht hj, Result.andThen_ok, Sem.run_pure]
theorem yToUnsafe {t e i b : Nat} {j : TypeInfo} {cs : LV} (hO : O[i]? = some (.blk b e cs)) (hs : P.underlying s = some (.pointer t)) (hd : P.underlying d = some .unsafePointer) (ht : P.info? t = some j) (hj : j.size ≠ 0) (hc : 0 < cs.length) (hx : ev E x = some (.pointer (some ⟨b, 0, none⟩))) :
  Yl P n E H O ⟨dst, .convert s d x, ty, pos, af, gd⟩ (.pointer (some ⟨b, 0, none⟩)) := by
 intro a w ha h4
 have hb : w.heap[b]? = some (.cells cs.toArray e (0, 0)) := h4.own _ (mG hO)
 simp only [execOp, ha.eval hx, Sem.run_bind, Lib.run_to_unsafe w ⟨b, 0, none⟩ hs hd ht hj (by simp [World.shape?, hb]; rfl) (show 0 < cs.toArray.size by simpa using hc), Result.andThen_ok, Sem.run_pure]
theorem yFromUnsafe {u e i b : Nat} {j : TypeInfo} {cs : LV} (hO : O[i]? = some (.blk b e cs)) (hs : P.underlying s = some .unsafePointer) (hd : P.underlying d = some (.pointer u)) (hu : P.info? u = some j) (hl : liesAt P P.depth e (cs.length / P.cellsOf e) 0 u 1 = true) (hx : ev E x = some (.pointer (some ⟨b, 0, none⟩))) :
  Yl P n E H O ⟨dst, .convert s d x, ty, pos, af, gd⟩ (.pointer (some ⟨b, 0, none⟩)) := by
 intro a w ha h4
 have hb : w.heap[b]? = some (.cells cs.toArray e (0, 0)) := h4.own _ (mG hO)
 have h5 : w.shape? (⟨b, 0, none⟩ : Addr).block = some (e, cs.length) := by simp [World.shape?, hb]
 simp only [execOp, ha.eval hx, Sem.run_bind, Lib.run_from_unsafe w ⟨b, 0, none⟩ hs hd hu h5 hl, Result.andThen_ok, Sem.run_pure]
theorem yNoEscape {f : FuncId} {ats : Array TypeId} (hf : P.funcs[f]? = some fn) (h1 : (fn.name == "runtime.NumGoroutine") = false) (h2 : fn.body.isNone = true) (h3 : Extern.findNext fn = none) (h4 : Extern.find fn = some Extern.AbiNoEscape.same) (hx : ev E x = some v) :
  Yl P n E H O ⟨dst, .call { callee := .value (.func f), args := #[x], argTypes := ats }, ty, pos, af, gd⟩ v := by
 intro a w ha h6
 have h5 : a.eval (.func f) = .func (.func f) #[] #[] := rfl
 simp only [execOp, resolve, h5, Deferred.ofValue, Sem.run_bind, Sem.run_pure, Result.andThen_ok, invoke, List.map_toArray, List.map_cons, List.map_nil, ha.eval hx]
 simp [run_callFunc_extern hf h1 h2 h3 h4, Lib.run_noEscape]
theorem yCap {t e m c : Nat} {A : OA} (ht : P.underlying t = some (.slice e)) (hx : ev E x = some (.slice A m c)) : Yl P n E H O ⟨dst, .call { callee := .builtin .cap, args := #[x], argTypes := #[t] }, ty, pos, af, gd⟩ (.int .i64 (c : Int)) := by
 intro a w ha h4
 simp only [execOp, resolve, invoke, builtin, Sem.run_bind, Sem.run_pure, Result.andThen_ok, List.map_toArray, List.map_cons, List.map_nil, ha.eval hx]
 simp [Builtin.cap_, run_underlying ht, goInt]
theorem tSliceData {i e k m c d u : Nat} {A : OA} {cs : LV} {ats : Array TypeId} (hO : O[i]? = some (.row e k (.slice A m c) m cs)) (hp : P.underlying ty = some (.pointer u)) (hx : ev E x = some (.slice A m c)) (hd : d < n) (h : ∀ q, (m ≠ 0 → q = A) → TK n I K ((d, .pointer q) :: E) H O) : TK n I (OpK P ⟨some d, .call { callee := .builtin .unsafeSliceData, args := #[x], argTypes := ats }, ty, pos, af, gd⟩ K Q) E H O := by
 refine TK.run rfl hd fun a w ha hs => ?_
 have h4 : w.ownsRow 0 e k (.slice A m c) m cs := hs.own _ (mG hO)
 have k0 : ∀ q w', (Builtin.unsafeSliceData_ ats ty #[.slice A m c]).run P w = .ok (.pointer q) w' → (execOp a.eval ⟨some d, .call { callee := .builtin .unsafeSliceData, args := #[x], argTypes := ats }, ty, pos, af, gd⟩).run P w = .ok (.value (.pointer q)) w' := fun q w' hr => by
  simp only [execOp, resolve, invoke, builtin, Sem.run_bind, Sem.run_pure, Result.andThen_ok, List.map_toArray, List.map_cons, List.map_nil, ha.eval hx, hr]
 rcases h4.2 with ⟨hv, h0⟩ | ⟨g, cap, cur, hv, _, hg, hle, _⟩
 ·injection hv with h1 h2 h3
  subst h1
  exact ⟨_, w, H, O, k0 _ _ (Lib.run_unsafeSliceData_nil w ats ty m c), .refl hs, h none fun _ => rfl⟩
 ·injection hv with h1 h2 h3
  subst h1
  by_cases hc : c = 0
  ·subst hc
   refine ⟨_, _, H, O, k0 _ _ (Lib.run_unsafeSliceData_zero w ats ty u hp ⟨g, 0, none⟩ m (e, cur.size) (by simp [World.shape?, hg])), ?_, h _ fun hm => by omega⟩
   have h5 := StepG.new_ (D := True) (O' := [HL.obj w.heap.size (.view ⟨g, 0, none⟩ u)]) hs fun h0 => Step.alloc h0 rfl (by show (w.alloc _).heap[w.heap.size]? = _; exact heap_alloc_new w _)
   exact (h5.permR (List.perm_append_comm)).forget
  ·exact ⟨_, w, H, O, k0 _ _ (Lib.run_unsafeSliceData_row w ats ty ⟨g, 0, none⟩ m c hc), .refl hs, h _ fun _ => rfl⟩
theorem St.freeze {w : World} {e m c g : Nat} {cs : LV} (p : Addr) (hp : p.block = g) (k : Nat) (hs : St H [.row e 1 (.slice (some ⟨g, 0, none⟩) m c) m cs] w) : Step H [.row e 1 (.slice (some ⟨g, 0, none⟩) m c) m cs] w H [] (w.freeze p k) := by
 have hg := hs.apart g (by simp [fps, HL.fp, vblk])
 have h4 : ∀ b, b ≠ g → (w.freeze p k).heap[b]? = w.heap[b]? := fun b hb => by
  unfold World.freeze
  split
  ·rfl
  ·simp only [hp, Array.getElem?_modify, Ne.symm hb, if_false]
 have h5 : (w.freeze p k).heap.size = w.heap.size := by unfold World.freeze; split <;> simp
 have e1 : (w.freeze p k).os = w.os := by unfold World.freeze; split <;> rfl
 have e2 : (w.freeze p k).tape = w.tape := by unfold World.freeze; split <;> rfl
 have e3 : (w.freeze p k).output = w.output := by unfold World.freeze; split <;> rfl
 have e4 : (w.freeze p k).drawn = w.drawn := by unfold World.freeze; split <;> rfl
 refine ⟨⟨fun b o hb => ?_, by simp, by simp [fps], by simp [fps]⟩, Ghost.le.refl _, e1, e2, e3, by omega, fun b _ hb => h4 b fun e => hb (by rw [e]; simp [fps, HL.fp, vblk]), fun b o hb => .inl (by rw [hb]; simp), by simp [fps], fun _ => by omega⟩
 rw [h4 b fun e => by rw [e, hg.1] at hb; cases hb]
 exact hs.ghost b o hb
theorem tUnsafeString {i e m c d pt it : Nat} {A q : OA} {l : List UInt8} (hO : O[i]? = some (.row e 1 (.slice A m c) m (byteCells l))) (hp : P.underlying pt = some (.pointer e)) (hc : P.cellsOf e = 1) (hx : ev E x = some (.pointer q)) (hq : m ≠ 0 → q = A) (hy : ev E y = some (.int .i64 (m : Int))) (hd : d < n) (hm : m ≤ 140737488355328) (h : TK n I K ((d, .string ⟨l.toArray⟩) :: E) H (O.eraseIdx i)) : TK n I (OpK P ⟨some d, .call { callee := .builtin .unsafeString, args := #[x, y], argTypes := #[pt, it] }, ty, pos, af, gd⟩ K Q) E H O := by
 refine TK.run rfl hd fun a w ha hs => ?_
 have h4 : w.ownsRow 0 e 1 (.slice A m c) m (byteCells l) := hs.own _ (mG hO)
 have hl : l.length = m := by have := h4.1; simpa [byteCells] using this
 have k0 : ∀ v w', (Builtin.unsafeString_ #[pt, it] ty #[.pointer q, .int .i64 (m : Int)]).run P w = .ok v w' → (execOp a.eval ⟨some d, .call { callee := .builtin .unsafeString, args := #[x, y], argTypes := #[pt, it] }, ty, pos, af, gd⟩).run P w = .ok (.value v) w' := fun v w' hr => by
  simp only [execOp, resolve, invoke, builtin, Sem.run_bind, Sem.run_pure, Result.andThen_ok, List.map_toArray, List.map_cons, List.map_nil, ha.eval hx, ha.eval hy, hr]
 by_cases hm0 : m = 0
 ·subst hm0
  have : l = [] := List.eq_nil_of_length_eq_zero hl
  subst this
  exact ⟨_, w, H, _, k0 _ _ (Lib.run_unsafeString_none w pt it ty q), (Step.refl hs).sub (List.eraseIdx_sublist _ _), h⟩
 ·have h5 := hq hm0
  subst h5
  rcases h4.2 with ⟨hv, h0⟩ | ⟨g, cap, cur, hv, _, hg, hle, _, hsz, _⟩
  ·omega
  ·injection hv with h1 h2 h3
   subst h1
   have hr := Lib.run_unsafeString_row (P := P) w pt it ty e hp hc g cur.size (by simp [World.shape?, hg]) l (by intro e; subst e; simp at hl; omega) oM oM (fun j v hj => by
    have := h4.cells (g := g) rfl j (.int .u8 v.toNat) (by simp [byteCells, hj])
    exact this)
   rw [hl] at hr
   exact ⟨_, _, H, _, k0 _ _ hr, StepG.drop_ hs hO fun h0 => St.freeze (g := g) ⟨g, 0, none⟩ rfl m h0, h⟩
theorem tAppendS (hD : ¬ I.D) {i d t e m c : Nat} {A : OA} {l : List UInt8} {s : BA} (hO : O[i]? = some (.row e 1 (.slice A m c) m (byteCells l))) (ht : P.underlying t = some (.slice e)) (hu : P.underlying u = some .string) (hi : InfoT P e (.int .u8 0) 1 1) (hx : ev E x = some (.slice A m c)) (hy : ev E y = some (.string s)) (hlen : m + s.size ≤ 140737488355328) (hd : d < n) (h : ∀ A' c', TK n I K ((d, .slice A' (m + s.size) c') :: E) H (O.set i (.row e 1 (.slice A' (m + s.size) c') (m + s.size) (byteCells (l ++ s.data.toList))))) : TK n I (OpK P ⟨some d, .call { callee := .builtin .append, args := #[x, y], argTypes := #[t, u] }, ty, pos, af, gd⟩ K Q) E H O := by
 obtain ⟨i0, h7, b6⟩ := Option.map_eq_some_iff.1 hi
 simp only [Prod.mk.injEq] at b6
 obtain ⟨h9, b5, h8⟩ := b6
 refine TK.runF hD rfl hd fun a w ha hs => ?_
 have h5 : w.ownsRow 0 e 1 (.slice A m c) m (byteCells l) := hs.own _ (mG hO)
 obtain ⟨v', w', hr, h4, hg, b4⟩ := Lib.run_append_own_string (P := P) w 0 t u ty e i0 ht hu h7 h9 b5 h8 _ m _ h5 s (by simp only [maxLen]; omega) hlen (Nat.zero_le _)
 have b7 : byteCells l ++ strCells s = byteCells (l ++ s.data.toList) := by rw [byteCells_append]; rfl
 rw [b7] at h4
 have hb : v'.ownBlock = (Value.slice A m c).ownBlock ∨ v'.ownBlock = some w.heap.size := by
  rcases h5.2 with ⟨hv, h0⟩ | ⟨g, cap, cur, hv, _, hgc, hle, _, hsz, _⟩
  ·rw [hv] at hr ⊢
   by_cases hs0 : s.size = 0
   ·left; rw [b4.2 ⟨hv, hs0⟩]
   ·have h6 := run_append_nil_string (P := P) w t u ty e i0 _ ht hu h7 h9 s oM oM (by rw [h8]; omega)
    rw [h6] at hr
    injection hr with h1 h2
    right; rw [← h1]; rfl
  ·rw [hv] at hr ⊢
   by_cases hroom : m + s.size ≤ cap
   ·have h6 := Lib.run_append_room_string (P := P) w t u ty e i0 ht hu h7 b5 g m cap cur hgc s hroom oM
    rw [h6] at hr
    injection hr with h1 h2
    left; rw [← h1]; rfl
   ·have h6 := Lib.run_append_grow_string (P := P) w t u ty e i0 (.int .u8 0) ht hu h7 h9 ⟨g, 0, none⟩ m cap (byteCells l) (by rw [b5]; simpa using h5.1) (h5.cells (g := g) (by rw [hv]; rfl)) s oM oM (by rw [h8]; exact growslice_fits oM oM)
    rw [h6] at hr
    injection hr with h1 h2
    right; rw [← h1]; rfl
 obtain ⟨A', c', rfl⟩ : ∃ A' c', v' = .slice A' (m + s.size) c' := by
  rcases h4.2 with ⟨rfl, h0⟩ | ⟨g, cap, cur, rfl, _⟩
  ·exact ⟨none, 0, by rw [h0]⟩
  ·exact ⟨_, _, rfl⟩
 refine ⟨_, w', H, _, ?_, Step.set_ hs hO (fun h0 => Step.of_grown h0 hg h4 hb), h A' c'⟩
 simp only [execOp, resolve, invoke, builtin, Sem.run_bind, Sem.run_pure, Result.andThen_ok, List.map_toArray, List.map_cons, List.map_nil, ha.eval hx, ha.eval hy, hr]
end
section
variable {P : Program} {n : Nat} {I : Init} {K : Act → World → Prop} {E : Env} {H : Ghost} {O : List HL} {Q : Exit → Act → World → Prop}
 {dst : Option Nat} {ty : TypeId} {pos : String} {af : Array Edge} {gd : Option (Nat × Bool)}
theorem fps_rowOut {e k q i : Nat} {l : List RowT} (hO : O[q]? = some (.rows e k l)) (hi : l[i]? = some x) : (fps (rowH e k x :: O.set q (.rows e k (l.eraseIdx i)))).Perm (fps O) := by
 have h0 : (fps [rowH e k x, HL.rows e k (l.eraseIdx i)]).Perm (fps [HL.rows e k l]) := by
  have e1 : fps [rowH e k x, HL.rows e k (l.eraseIdx i)] = (x :: l.eraseIdx i).flatMap fun x : RowT => vblk x.1 := by simp [fps, HL.fp, rowH]
  rw [e1, fps_rows]
  exact flat_perm (eraseIdx_perm hi)
 have h1 := fps_perm ((perm_set (h' := HL.rows e k (l.eraseIdx i)) hO).symm.cons (rowH e k x))
 have h2 : fps (rowH e k x :: ([HL.rows e k (l.eraseIdx i)] ++ O.eraseIdx q)) = fps [rowH e k x, HL.rows e k (l.eraseIdx i)] ++ fps (O.eraseIdx q) := by rw [← fps_append]; rfl
 rw [h2] at h1
 have h3 := fps_perm (perm_at hO)
 rw [fps_append] at h3
 exact h1.trans ((h0.append_right _).trans h3)
theorem TK.rowOut {e k q i : Nat} {l : List RowT} (hO : O[q]? = some (.rows e k l)) (hi : l[i]? = some x) (h : TK n I K E H (rowH e k x :: O.set q (.rows e k (l.eraseIdx i)))) : TK n I K E H O :=
 TK.trade (fun w hs => St.rowOut hO hi hs) (fun b hb => (fps_rowOut hO hi).mem_iff.1 hb) h
theorem TK.rowIn {e k q i : Nat} {l : List RowT} (hO : O[q]? = some (.rows e k l)) (hi : l[i]? = some x) {O1 : List HL} (hx : O1 = rowH e k y :: O.set q (.rows e k (l.eraseIdx i))) (h : TK n I K E H (O.set q (.rows e k (l.set i y)))) : TK n I K E H O1 := by
 subst hx
 refine TK.trade (fun w hs => St.rowIn hO hi hs) (fun b hb => ?_) h
 have hl : q < O.length := (gE hO).1
 have h5 : (O.set q (.rows e k (l.set i y)))[q]? = some (.rows e k (l.set i y)) := by simp [hl]
 have h6 : i < l.length := (gE hi).1
 have h4 : (l.set i y)[i]? = some y := by simp [h6]
 have := fps_rowOut h5 h4
 rw [List.set_set, List.eraseIdx_set_eq] at this
 exact this.mem_iff.2 hb
theorem repsB_eq (h : Reps rBool H xs cs) : cs = xs.map Value.bool := by
 induction h with
 | nil => rfl
 | cons hx _ ih => cases hx; rw [ih]; rfl
theorem tCopyB {i t e m c' len cap d : Nat} {B : OA} {cs : LV} (hO : O[i]? = some (.row e 1 (.slice B m c') m cs)) (ht : P.underlying t = some (.slice e)) (hs : (P.info? e).map (·.size) = some 1) (hl : Sl rBool H xs A len cap) (hlm : len = m) (hx : ev E x = some (.slice B m c')) (hy : ev E y = some (.slice A len cap)) (hd : d < n) (h : TK n I K ((d, .int .i64 (m : Int)) :: E) H (O.set i (.row e 1 (.slice B m c') m (xs.map Value.bool)))) : TK n I (OpK P ⟨some d, .call { callee := .builtin .copy, args := #[x, y], argTypes := #[t, t] }, ty, pos, af, gd⟩ K Q) E H O := by
 subst hlm
 refine TK.run rfl hd fun a w ha b5 => ?_
 have h6 : w.ownsRow 0 e 1 (.slice B len c') len cs := b5.own _ (mG hO)
 have hlen := hl.len
 have k0 : ∀ v w', (Builtin.copy_ #[t, t] ty #[.slice B len c', .slice A len cap]).run P w = .ok v w' → (execOp a.eval ⟨some d, .call { callee := .builtin .copy, args := #[x, y], argTypes := #[t, t] }, ty, pos, af, gd⟩).run P w = .ok (.value v) w' := fun v w' hr => by
  simp only [execOp, resolve, invoke, builtin, Sem.run_bind, Sem.run_pure, Result.andThen_ok, List.map_toArray, List.map_cons, List.map_nil, ha.eval hx, ha.eval hy, hr]
 by_cases h0 : len = 0
 ·subst h0
  have d0 : xs = [] := List.eq_nil_of_length_eq_zero hlen
  have d2 : cs = [] := List.eq_nil_of_length_eq_zero (by have := h6.1; omega)
  subst d0 d2
  have hr := run_copy_none (P := P) w t t ty e B A 0 c' 0 cap ht hs (by simp)
  have c0 : O.set i (.row e 1 (.slice B 0 c') 0 ([].map Value.bool)) = O := by
   apply List.ext_getElem?
   intro j
   rw [List.getElem?_set]
   split
   ·rename_i hj; subst hj; rw [hO]; simp [(gE hO).1]
   ·rfl
  rw [c0] at h
  exact ⟨_, w, H, O, k0 _ _ hr, .refl b5, h⟩
 ·rcases h6.2 with ⟨hv, h2⟩ | ⟨g, cap', cur, hv, hg, hh, hn, hc, hsz, htake⟩
  ·omega
  ·injection hv with h3 h4 h5
   subst h3 h5
   obtain ⟨vs, h9, b7⟩ := hl.cells dC
   obtain ⟨b, o, hA, d1⟩ := b7 oM
   subst hA
   have c1 : vs = xs.map Value.bool := (repsB_eq h9)
   have b6 : vs.length = len := by rw [c1]; simp [hlen]
   have b9 := d1.mem (O := O)
   obtain ⟨all, hb, b4, h8⟩ := ownsRow_set (off := 0) (cs := vs) h6 (by rw [h6.1]; omega)
   have hr := run_copy_row (P := P) w t t ty e g 0 len c' ⟨b, o, none⟩ len cap all.toArray e vs ht hs hb (by simp [b6]) (fun j v hj => by rw [addr_add]; exact b9 w b5 j v hj) (by simpa using b4) h9.one
   have h7 := Step.set_ (h' := .row e 1 (.slice (some ⟨g, 0, none⟩) len c') len (cs.take 0 ++ vs ++ cs.drop (0 + vs.length))) b5 hO (fun h0 => Step.setRow (b := g) h0 rfl rfl h8)
   have b8 : cs.take 0 ++ vs ++ cs.drop (0 + vs.length) = xs.map Value.bool := by
    rw [List.drop_of_length_le (by have := h6.1; omega)]
    simp [c1]
   rw [b8] at h7
   rw [b6] at hr
   simp only [List.toList_toArray] at hr
   refine ⟨_, _, H, _, k0 _ _ hr, ?_, h⟩
   have e1 : all.take 0 ++ vs ++ all.drop (0 + len) = all.take 0 ++ vs ++ all.drop (0 + vs.length) := by rw [b6]
   rw [e1]
   exact h7
theorem yCopy0 {t e m c m' c' : Nat} {A B : OA} (ht : P.underlying t = some (.slice e)) (hs : (P.info? e).map (·.size) = some 1) (hx : ev E x = some (.slice A m c)) (hy : ev E y = some (.slice B m' c')) (h0 : Nat.min m' m = 0) : Yl P n E H O ⟨dst, .call { callee := .builtin .copy, args := #[x, y], argTypes := #[t, t] }, ty, pos, af, gd⟩ (.int .i64 0) := by
 intro a w ha h4
 simp only [execOp, resolve, invoke, builtin, Sem.run_bind, Sem.run_pure, Result.andThen_ok, List.map_toArray, List.map_cons, List.map_nil, ha.eval hx, ha.eval hy, run_copy_none (P := P) w t t ty e A B m c m' c' ht hs h0]
 rfl
theorem tMakeNoZero (hD : ¬ I.D) {f : FuncId} {t e : Nat} {d : Nat} {k : Nat} {ats : Array TypeId} (hf : P.funcs[f]? = some fn) (h1 : (fn.name == "runtime.NumGoroutine") = false) (h2 : fn.body.isNone = true) (h3 : Extern.findNext fn = none) (h4 : Extern.find fn = some (Extern.BytealgMakeNoZero.makeNoZero ps #[t])) (ht : P.underlying t = some (.slice e)) (hx : ev E x = some (.int .i64 (k : Int))) (hk : k ≤ 1000000) (hd : d < n) (h : ∀ b c, k ≤ c → TK n I K ((d, .slice (some ⟨b, 0, none⟩) k c) :: E) H (.row e 1 (.slice (some ⟨b, 0, none⟩) 0 c) 0 [] :: O)) : TK n I (OpK P ⟨some d, .call { callee := .value (.func f), args := #[x], argTypes := ats }, ty, pos, af, gd⟩ K Q) E H O := by
 refine TK.runF hD rfl hd fun a w ha hs => ?_
 obtain ⟨cs, hr, b4, h9⟩ := Lib.run_makeNoZero (P := P) w ps t e ht k oM
 have h5 : a.eval (.func f) = .func (.func f) #[] #[] := rfl
 have hle : cs.size ≤ maxLen := h9 (by simp only [maxLen]; omega)
 have h6 := Step.drew hs (w.drawn + 2) oM
 have h8 : St H O w.drew.drew := h6.st
 have h7 := StepG.new_ (D := False) (O' := [.row e 1 (.slice (some ⟨w.heap.size, 0, none⟩) 0 cs.size) 0 []]) h8 (fun h0 => (Step.alloc (o := .cells cs e) h0 rfl (by
  refine ⟨by simp, .inr ⟨w.heap.size, cs.size, cs, rfl, Nat.zero_le _, heap_alloc_new w.drew.drew _, Nat.zero_le _, hle, by simp, by simp⟩⟩)).any)
 refine ⟨_, _, H, _, ?_, (h6.any).trans h7, h w.heap.size cs.size b4⟩
 simp only [execOp, resolve, h5, Deferred.ofValue, Sem.run_bind, Sem.run_pure, Result.andThen_ok, invoke, List.map_toArray, List.map_cons, List.map_nil, ha.eval hx]
 simp [run_callFunc_extern hf h1 h2 h3 h4, hr]
end
end
theorem byAll {b c : Bool} (h : b = true ↔ c = true) : Value.bool b = Value.bool c := congrArg Value.bool (Bool.eq_iff_iff.2 h)
theorem upto_succ {α : Type} {l : List α} {i : Nat} {c : α} {p : α → Prop} (h : ∀ (j : Nat) (x : α), j < i → l[j]? = some x → p x) (hc : l[i]? = some c) (hp : p c) : ∀ (j : Nat) (x : α), j < i + 1 → l[j]? = some x → p x := by
 intro j x hj hx
 rcases Nat.lt_or_ge j i with h1 | h1
 ·exact h j x h1 hx
 ·obtain rfl : j = i := by omega
  rw [hc] at hx
  cases hx
  exact hp
theorem upto_zero {α : Type} {l : List α} {p : α → Prop} : ∀ (j : Nat) (x : α), j < 0 → l[j]? = some x → p x := fun j x hj => absurd hj oM
theorem upto_all {α : Type} {l : List α} {n : Nat} {p : α → Prop} (h : ∀ (j : Nat) (x : α), j < n → l[j]? = some x → p x) (hn : l.length ≤ n) : ∀ (j : Nat) (x : α), l[j]? = some x → p x :=
 fun j x hx => h j x (Nat.lt_of_lt_of_le (gE hx).1 hn) hx
def letterB (c : Int) : Bool := decide ((65 ≤ c ∧ c ≤ 90) ∨ (97 ≤ c ∧ c ≤ 122))
def partB (c : Int) : Bool := letterB c || decide ((48 ≤ c ∧ c ≤ 57) ∨ c = 95 ∨ c = 45 ∨ c = 46)
def isName (s : BA) : Bool := match s.data.toList with
 | [] => false
 | c :: r => decide (r.length < 40) && (letterB c.toNat && (c :: r).all fun (x : UInt8) => partB x.toNat)
theorem str_at {s : BA} {i : Nat} (h : i < s.size) : ∃ c, s[i]? = some c ∧ s.data.toList[i]? = some c := by
 have h' : i < s.data.toList.length := by simpa using h
 refine ⟨s[i], ?_, ?_⟩
 ·rw [getElem?_pos s i h]
 ·rw [List.getElem?_eq_getElem h']
  rfl
theorem str_len (s : BA) : s.data.toList.length = s.size := by rw [Array.length_toList]; rfl
theorem isName_of {s : BA} (h0 : s.data.toList[0]? = some c) (h1 : s.size ≤ 40) (h2 : letterB c.toNat = true) (h3 : ∀ (i : Nat) (x : UInt8), s.data.toList[i]? = some x → partB x.toNat = true) : isName s = true := by
 unfold isName
 have hl := str_len s
 cases hs : s.data.toList with
 | nil => rw [hs] at h0; simp at h0
 | cons d r =>
  rw [hs] at h0 hl h3
  simp only [List.getElem?_cons_zero, Option.some.injEq] at h0
  subst h0
  simp only [List.length_cons] at hl
  simp only [Bool.and_eq_true, decide_eq_true_eq, List.all_eq_true]
  refine ⟨by omega, h2, fun x hx => ?_⟩
  obtain ⟨i, hi⟩ := List.getElem?_of_mem hx
  exact h3 i x hi
theorem not_isName_size {s : BA} (h : s.size < 1 ∨ 40 < s.size) : isName s = false := by
 unfold isName
 have hl := str_len s
 cases hs : s.data.toList with
 | nil => rfl
 | cons d r =>
  rw [hs] at hl
  simp only [List.length_cons] at hl
  simp only [Bool.and_eq_false_iff, decide_eq_false_iff_not]
  exact .inl oM
theorem not_isName_first {s : BA} (h0 : s.data.toList[0]? = some c) (h : letterB c.toNat = false) : isName s = false := by
 unfold isName
 cases hs : s.data.toList with
 | nil => rfl
 | cons d r =>
  rw [hs] at h0
  simp only [List.getElem?_cons_zero, Option.some.injEq] at h0
  subst h0
  simp [h]
theorem not_isName_part {s : BA} {i : Nat} (h0 : s.data.toList[i]? = some c) (h : partB c.toNat = false) : isName s = false := by
 unfold isName
 cases hs : s.data.toList with
 | nil => rfl
 | cons d r =>
  rw [hs] at h0
  have : (d :: r).all (fun (x : UInt8) => partB x.toNat) = false := by
   rw [List.all_eq_false]
   exact ⟨c, mG h0, by rw [h]; simp⟩
  simp only [this, Bool.and_false]
def idxOf {α : Type} (p : α → Bool) (xs : List α) : Int := match xs.findIdx? p with
 | some i => (i : Int)
 | none => -1
theorem idxOf_found {α : Type} {p : α → Bool} {xs : List α} {i : Nat} {x : α} (h : ∀ (j : Nat) (y : α), j < i → xs[j]? = some y → p y = false) (hx : xs[i]? = some x) (hp : p x = true) : idxOf p xs = i := by
 have : xs.findIdx? p = some i := by
  rw [List.findIdx?_eq_some_iff_getElem]
  obtain ⟨hl, rfl⟩ := gE hx
  refine ⟨hl, hp, fun j hj => ?_⟩
  simp [h j _ hj (List.getElem?_eq_getElem _)]
 unfold idxOf
 rw [this]
theorem idxOf_none {α : Type} {p : α → Bool} {xs : List α} (h : ∀ (j : Nat) (y : α), xs[j]? = some y → p y = false) : idxOf p xs = -1 := by
 have : xs.findIdx? p = none := by
  rw [List.findIdx?_eq_none_iff]
  intro x hx
  obtain ⟨i, hi⟩ := List.getElem?_of_mem hx
  exact h i x hi
 unfold idxOf
 rw [this]
theorem idxOf_any {α : Type} (p : α → Bool) (xs : List α) : decide ((0 : Int) ≤ idxOf p xs) = xs.any p := by
 unfold idxOf
 cases h : xs.findIdx? p with
 | some i =>
  have h1 : xs.any p = true := by
   rw [List.findIdx?_eq_some_iff_getElem] at h
   obtain ⟨hl, hp, _⟩ := h
   exact List.any_eq_true.2 ⟨_, List.getElem_mem hl, hp⟩
  rw [h1]
  simp
 | none =>
  have h1 : xs.any p = false := by
   rw [List.findIdx?_eq_none_iff] at h
   exact List.any_eq_false.2 fun x hx => by rw [h x hx]; simp
  rw [h1]
  rfl
theorem idxOf_ge {α : Type} (p : α → Bool) (xs : List α) : -1 ≤ idxOf p xs ∧ idxOf p xs < xs.length := by
 unfold idxOf
 cases h : xs.findIdx? p with
 | some i =>
  have : i < xs.length := by
   rw [List.findIdx?_eq_some_iff_getElem] at h
   exact h.1
  exact ⟨show (-1 : Int) ≤ (i : Int) by omega, show (i : Int) < (xs.length : Int) by omega⟩
 | none => exact ⟨show (-1 : Int) ≤ -1 by omega, show (-1 : Int) < (xs.length : Int) by omega⟩
def cmpS (x y : BA) : Int := if Op.bytesLess x.toList y.toList = true then -1 else if (Op.bytesLess x.toList y.toList || decide (x = y)) = true then 0 else 1
def cmpW : LB → LB → Int
 | [], [] => 0
 | [], _ :: _ => -1
 | _ :: _, [] => 1
 | x :: xs, y :: ys => if cmpS x y = 0 then cmpW xs ys else cmpS x y
theorem cmpW_go {xs ys : LB} {i : Nat} (hx : xs[i]? = some x) (hy : ys[i]? = some y) : cmpW (xs.drop i) (ys.drop i) = if cmpS x y = 0 then cmpW (xs.drop (i + 1)) (ys.drop (i + 1)) else cmpS x y := by
 obtain ⟨h1, rfl⟩ := gE hx
 obtain ⟨h2, rfl⟩ := gE hy
 rw [List.drop_eq_getElem_cons h1, List.drop_eq_getElem_cons h2]
 rfl
theorem cmpW_right {xs ys : LB} {i : Nat} (hx : xs[i]? = some x) (hy : ys.length ≤ i) : cmpW (xs.drop i) (ys.drop i) = 1 := by
 obtain ⟨h1, rfl⟩ := gE hx
 rw [List.drop_eq_getElem_cons h1, List.drop_of_length_le hy]
 rfl
theorem cmpW_left {xs ys : LB} {i : Nat} (hx : xs.length ≤ i) (hy : i < ys.length) : cmpW (xs.drop i) (ys.drop i) = -1 := by
 rw [List.drop_eq_getElem_cons hy, List.drop_of_length_le hx]
 rfl
theorem cmpW_both {xs ys : LB} {i : Nat} (hx : xs.length ≤ i) (hy : ys.length ≤ i) : cmpW (xs.drop i) (ys.drop i) = 0 := by
 rw [List.drop_of_length_le hx, List.drop_of_length_le hy]
 rfl
def memB {α : Type} [DecidableEq α] (y : α) (xs : List α) : Bool := xs.any fun x => decide (y = x)
theorem memB_iff {α : Type} [DecidableEq α] {y : α} {xs : List α} : memB y xs = true ↔ y ∈ xs := by
 rw [memB, List.any_eq_true]
 exact ⟨fun ⟨x, hx, h⟩ => by rw [decide_eq_true_eq] at h; subst h; exact hx, fun h => ⟨y, h, by simp⟩⟩
theorem all_any {α : Type} (p : α → Bool) (xs : List α) : Value.bool (!xs.any fun x => !p x) = Value.bool (xs.all p) := by
 congr 1
 rw [Bool.eq_iff_iff, Bool.not_eq_true', List.any_eq_false, List.all_eq_true]
 exact ⟨fun h x hx => by have := h x hx; simpa using this, fun h x hx => by have := h x hx; simp [this]⟩
theorem eq_zero {α : Type} {xs ys : List α} : ∀ (j : Nat) (z z' : α), j < 0 → xs[j]? = some z → ys[j]? = some z' → z = z' := fun j _ _ hj => absurd hj oM
theorem eq_succ {α : Type} {xs ys : List α} {i : Nat} {x y : α} (h : ∀ (j : Nat) (z z' : α), j < i → xs[j]? = some z → ys[j]? = some z' → z = z') (hx : xs[i]? = some x) (hy : ys[i]? = some y) (he : x = y) : ∀ (j : Nat) (z z' : α), j < i + 1 → xs[j]? = some z → ys[j]? = some z' → z = z' := by
 intro j z z' hj h1 h2
 rcases Nat.lt_or_ge j i with h3 | h3
 ·exact h j z z' h3 h1 h2
 ·obtain rfl : j = i := by omega
  rw [hx] at h1; rw [hy] at h2; cases h1; cases h2; exact he
theorem eqL_all {α : Type} [DecidableEq α] {xs ys : List α} {n m i : Nat} (hne : n = m) (hx : xs.length = n) (hy : ys.length = m) (h : ∀ (j : Nat) (z z' : α), j < i → xs[j]? = some z → ys[j]? = some z' → z = z') (hi : n ≤ i) : decide (xs = ys) = true := by
 rw [decide_eq_true_eq]
 refine List.ext_getElem oM fun j h1 h2 => ?_
 exact h j _ _ oM (List.getElem?_eq_getElem h1) (List.getElem?_eq_getElem h2)
theorem eqL_at {α : Type} [DecidableEq α] {xs ys : List α} {i : Nat} {x y : α} (hx : xs[i]? = some x) (hy : ys[i]? = some y) (he : ¬ x = y) : decide (xs = ys) = false := by
 rw [decide_eq_false_iff_not]
 rintro rfl
 rw [hx] at hy; cases hy; exact he rfl
theorem eqL_len {α : Type} [DecidableEq α] {xs ys : List α} {n m : Nat} (hx : xs.length = n) (hy : ys.length = m) (he : ¬ n = m) : decide (xs = ys) = false := by
 rw [decide_eq_false_iff_not]
 rintro rfl
 omega
theorem cmpW_ne (hp : cmpW xs ys = cmpW (xs.drop i) (ys.drop i)) (hx : xs[i]? = some x) (hy : ys[i]? = some y) (h : ¬ cmpS x y = 0) : cmpW xs ys = cmpS x y := by
 rw [hp, cmpW_go hx hy, if_neg h]
theorem cmpW_eq (hp : cmpW xs ys = cmpW (xs.drop i) (ys.drop i)) (hx : xs[i]? = some x) (hy : ys[i]? = some y) (h : cmpS x y = 0) : cmpW xs ys = cmpW (xs.drop (i + 1)) (ys.drop (i + 1)) := by
 rw [hp, cmpW_go hx hy, if_pos h]
structure Variant where
 acts : LB
 count : Int
structure Cnt where
 name : BA
 n : Int
structure Flw where
 src : BA
 dst : BA
 n : Int
structure Dfg where
 acts : List Cnt
 starts : List Cnt
 ends : List Cnt
 follows : List Flw
structure Cut where
 kind : Int
 parts : List LB
structure Mv where
 src : Int
 dst : Int
 sym : Int
 deriving DecidableEq
structure Auto where
 states : Int
 syms : Int
 start : LI
 final : LI
 moves : List Mv
structure Trans where
 label : BA
 ins : LI
 outs : LI
structure Net where
 places : Int
 trans : List Trans
 source : Int
 sink : Int
inductive Tree where
 | mk (op : Int) (act : BA) (l : List Tree)
def flat {α : Type} (k : Nat) (f : α → LV) (hk : ∀ x, (f x).length = k) (h1 : ∀ x, ∀ v ∈ f x, v.oneCell' = true) : Rep α :=
 ⟨k, fun _ x cs => cs = f x, fun _ h => h, fun h => by rw [h]; exact hk _, fun h => by rw [h]; exact h1 _⟩
def rCnt : Rep Cnt := flat 2 (fun x => [.string x.name, .int .i64 x.n]) (fun _ => rfl) (fun x => by simp [Value.oneCell'])
def rFlw : Rep Flw := flat 3 (fun x => [.string x.src, .string x.dst, .int .i64 x.n]) (fun _ => rfl) (fun x => by simp [Value.oneCell'])
def rMv : Rep Mv := flat 3 (fun x => [.int .i64 x.src, .int .i64 x.dst, .int .i64 x.sym]) (fun _ => rfl) (fun x => by simp [Value.oneCell'])
def rVariant : Rep Variant :=
 ⟨2, fun H x cs => ∃ A n c, cs = [.slice A n c, .int .i64 x.count] ∧ Sl rStr H x.acts A n c, fun hle ⟨A, n, c, h, hs⟩ => ⟨A, n, c, h, hs.mono hle⟩, fun ⟨_, _, _, h, _⟩ => by rw [h]; rfl, fun ⟨_, _, _, h, _⟩ => by rw [h]; simp [Value.oneCell']⟩
def rTrans : Rep Trans :=
 ⟨3, fun H x cs => ∃ A n c A' n' c', cs = [.string x.label, .slice A n c, .slice A' n' c'] ∧ Sl rInt H x.ins A n c ∧ Sl rInt H x.outs A' n' c', fun hle ⟨A, n, c, A', n', c', h, hs, hs'⟩ => ⟨A, n, c, A', n', c', h, hs.mono hle, hs'.mono hle⟩,
  fun ⟨_, _, _, _, _, _, h, _⟩ => by rw [h]; rfl, fun ⟨_, _, _, _, _, _, h, _⟩ => by rw [h]; simp [Value.oneCell']⟩
def rNet : Rep Net :=
 ⟨4, fun H x cs => ∃ A n c, cs = [.int .i64 x.places, .slice A n c, .int .i64 x.source, .int .i64 x.sink] ∧ Sl rTrans H x.trans A n c, fun hle ⟨A, n, c, h, hs⟩ => ⟨A, n, c, h, hs.mono hle⟩, fun ⟨_, _, _, h, _⟩ => by rw [h]; rfl, fun ⟨_, _, _, h, _⟩ => by rw [h]; simp [Value.oneCell']⟩
def rDfg : Rep Dfg :=
 ⟨4, fun H x cs => ∃ A n c A' n' c' A2 n2 c2 A3 n3 c3, cs = [.slice A n c, .slice A' n' c', .slice A2 n2 c2, .slice A3 n3 c3] ∧ Sl rCnt H x.acts A n c ∧ Sl rCnt H x.starts A' n' c' ∧ Sl rCnt H x.ends A2 n2 c2 ∧ Sl rFlw H x.follows A3 n3 c3,
  fun hle ⟨A, n, c, A', n', c', A2, n2, c2, A3, n3, c3, h, h1, h2, h3, h4⟩ => ⟨A, n, c, A', n', c', A2, n2, c2, A3, n3, c3, h, h1.mono hle, h2.mono hle, h3.mono hle, h4.mono hle⟩,
  fun ⟨_, _, _, _, _, _, _, _, _, _, _, _, h, _⟩ => by rw [h]; rfl, fun ⟨_, _, _, _, _, _, _, _, _, _, _, _, h, _⟩ => by rw [h]; simp [Value.oneCell']⟩
def rCut : Rep Cut :=
 ⟨2, fun H x cs => ∃ A n c, cs = [.int .i64 x.kind, .slice A n c] ∧ Sl (rSl rStr) H x.parts A n c, fun hle ⟨A, n, c, h, hs⟩ => ⟨A, n, c, h, hs.mono hle⟩, fun ⟨_, _, _, h, _⟩ => by rw [h]; rfl, fun ⟨_, _, _, h, _⟩ => by rw [h]; simp [Value.oneCell']⟩
mutual
def Tree.size : Tree → Nat
 | .mk _ _ l => 1 + sizeL l
def sizeL : List Tree → Nat
 | [] => 0
 | t :: r => t.size + sizeL r
end
def Tree.op : Tree → Int | .mk o _ _ => o
def Tree.act : Tree → BA | .mk _ a _ => a
def Tree.l : Tree → List Tree | .mk _ _ l => l
def treeRel : Nat → Ghost → Tree → LV → Prop
 | 0, _, _, _ => False
 | d + 1, H, t, cs => ∃ A n c, cs = [.int .i64 t.op, .string t.act, .slice A n c] ∧
   (t.l.length = n ∧ n ≤ c ∧ n ≤ 140737488355328 ∧ (A = none → c = 0) ∧ (0 < n → ∃ b o, A = some ⟨b, o, none⟩ ∧ ∃ arr e fr, H b = some (.cells arr e fr) ∧ ∀ i x, t.l[i]? = some x → ∃ cs, treeRel d H x cs ∧ ∀ j v, cs[j]? = some v → arr[o + i * 3 + j]? = some v))
theorem treeRel.len : ∀ {d : Nat} {H : Ghost} {t : Tree} {cs : LV}, treeRel d H t cs → cs.length = 3
 | _ + 1, _, _, _, ⟨_, _, _, h, _⟩ => by rw [h]; rfl
theorem treeRel.one : ∀ {d : Nat} {H : Ghost} {t : Tree} {cs : LV}, treeRel d H t cs → ∀ v ∈ cs, v.oneCell' = true
 | _ + 1, _, _, _, ⟨_, _, _, h, _⟩ => by rw [h]; simp [Value.oneCell']
theorem treeRel.mono : ∀ {d : Nat} {H H' : Ghost} {t : Tree} {cs : LV}, Ghost.le H H' → treeRel d H t cs → treeRel d H' t cs
 | d + 1, H, H', t, cs, hle, ⟨A, n, c, h, h1, h2, h3, h4, h5⟩ => ⟨A, n, c, h, h1, h2, h3, h4, fun hn => by
   obtain ⟨b, o, hA, arr, e, fr, hb, hx⟩ := h5 hn
   refine ⟨b, o, hA, arr, e, fr, hle _ _ hb, fun i x hi => ?_⟩
   obtain ⟨cs, hr, hc⟩ := hx i x hi
   exact ⟨cs, hr.mono hle, hc⟩⟩
theorem treeRel.more : ∀ {d : Nat} {H : Ghost} {t : Tree} {cs : LV}, treeRel d H t cs → treeRel (d + 1) H t cs
 | d + 1, H, t, cs, ⟨A, n, c, h, h1, h2, h3, h4, h5⟩ => ⟨A, n, c, h, h1, h2, h3, h4, fun hn => by
   obtain ⟨b, o, hA, arr, e, fr, hb, hx⟩ := h5 hn
   refine ⟨b, o, hA, arr, e, fr, hb, fun i x hi => ?_⟩
   obtain ⟨cs, hr, hc⟩ := hx i x hi
   exact ⟨cs, hr.more, hc⟩⟩
theorem treeRel.upto {d' : Nat} {H : Ghost} {t : Tree} (h : treeRel d H t cs) (hd : d ≤ d') : treeRel d' H t cs := by
 induction hd with
 | refl => exact h
 | step _ ih => exact ih.more
def rTree : Rep Tree := ⟨3, fun H t cs => ∃ d, treeRel d H t cs, fun hle ⟨d, h⟩ => ⟨d, h.mono hle⟩, fun ⟨_, h⟩ => h.len, fun ⟨_, h⟩ => h.one⟩
theorem rTree_dest {t : Tree} (h : rTree.rel H t cs) : ∃ A n c, cs = [.int .i64 t.op, .string t.act, .slice A n c] ∧ Sl rTree H t.l A n c := by
 obtain ⟨d, h⟩ := h
 cases d with
 | zero => exact h.elim
 | succ d =>
  obtain ⟨A, n, c, h, h1, h2, h3, h4, h5⟩ := h
  refine ⟨A, n, c, h, h1, h2, h3, h4, fun hn => ?_⟩
  obtain ⟨b, o, hA, arr, e, fr, hb, hx⟩ := h5 hn
  refine ⟨b, o, hA, arr, e, fr, hb, fun i x hi => ?_⟩
  obtain ⟨cs, hr, hc⟩ := hx i x hi
  exact ⟨cs, ⟨d, hr⟩, hc⟩
theorem rTree_mk {t : Tree} (h : Sl rTree H t.l A n c) : rTree.rel H t [.int .i64 t.op, .string t.act, .slice A n c] := by
 obtain ⟨h1, h2, h3, h4, h5⟩ := h
 rcases Nat.eq_zero_or_pos n with h0 | h0
 ·exact ⟨1, A, n, c, rfl, h1, h2, h3, h4, fun hn => by omega⟩
 ·obtain ⟨b, o, hA, arr, e, fr, hb, hx⟩ := h5 h0
  have h6 : ∀ (i : Nat) (x : Tree), t.l[i]? = some x → ∃ d, ∃ cs, treeRel d H x cs ∧ ∀ j v, cs[j]? = some v → arr[o + i * 3 + j]? = some v := fun i x hi => by
   obtain ⟨cs, ⟨d, hd⟩, hc⟩ := hx i x hi
   exact ⟨d, cs, hd, hc⟩
  obtain ⟨d, hd⟩ : ∃ d, ∀ (i : Nat) (x : Tree), t.l[i]? = some x → ∃ cs, treeRel d H x cs ∧ ∀ j v, cs[j]? = some v → arr[o + i * 3 + j]? = some v := by
   have k0 : ∀ m : Nat, ∃ d, ∀ (i : Nat) (x : Tree), i < m → t.l[i]? = some x → ∃ cs, treeRel d H x cs ∧ ∀ j v, cs[j]? = some v → arr[o + i * 3 + j]? = some v := by
    intro m
    induction m with
    | zero => exact ⟨0, fun i x hi => absurd hi oM⟩
    | succ m ih =>
     obtain ⟨d1, h1⟩ := ih
     cases hm : t.l[m]? with
     | none =>
      refine ⟨d1, fun i x hi hx => ?_⟩
      rcases Nat.lt_or_ge i m with h | h
      ·exact h1 i x h hx
      ·obtain rfl : i = m := by omega
       rw [hm] at hx; cases hx
     | some y =>
      obtain ⟨d2, cs, h2, hc⟩ := h6 m y hm
      refine ⟨max d1 d2, fun i x hi hx => ?_⟩
      rcases Nat.lt_or_ge i m with h | h
      ·obtain ⟨cs, h3, hc⟩ := h1 i x h hx
       exact ⟨cs, h3.upto (Nat.le_max_left _ _), hc⟩
      ·obtain rfl : i = m := by omega
       rw [hm] at hx
       cases hx
       exact ⟨cs, h2.upto (Nat.le_max_right _ _), hc⟩
   obtain ⟨d, hd⟩ := k0 t.l.length
   exact ⟨d, fun i x hi => hd i x (gE hi).1 hi⟩
  exact ⟨d + 1, A, n, c, rfl, h1, h2, h3, h4, fun _ => ⟨b, o, hA, arr, e, fr, hb, hd⟩⟩
section
section
variable {n : Nat} {I : Init} {K : Act → World → Prop} {Q : Exit → Act → World → Prop} {E : Env} {H : Ghost} {O : List HL} {dst : Option Nat} {ty : TypeId} {pos : String} {af : Array Edge} {gd : Option (Nat × Bool)}
def mvV (x : Mv) : Value := .agg #[.int .i64 x.src, .int .i64 x.dst, .int .i64 x.sym]
theorem eq_mv (x y : Mv) (w : World) : (Op.equalIn 10000 166 (mvV x) (mvV y)).run PP w = .ok (decide (x = y)) w := by
 unfold mvV
 rw [run_equalIn_struct w 9999 166 _ _ (by unfold Program.fieldsOf; rw [Tryz.underlying166]) Tryz.stoodInHeld166]
 unfold Program.fieldsOf
 rw [Tryz.underlying166]
 obtain ⟨a, b, c⟩ := x
 obtain ⟨d, e, f⟩ := y
 by_cases h1 : a = d <;> by_cases h2 : b = e <;> by_cases h3 : c = f <;> simp [Op.eqFields, part, Tryz.isAgg3, Tryz.sizeOf3, run_equalIn_int _ _ 3 .i64 .i64 _ _ Tryz.underlying3, h1, h2, h3]
theorem yEqlM {t' : Nat} (hx : ev E u = some (mvV x)) (hy : ev E v = some (mvV y)) : Yl PP n E H O ⟨dst, .binOp .eql 166 u v t', ty, pos, af, gd⟩ (.bool (decide (x = y))) := by
 intro a w ha _
 simp only [execOp, ha.eval hx, ha.eval hy, mvV, Sem.run_bind, run_eqGuard_agg _ _ _ _ _ _ _ Tryz.eqGuardType166, Result.andThen_ok, run_eql_struct]
 have := eq_mv x y w
 unfold mvV at this
 rw [this]; simp
theorem yNeqM {t' : Nat} (hx : ev E u = some (mvV x)) (hy : ev E v = some (mvV y)) : Yl PP n E H O ⟨dst, .binOp .neq 166 u v t', ty, pos, af, gd⟩ (.bool (!decide (x = y))) := by
 intro a w ha _
 simp only [execOp, ha.eval hx, ha.eval hy, mvV, Sem.run_bind, run_eqGuard_agg _ _ _ _ _ _ _ Tryz.eqGuardType166, Result.andThen_ok, run_neq_struct]
 have := eq_mv x y w
 unfold mvV at this
 rw [this]; simp
end
section
variable {P : Program} {n : Nat} {I : Init} {K : Act → World → Prop} {E : Env} {H : Ghost} {O : List HL} {Q : Exit → Act → World → Prop}
 {dst : Option Nat} {ty : TypeId} {pos : String} {af : Array Edge} {gd : Option (Nat × Bool)}
theorem TK.rounds {c : Code} (k : Nat) (h : TK n I (Code.rounds P c Q k) E H O) : TK n I ((Code.loop c).wp P Q) E H O := fun a w ha hs => wp_loop_rounds k (h a w ha hs)
theorem TK.roundS {c : Code} {k : Nat} (h : ∀ K, (∀ E H O, TK n I (Code.rounds P c Q k) E H O → TK n I K E H O) → TK n I (c.wp P (Exit.then K Q)) E H O) : TK n I (Code.rounds P c Q (k + 1)) E H O := fun a w ha hs => h (Code.rounds P c Q k) (fun _ _ _ hh => hh) a w ha hs
theorem tMake0 {t e d bytes : Nat} {m : Int} (ht : P.underlying t = some (.slice e)) (hi : InfoT P e z 1 bytes) (hz : z.cells = #[z]) (hx : ev E x = some (.int .i64 0)) (hy : ev E y = some (.int .i64 m)) (h0 : 0 ≤ m) (hb : bytes * m.toNat ≤ 140737488355328) (h63 : m ≤ 140737488355328) (hd : d < n) (h : ∀ b, TK n I K ((d, .slice (some ⟨b, 0, none⟩) 0 m.toNat) :: E) H (.row e 1 (.slice (some ⟨b, 0, none⟩) 0 m.toNat) 0 [] :: O)) : TK n I (OpK P ⟨some d, .makeSlice t x y, ty, pos, af, gd⟩ K Q) E H O := by
 obtain ⟨m', rfl⟩ := Int.eq_ofNat_of_zero_le h0
 simp only [Int.toNat_natCast] at hb h
 unfold InfoT at hi
 obtain ⟨i, h6, h5⟩ := Option.map_eq_some_iff.1 hi
 simp only [Prod.mk.injEq] at h5
 obtain ⟨h9, h7, b4⟩ := h5
 have h4 : madeCells z.cells (m' * 1) = (List.replicate m' z).toArray := by rw [hz, Nat.mul_one, madeCells1]
 have h8 : (i.bytes : Int) * (m' : Int) ≤ 281474976710656 := by
  have h1 : ((bytes * m' : Nat) : Int) ≤ 281474976710656 := by omega
  rwa [Int.natCast_mul, ← b4] at h1
 refine TK.run rfl hd fun a w ha hs => ⟨_, w.alloc (.cells (List.replicate m' z).toArray e), H, .row e 1 (.slice (some ⟨w.heap.size, 0, none⟩) 0 m') 0 [] :: O, ?_,
  Step.new_ (O' := [.row e 1 (.slice (some ⟨w.heap.size, 0, none⟩) 0 m') 0 []]) hs (fun h0 => Step.alloc h0 rfl ⟨rfl, .inr ⟨w.heap.size, m', _, rfl, Nat.zero_le _, heap_alloc_new w _, Nat.zero_le _, by simp only [maxLen]; omega, by simp, by simp⟩⟩), h _⟩
 have := run_make (P := P) w t e i z ht h6 h9 .i64 .i64 0 (m' : Int) oM oM h8 oM
 rw [h7, Int.toNat_natCast, h4] at this
 simp only [execOp, ha.eval hx, ha.eval hy, Sem.run_bind, this, Result.andThen_ok, Sem.run_pure]
 rfl
end
end
end Go.Proofs.YtookcfeogbeooaaGreatDoor
