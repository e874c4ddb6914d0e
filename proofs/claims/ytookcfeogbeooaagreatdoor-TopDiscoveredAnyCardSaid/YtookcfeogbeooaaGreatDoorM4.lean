/-
More operations: cuts of slices, clear, conversions, comparisons with nil, and appends of sealed slices. More of the frame: results that lie in a block, calls that take some of the pieces. What the walks need to know of the program's types: fields, zero values, sizes. Printed by a program of this claim (wip/gentypes.py). Maps whose keys are pairs of strings; entries of maps that are laid and filled. Several rows that are owned together: matrices of truths.
Conditions: those that each theorem states.
-/
import Derived.Test.YtookcfeogbeooaaGreatDoorM3
import Derived.Lib.SliceRun
import Derived.Test.YtookcfeogbeooaaGreatDoorProg
import Derived.KernelRfl
set_option linter.all false
set_option maxRecDepth 100000
set_option maxHeartbeats 8000000
set_option autoImplicit true
set_option relaxedAutoImplicit true
namespace Go.Proofs.YtookcfeogbeooaaGreatDoor
open Go Go.Proofs
section
section
variable {P : Program} {n : Nat} {I : Init} {K : Act → World → Prop} {E : Env} {H : Ghost} {O : List HL} {Q : Exit → Act → World → Prop}
 {dst : Option Nat} {ty : TypeId} {pos : String} {af : Array Edge} {gd : Option (Nat × Bool)} {α : Type} {r : Rep α}
theorem yEqlNil {t t' e m c m' c' : Nat} {A : OA} (ht : P.underlying t = some (.slice e)) (hx : ev E x = some (.slice A m c)) (hy : ev E y = some (.slice none m' c')) : Yl P n E H O ⟨dst, .binOp .eql t x y t', ty, pos, af, gd⟩ (.bool A.isNone) := by
 intro a w ha _
 have hg : ∀ w, (eqGuard .eql t x y (.slice A m c) (.slice none m' c')).run P w = .ok () w := fun w => by unfold eqGuard; rfl
 simp only [execOp, ha.eval hx, ha.eval hy, Sem.run_bind, hg, Result.andThen_ok, Lib.run_eql_slice_nil w t e A m c m' c' ht, Sem.run_pure]
theorem run_eql_bool {t : TypeId} (ht : P.underlying t = some .bool) (p q : Bool) (w : World) : (Op.equal t (.bool p) (.bool q)).run P w = .ok (p == q) w := by
 have : ∀ d : Nat, (Op.equalIn (d + 1) t (.bool p) (.bool q)).run P w = .ok (p == q) w := fun d => by
  simp only [Op.equalIn, Sem.run_bind, run_underlying ht, Result.andThen_ok, Sem.run_pure]
 exact this 9999
theorem yEqlB {t t' : Nat} {p q : Bool} (ht : P.underlying t = some .bool) (hx : ev E x = some (.bool p)) (hy : ev E y = some (.bool q)) : Yl P n E H O ⟨dst, .binOp .eql t x y t', ty, pos, af, gd⟩ (.bool (decide (p = q))) := by
 intro a w ha _
 have : (p == q) = decide (p = q) := by cases p <;> cases q <;> rfl
 simp only [execOp, ha.eval hx, ha.eval hy, Sem.run_bind, eqGuard_bool, binOp, run_eql_bool ht, Result.andThen_ok, Sem.run_pure, this]
theorem yMax {k : IntKind} {p q : Int} {ats : Array TypeId} (hx : ev E x = some (.int k p)) (hy : ev E y = some (.int k q)) : Yl P n E H O ⟨dst, .call { callee := .builtin .max, args := #[x, y], argTypes := ats }, ty, pos, af, gd⟩ (.int k (max p q)) := by
 intro a w ha _
 have : (if p < q then q else p) = max p q := by omega
 simp only [execOp, resolve, invoke, builtin, Sem.run_bind, Sem.run_pure, Result.andThen_ok, List.map_toArray, List.map_cons, List.map_nil, ha.eval hx, ha.eval hy]
 simp [Builtin.max_, Builtin.max2, this]
theorem yConvI {k k' : IntKind} {p : Int} {ds : TypeDesc} (hs : P.underlying s = some ds) (hd : P.underlying d = some (.int k')) (hx : ev E x = some (.int k p)) : Yl P n E H O ⟨dst, .convert s d x, ty, pos, af, gd⟩ (.int k' (k'.wrap p)) := by
 intro a w ha _
 simp only [execOp, ha.eval hx, convert, Sem.run_bind, run_underlying hs, run_underlying hd, Result.andThen_ok, Conv.intToInt, Sem.run_pure]
theorem yShr {t t' : Nat} {k k' : IntKind} {p : Int} {m : Nat} (hx : ev E x = some (.int k p)) (hy : ev E y = some (.int k' m)) (hm : m ≤ k.bits) : Yl P n E H O ⟨dst, .binOp .shr t x y t', ty, pos, af, gd⟩ (.int k (p / 2 ^ m)) := by
 intro a w ha _
 have hmn : min m k.bits = m := Nat.min_eq_left hm
 have h4 : p.fdiv (2 ^ m) = p / 2 ^ m := Int.fdiv_eq_ediv_of_nonneg _ (Int.pow_nonneg dC)
 have hg : (eqGuard .shr t x y (.int k p) (.int k' m)).run P w = .ok () w := by unfold eqGuard; rfl
 have hm0 : ¬ ((m : Int) < 0) := by omega
 simp [execOp, ha.eval hx, ha.eval hy, Sem.run_bind, hg, Result.andThen_ok, binOp, Op.shift, hmn, h4, hm0]
theorem tBSlice0 {t e d : Nat} (ht : P.underlying t = some (.slice e)) (hs : Sz P e k) (hd : d < n) (h : ∀ b, TK n I K ((d, .slice (some ⟨b, 0, none⟩) 0 0) :: E) H (.row e k (.slice (some ⟨b, 0, none⟩) 0 0) 0 [] :: O)) : TK n I (OpK P ⟨some d, .buildSlice t 0 #[], ty, pos, af, gd⟩ K Q) E H O := by
 refine TK.run rfl hd fun a w ha h4 => ⟨_, w.alloc (.cells #[] e), H, .row e k (.slice (some ⟨w.heap.size, 0, none⟩) 0 0) 0 [] :: O, ?_,
  Step.new_ (O' := [.row e k (.slice (some ⟨w.heap.size, 0, none⟩) 0 0) 0 []]) h4 (fun h0 => Step.alloc h0 rfl (ownsRow_new w e k 0 [] (by simp) (by simp [maxLen]))), h _⟩
 simp [execOp, Instr.buildSlice, Sem.run_bind, run_underlying ht, Result.andThen_ok, hs w, Instr.fill, Go.newRow, run_newObj]
 have : (Array.range 0).map (fun _ => (default : Value)) = #[] := Array.eq_empty_of_size_eq_zero (by simp)
 rw [this]
def cutA (A : OA) (c l k : Nat) : OA := if c = l then A else A.map (·.add (l * k))
section
variable {t e k len cap : Nat} {A : OA} {x lo hi : Operand} {q q' : IntKind} {l h : Int}
theorem ySliceL (ht : P.underlying t = some (.slice e)) (hs : Sz P e k) (hx : ev E x = some (.slice A len cap)) (hl : ev E lo = some (.int q l)) (h0 : 0 ≤ l) (h1 : l ≤ len) : Yl P n E H O ⟨dst, .slice t x (some lo) none none, ty, pos, af, gd⟩ (.slice (cutA A cap l.toNat k) (len - l.toNat) (cap - l.toNat)) := by
 intro a w ha _
 simp [execOp, ha.eval hx, ha.eval hl, Instr.sliceAt, Instr.slice, Sem.run_bind, run_underlying ht, Result.andThen_ok, Instr.sliceBounds, Instr.sliceBound, asIntOf, h0, h1, hs w, cutA]
theorem ySliceH (ht : P.underlying t = some (.slice e)) (hs : Sz P e k) (hx : ev E x = some (.slice A len cap)) (hh : ev E hi = some (.int q h)) (h0 : 0 ≤ h) (h1 : h ≤ cap) : Yl P n E H O ⟨dst, .slice t x none (some hi) none, ty, pos, af, gd⟩ (.slice (cutA A cap 0 k) h.toNat cap) := by
 intro a w ha _
 simp [execOp, ha.eval hx, ha.eval hh, Instr.sliceAt, Instr.slice, Sem.run_bind, run_underlying ht, Result.andThen_ok, Instr.sliceBounds, Instr.sliceBound, asIntOf, h0, h1, hs w, cutA]
end
theorem cutA_zero : cutA A c 0 k = A := by
 unfold cutA
 split
 ·rfl
 ·cases A with
  | none => rfl
  | some a => simp [Addr.add]
theorem Sl.cut {A : OA} {len cap : Nat} (h : Sl r H xs A len cap) {l : Nat} (hl : l ≤ len) : Sl r H (xs.drop l) (cutA A cap l r.k) (len - l) (cap - l) := h.drop_ l hl
theorem Reps.of_ex {xs : List α} {p : Nat → LV → Prop} (h : ∀ (i : Nat) (x : α), xs[i]? = some x → ∃ cs, r.rel H x cs ∧ p i cs) : ∃ cs, Reps r H xs cs ∧ ∀ (i : Nat), i < xs.length → ∃ c, p i c ∧ ∀ (j : Nat) (v : Value), j < r.k → cs[i * r.k + j]? = some v → c[j]? = some v := by
 induction xs generalizing p with
 | nil => exact ⟨[], .nil, fun i hi => absurd hi (by simp)⟩
 | cons x xs ih =>
  obtain ⟨c, hc, hp⟩ := h 0 x rfl
  obtain ⟨cs, h5, h4⟩ := ih (p := fun i => p (i + 1)) (fun i y hi => h (i + 1) y (by simpa using hi))
  refine ⟨c ++ cs, .cons hc h5, fun i hi => ?_⟩
  cases i with
  | zero =>
   refine ⟨c, hp, fun j v hj hv => ?_⟩
   rw [Nat.zero_mul, Nat.zero_add, List.getElem?_append_left (by rw [r.len hc]; exact hj)] at hv
   exact hv
  | succ i =>
   obtain ⟨d, hd, hg⟩ := h4 i (by simpa using hi)
   refine ⟨d, hd, fun j v hj hv => hg j v hj ?_⟩
   rw [List.getElem?_append_right (by rw [r.len hc, Nat.add_mul]; omega), r.len hc, show (i + 1) * r.k + j - r.k = i * r.k + j by rw [Nat.add_mul]; omega] at hv
   exact hv
theorem Sl.cells {A : OA} {len cap : Nat} (hk : 0 < r.k) (h : Sl r H xs A len cap) : ∃ cs, Reps r H xs cs ∧ (0 < len → ∃ b o, A = some ⟨b, o, none⟩ ∧ HC H b o cs) := by
 obtain ⟨h1, h2, h3, h4, h5⟩ := h
 rcases Nat.eq_zero_or_pos len with h0 | h0
 ·subst h0
  obtain rfl : xs = [] := List.eq_nil_of_length_eq_zero h1
  exact ⟨[], .nil, fun hh => absurd hh oM⟩
 ·obtain ⟨b, o, hA, arr, e, fr, hb, hx⟩ := h5 h0
  obtain ⟨cs, h7, h6⟩ := Reps.of_ex (r := r) (H := H) (xs := xs) (p := fun i cs => ∀ (j : Nat) (v : Value), cs[j]? = some v → arr[o + i * r.k + j]? = some v) hx
  refine ⟨cs, h7, fun _ => ⟨b, o, hA, arr, e, fr, hb, fun j v hj => ?_⟩⟩
  have h8 : j < xs.length * r.k := by have := (gE hj).1; rwa [h7.len] at this
  have hd : j / r.k * r.k + j % r.k = j := Nat.div_add_mod' j r.k
  obtain ⟨c, hp, hg⟩ := h6 (j / r.k) (Nat.div_lt_of_lt_mul (by rw [Nat.mul_comm]; exact h8))
  have := hp _ v (hg (j % r.k) v (Nat.mod_lt _ hk) (by rw [hd]; exact hj))
  rwa [Nat.add_assoc, hd] at this
theorem tAppendSl (hD : ¬ I.D) {i d t e bytes m m' c : Nat} {v : Value} {cs : LV} {A : OA} (hO : O[i]? = some (.row e r.k v m cs)) (ht : P.underlying t = some (.slice e)) (hi : InfoT P e z r.k bytes) (hz : z.cells.size = r.k) (hk : 0 < r.k) (hx : ev E s = some v) (hy : ev E x = some (.slice A m' c)) (hm : Sl r H ys A m' c) (hlen : (m + m') * bytes ≤ 140737488355328) (h63 : m + m' ≤ 140737488355328) (hd : d < n) (h : ∀ A' c' news, Reps r H ys news → TK n I K ((d, .slice A' (m + m') c') :: E) H (O.set i (.row e r.k (.slice A' (m + m') c') (m + m') (cs ++ news)))) : TK n I (OpK P ⟨some d, .call { callee := .builtin .append, args := #[s, x], argTypes := #[t, t] }, ty, pos, af, gd⟩ K Q) E H O := by
 obtain ⟨news, hn, hc⟩ := hm.cells hk
 rcases Nat.eq_zero_or_pos m' with h0 | h0
 ·subst h0
  obtain rfl : ys = [] := List.eq_nil_of_length_eq_zero hm.len
  have h9 : news = [] := hn.inj_nil
  subst h9
  refine TK.run rfl hd fun a w ha hs => ?_
  have h5 : w.ownsRow 0 e r.k v m cs := hs.own _ (mG hO)
  obtain ⟨B, c', rfl, hle⟩ : ∃ B c', v = .slice B m c' ∧ m ≤ c' := by
   rcases h5.2 with ⟨rfl, h2⟩ | ⟨g, cap, cur, rfl, _, _, h3, _⟩
   ·exact ⟨none, 0, by rw [h2], by omega⟩
   ·exact ⟨_, _, rfl, h3⟩
  have h4 : O.set i (.row e r.k (.slice B m c') m cs) = O := by
   apply List.ext_getElem?
   intro j
   rw [List.getElem?_set]
   split
   ·rename_i hj; subst hj; rw [hO]; simp [(gE hO).1]
   ·rfl
  refine ⟨_, w, H, O, ?_, .refl hs, by have := h B c' [] .nil; simp only [List.append_nil, Nat.add_zero, h4] at this; exact this⟩
  obtain ⟨i0, h7, h6⟩ := Option.map_eq_some_iff.1 hi
  simp only [Prod.mk.injEq] at h6
  simp only [execOp, resolve, invoke, builtin, Sem.run_bind, Sem.run_pure, Result.andThen_ok, List.map_toArray, List.map_cons, List.map_nil, ha.eval hx, ha.eval hy]
  have hl : ∀ y : Addr, (loadCells y 0).run P w = .ok #[] w := fun y => by simpa using run_loadCells_list (P := P) w y [] (by simp)
  cases A <;> cases B <;> simp [Builtin.append_, run_underlying ht, sizeOf, typeInfo, h7, Builtin.lenOf, Builtin.firstCells, hle, storeCells, hl]
 ·obtain ⟨b, o, hA, h8⟩ := hc h0
  subst hA
  exact tAppend hD hO ht hi hz hk hx hy h8.mem (by rw [hn.len, hm.len]) hn.one hlen h63 hd fun A' c' => h A' c' news hn
theorem row_take {i e k m c' m' : Nat} {B : OA} {cs : LV} (hO : O[i]? = some (.row e k (.slice B m c') m cs)) (hm : m' ≤ m) (h : TK n I K E H (O.set i (.row e k (.slice B m' c') m' (cs.take (m' * k))))) : TK n I K E H O := by
 refine TK.step fun w hs => ⟨H, _, Step.set_ (h' := .row e k (.slice B m' c') m' (cs.take (m' * k))) hs hO (fun h0 => ?_), h⟩
 have h5 : w.ownsRow 0 e k (.slice B m c') m cs := h0.own (.row e k (.slice B m c') m cs) (by simp)
 have h6 : fps [.row e k (.slice B m' c') m' (cs.take (m' * k))] = fps [.row e k (.slice B m c') m cs] := by cases B <;> rfl
 refine { Step.refl h0 with st := ⟨h0.ghost, fun x hx => ?_, by rw [h6]; exact h0.apart, by rw [h6]; exact h0.nodup⟩, newO := fun c hc => .inl (h6 ▸ hc) }
 simp only [List.mem_singleton] at hx
 subst hx
 have hl := h5.1
 have h7 : m' * k ≤ m * k := Nat.mul_le_mul_right k hm
 refine ⟨by rw [List.length_take, hl]; exact Nat.min_eq_left h7, ?_⟩
 rcases h5.2 with ⟨h1, h2⟩ | ⟨g, cap, cur, hv, hg, hh, hn, hc, hsz, htake⟩
 ·injection h1 with h1 h3 h4
  exact .inl ⟨by rw [h1, h4, show m' = 0 by omega], by omega⟩
 ·injection hv with h1 h3 h4
  subst h1 h4
  exact .inr ⟨g, c', cur, rfl, hg, hh, by omega, hc, hsz, by rw [← htake, List.take_take, Nat.min_eq_left h7]⟩
theorem tClear {i t e k m c' l len cap : Nat} {B A : OA} {cs zs : LV} {z : Value} (hO : O[i]? = some (.row e k (.slice B m c') m cs)) (ht : P.underlying t = some (.slice e)) (hz : ∀ w, (zeroValue e).run P w = .ok z w) (hzc : z.cells = zs.toArray) (hzk : zs.length = k) (h1 : ∀ u ∈ zs, u.oneCell' = true) (hx : ev E x = some (.slice A len cap)) (hA : 0 < len → A = B.map (·.add (l * k))) (hl : l + len = m) (hlc : l < c' ∨ len = 0) (hk0 : 0 < k) (h : ∀ ds : LV, ds.length = m * k → ds.take (l * k) = cs.take (l * k) → TK n I K E H (O.set i (.row e k (.slice B m c') m ds))) : TK n I (OpK P ⟨none, .call { callee := .builtin .clear, args := #[x], argTypes := #[t] }, ty, pos, af, gd⟩ K Q) E H O := by
 intro a w ha hs
 unfold OpK Oper.wp
 have h6 : w.ownsRow 0 e k (.slice B m c') m cs := hs.st.own _ (mG hO)
 have b6 : O.set i (.row e k (.slice B m c') m cs) = O := by
  apply List.ext_getElem?
  intro j
  rw [List.getElem?_set]
  split
  ·rename_i hj; subst hj; rw [hO]; simp [(gE hO).1]
  ·rfl
 rcases Nat.eq_zero_or_pos len with h0 | h0
 ·have hr : (Builtin.clear_ #[t] ty #[.slice A len cap]).run P w = .ok (.tuple #[]) w := by
   subst h0
   cases A <;> simp [Builtin.clear_, run_underlying ht]
  have := h cs h6.1 rfl
  rw [b6] at this
  simp only [execOp, resolve, invoke, builtin, Sem.run_bind, Sem.run_pure, Result.andThen_ok, List.map_toArray, List.map_cons, List.map_nil, ha.eval hx, hr, Oper.upon_value]
  exact this _ _ ha hs
 ·rcases h6.2 with ⟨hv, h2⟩ | ⟨g, cap', cur, hv, hg, hh, hn, hc, hsz, htake⟩
  ·omega
  ·injection hv with h3 h4 h5
   subst h3 h5
   have b7 := hA h0
   simp only [Option.map_some, addr_add, Nat.zero_add] at b7
   subst b7
   let news := (Builtin.zeroCells z.cells len).toList
   have b9 : news.length = len * k := by simp [news, Builtin.zeroCells, hzc, hzk]
   have c0 : ∀ u ∈ news, u.oneCell' = true := by
    intro u hu
    simp only [news, Builtin.zeroCells, Array.toList_map, List.mem_map] at hu
    obtain ⟨j, -, rfl⟩ := hu
    rw [hzc]
    have b8 : j % zs.toArray.size < zs.toArray.size := Nat.mod_lt _ (by simp; omega)
    rw [getElem!_pos zs.toArray _ b8]
    apply h1
    simp
   have h7 : l * k + news.length = m * k := by rw [b9, ← hl, Nat.add_mul]
   obtain ⟨all, hb, hlen, h9⟩ := ownsRow_set (off := l * k) (cs := news) h6 (by rw [h6.1, h7]; exact Nat.le_refl _)
   have b5 := run_storeCells_at P g (l * k) e news 0 all.toArray w hb (by simpa using hlen) c0
   have h8 := (Step.set_ (h' := .row e k (.slice (some ⟨g, 0, none⟩) m c') m (cs.take (l * k) ++ news ++ cs.drop (l * k + news.length))) hs.st hO (fun h0 => Step.setRow (b := g) h0 rfl rfl h9)).any (D := I.D)
   have b4 : l ≤ m := by omega
   have c1 : l * k ≤ cs.length := by rw [h6.1]; exact Nat.mul_le_mul_right k b4
   have := h (cs.take (l * k) ++ news ++ cs.drop (l * k + news.length)) (by rw [List.length_append, List.length_append, List.length_take, List.length_drop, Nat.min_eq_left c1, h6.1]; omega)
    (by rw [List.append_assoc, List.take_append_of_le_length (by rw [List.length_take]; omega), List.take_take, Nat.min_self])
   have hr : (Builtin.clear_ #[t] ty #[.slice (some ⟨g, l * k, none⟩) len cap]).run P w = .ok (.tuple #[]) (w.setRow g (all.take (l * k) ++ news ++ all.drop (l * k + news.length)).toArray) := by
    obtain ⟨l0, rfl⟩ : ∃ q, len = q + 1 := ⟨len - 1, by omega⟩
    simp only [Nat.add_zero, List.toList_toArray] at b5
    simp only [Builtin.clear_, List.getElem?_toArray, List.getElem?_cons_zero, Sem.run_bind, run_underlying ht, Result.andThen_ok, hz, Sem.run_pure]
    simp only [news] at b5
    simp [b5, news]
   simp only [execOp, resolve, invoke, builtin, Sem.run_bind, Sem.run_pure, Result.andThen_ok, List.map_toArray, List.map_cons, List.map_nil, ha.eval hx, hr, Oper.upon_value]
   exact this _ _ ha (hs.trans h8)
theorem yBytesStr {i e m c' : Nat} {B : OA} {ns : LI} (hO : O[i]? = some (.row e 1 (.slice B m c') m (ns.map (.int .u8)))) (hs : P.underlying s = some (.slice e)) (he : P.underlying e = some (.int .u8)) (hd : P.underlying d = some .string) (hx : ev E x = some (.slice B m c')) :
  Yl P n E H O ⟨dst, .convert s d x, ty, pos, af, gd⟩ (.string (ns.foldl (fun r n => r.push (UInt8.ofNat n.toNat)) ByteArray.empty)) := by
 intro a w ha h7
 have h6 : w.ownsRow 0 e 1 (.slice B m c') m (ns.map (.int .u8)) := h7.own _ (mG hO)
 have hl : ns.length = m := by have := h6.1; simpa using this
 have k0 : (Conv.bytesToString (.slice B m c')).run P w = .ok (.string (ns.foldl (fun r n => r.push (UInt8.ofNat n.toNat)) ByteArray.empty)) w := by
  rcases h6.2 with ⟨hv, h2⟩ | ⟨g, cap', cur, hv, _⟩
  ·injection hv with h3; subst h3
   have : ns = [] := List.eq_nil_of_length_eq_zero oM
   subst this
   simp [Conv.bytesToString]
  ·injection hv with h3 h4 h5; subst h3
   refine run_bytesToString w _ m c' ns ?_
   have := run_loadCells_list (P := P) w ⟨g, 0, none⟩ (ns.map (.int .u8)) (fun j v hj => h6.cells (g := g) rfl j v hj)
   simpa [hl] using this
 cases B <;> simp only [execOp, ha.eval hx, convert, Sem.run_bind, run_underlying hs, run_underlying hd, run_underlying he, Result.andThen_ok, k0, Sem.run_pure]
theorem TK.callSO {D : Prop} (hDD : I.D → D) {o : Oper} {f : FuncId} {args : Array Value} {Oc F : List HL} {R : Value → List HL → Prop} (hp : (Oc ++ F).Perm O) (hd : o.dst = some d) (hn : Nat.blt d n = true) (he : ∀ a w, EnvOk n E a → (execOp a.eval o).run P w = .ok (.enter f args) w) (hc : CtG D P f args H Oc fun v H' O' => R v O') (h : ∀ v O', R v O' → TK n I K ((d, v) :: E) H (O' ++ F)) : TK n I (OpK P o K Q) E H O := by
 intro a w ha hs
 unfold OpK Oper.wp
 rw [he a w ha, Oper.upon_enter]
 refine ((hc.frame hp) w hs.st).mono ?_
 rintro e w' ⟨v, H', O', rfl, ⟨O1, rfl, hr⟩, h4⟩
 show K (a.put o.dst v) w'
 rw [hd]
 exact h v O1 hr _ _ (ha.put d v (blt_lt hn)) (hs.trans ((h4.weak hDD).down (Ghost.le.refl _) h4.le))
theorem TK.keep {O' : List HL} (l : List Nat) (hl : l.Pairwise (· < ·)) (hO : pick O l = O') (h : TK n I K E H O') : TK n I K E H O := fun a w ha hs => h a w ha (hs.sub (hO ▸ pick_sub O l hl))
def Hand {α : Type} (r : Rep α) (e : Nat) (H : Ghost) (xs : List α) (n : Nat) (v : Value) (O' : List HL) : Prop :=
 ∃ A c cs, O' = [.row e r.k (.slice A n c) n cs] ∧ Reps r H xs cs ∧ v = .slice A n c
theorem Sl.isNone {A : OA} {len cap : Nat} (h : Sl r H xs A len cap) (hA : A.isNone = true) : A = none ∧ len = 0 ∧ xs = [] := by
 have hA := Option.isNone_iff_eq_none.1 hA
 have h0 := h.2.2.2.1 hA
 have h1 := h.cap
 have h2 : len = 0 := by omega
 exact ⟨hA, h2, List.eq_nil_of_length_eq_zero (by rw [h.len, h2])⟩
theorem Hand.some {n c : Nat} {A : OA} (h : Reps r H xs news) : Hand r e H xs n (.slice A (0 + n) c) [.row e r.k (.slice A (0 + n) c) (0 + n) ([] ++ news)] := by
 rw [Nat.zero_add, List.nil_append]
 exact ⟨_, _, _, rfl, h, rfl⟩
end
section
variable {P : Program} {n : Nat} {I : Init} {K : Act → World → Prop} {E : Env} {H : Ghost} {O O' : List HL} {fn : Func} {R : Value → Ghost → List HL → Prop}
theorem cell_run {i b ty t : Nat} {cs : LV} (ha : EnvOk n E a) (hs : St H O w) (hO : O[i]? = some (.blk b ty cs)) (hA : Agg P ty true) (hz : Sz P ty k) (hk : cs.length = k) (ht : look E t = some (.pointer (some ⟨b, 0, none⟩))) :
  a.tmps[t]?.getD undef = .pointer (some ⟨b, 0, none⟩) ∧ (loadVar ty ⟨b, 0, none⟩).run P w = .ok (.agg cs.toArray) w := by
 subst hk
 have hb : w.heap[b]? = some (.cells cs.toArray ty (0, 0)) := hs.own _ (mG hO)
 have h1 := run_loadCells_list (P := P) w ⟨b, 0, none⟩ cs (fun j v hj => by rw [addr_add]; simp [World.cell?, hb, hj])
 have h2 := ha.tmp ht
 rw [Array.getD_eq_getD_getElem?] at h2
 refine ⟨h2, ?_⟩
 simp only [loadVar, Sem.run_bind, Sem.run_pure, Result.andThen_ok, hA w, hz w, if_true, h1]
theorem TK.retC1 {i b ty t k : Nat} {cs : LV} (l : List Nat) (hl : l.Pairwise (· < ·)) (hr : fn.results = #[.cell t ty]) (hO : O[i]? = some (.blk b ty cs)) (hA : Agg P ty true) (hz : Sz P ty k) (hk : cs.length = k) (ht : look E t = some (.pointer (some ⟨b, 0, none⟩))) (hp : pick O l = O') (h : R (.agg cs.toArray) H O') : TK n I (Fin P fn I R .ret) E H O := by
 intro a w ha hs
 obtain ⟨hc, h4⟩ := cell_run ha hs.st hO hA hz hk ht
 refine bodyPost_ret (v := .agg cs.toArray) ?_ ha.defers ⟨_, H, O', rfl, h, hs.sub (hp ▸ pick_sub O l hl)⟩
 unfold results
 rw [hr]
 simp [hc, h4, asAddr, Result.andThen_ok, Sem.run_pure, Sem.run_bind]
theorem TK.retC2 {i b ty t u k : Nat} {cs : LV} (l : List Nat) (hl : l.Pairwise (· < ·)) (hr : fn.results = #[.cell t ty, .tmp u]) (hO : O[i]? = some (.blk b ty cs)) (hA : Agg P ty true) (hz : Sz P ty k) (hk : cs.length = k) (ht : look E t = some (.pointer (some ⟨b, 0, none⟩))) (hu : look E u = some v) (hp : pick O l = O') (h : R (.tuple #[.agg cs.toArray, v]) H O') : TK n I (Fin P fn I R .ret) E H O := by
 intro a w ha hs
 obtain ⟨hc, h4⟩ := cell_run ha hs.st hO hA hz hk ht
 have hv := ha.tmp hu
 refine bodyPost_ret (v := .tuple #[.agg cs.toArray, v]) ?_ ha.defers ⟨_, H, O', rfl, h, hs.sub (hp ▸ pick_sub O l hl)⟩
 unfold results
 rw [hr]
 simp only [Array.getD_eq_getD_getElem?] at hv
 simp [hc, h4, asAddr, hv, Result.andThen_ok, Sem.run_pure, Sem.run_bind]
theorem TK.retC3 {i b ty t u s k : Nat} {cs : LV} (l : List Nat) (hl : l.Pairwise (· < ·)) (hr : fn.results = #[.cell t ty, .tmp u, .tmp s]) (hO : O[i]? = some (.blk b ty cs)) (hA : Agg P ty true) (hz : Sz P ty k) (hk : cs.length = k) (ht : look E t = some (.pointer (some ⟨b, 0, none⟩))) (hu : look E u = some v) (hs' : look E s = some v') (hp : pick O l = O') (h : R (.tuple #[.agg cs.toArray, v, v']) H O') : TK n I (Fin P fn I R .ret) E H O := by
 intro a w ha hs
 obtain ⟨hc, h4⟩ := cell_run ha hs.st hO hA hz hk ht
 have hv := ha.tmp hu
 have hv' := ha.tmp hs'
 refine bodyPost_ret (v := .tuple #[.agg cs.toArray, v, v']) ?_ ha.defers ⟨_, H, O', rfl, h, hs.sub (hp ▸ pick_sub O l hl)⟩
 unfold results
 rw [hr]
 simp only [Array.getD_eq_getD_getElem?] at hv hv'
 simp [hc, h4, asAddr, hv, hv', Result.andThen_ok, Sem.run_pure, Sem.run_bind]
theorem pick_eq (O : List HL) : ∀ l : List Nat, pick O l = l.filterMap (O[·]?)
 | [] => rfl
 | i :: l => by unfold pick; rw [List.filterMap_cons]; cases O[i]? <;> simp [pick_eq O l]
theorem pick_append (O : List HL) (l m : List Nat) : pick O (l ++ m) = pick O l ++ pick O m := by rw [pick_eq, pick_eq, pick_eq, List.filterMap_append]
theorem pick_perm (O : List HL) {l : List Nat} (h : l.Perm m) : (pick O l).Perm (pick O m) := by
 rw [pick_eq, pick_eq]
 exact h.filterMap _
theorem pick_range (O : List HL) : pick O (List.range O.length) = O := by
 induction O with
 | nil => rfl
 | cons h O ih =>
  rw [pick_eq] at ih ⊢
  rw [List.length_cons, List.range_succ_eq_map, List.filterMap_cons]
  simp only [List.getElem?_cons_zero, List.filterMap_map, Function.comp_def, Nat.succ_eq_add_one, List.getElem?_cons_succ]
  rw [ih]
theorem perm_of_pick {Oc F : List HL} (l m : List Nat) (k : Nat) (hk : O.length = k) (h : (l ++ m).isPerm (List.range k) = true) (h1 : pick O l = Oc) (h2 : pick O m = F) : (Oc ++ F).Perm O := by
 subst h1 h2 hk
 rw [← pick_append]
 have := pick_perm O (List.isPerm_iff.1 h)
 rwa [pick_range] at this
theorem TK.weakP {O' : List HL} (l m : List Nat) (k : Nat) (hk : O.length = k) (hlm : (l ++ m).isPerm (List.range k) = true) (hO : pick O l = O') (hE : Sub E E') (h : TK n I K E' H O') : TK n I K E H O := by
 intro a w ha hs
 exact h a w (ha.mono hE.mono) ((hs.permR (perm_of_pick l m k hk hlm hO rfl).symm).forget)
theorem TK.eqO {O' : List HL} (he : O = O') (h : TK n I K E H O') : TK n I K E H O := he ▸ h
end
noncomputable abbrev PP : Program := Tryz.prog
theorem hmix : PP.follows .mixedOrders = true := by kernel_rfl
theorem In3 : InfoT PP 3 (.int .i64 0) 1 8 := by unfold InfoT; kernel_rfl
theorem In9 : InfoT PP 9 (.string ⟨#[]⟩) 1 16 := by unfold InfoT; kernel_rfl
theorem In26 : InfoT PP 26 (.agg #[.slice none 0 0, .int .i64 0]) 2 32 := by unfold InfoT; kernel_rfl
theorem In50 : InfoT PP 50 (.slice none 0 0) 1 24 := by unfold InfoT; kernel_rfl
theorem In166 : InfoT PP 166 (.agg #[.int .i64 0, .int .i64 0, .int .i64 0]) 3 24 := by unfold InfoT; kernel_rfl
def embP (p : BA × BA) : Value := .agg #[.string p.1, .string p.2]
theorem eql_str {P : Program} {t : TypeId} (ht : P.underlying t = some .string) (d : Nat) (x y : BA) (w : World) : (Op.equalIn (d + 1) t (.string x) (.string y)).run P w = .ok (decide (x = y)) w := by
 simp only [Op.equalIn, Sem.run_bind, run_underlying ht, Result.andThen_ok, Sem.run_pure]
 congr 1
 rw [Bool.eq_iff_iff, MapKept.bytes_beq, decide_eq_true_eq]
theorem part_str (a b : BA) (w : World) : (part 9 #[.string a, .string b] 0).run PP w = .ok (.string a) w ∧ (part 9 #[.string a, .string b] 1).run PP w = .ok (.string b) w := by
 constructor <;> simp [part, Sem.run_bind, Tryz.isAgg9, Result.andThen_ok]
theorem range2 : (List.range' 0 2 1) = [0, 1] := rfl
theorem eql_pair (d : Nat) (p q : BA × BA) (w : World) : (Op.equalIn (d + 2) 177 (embP p) (embP q)).run PP w = .ok (decide (p = q)) w := by
 obtain ⟨a, b⟩ := p
 obtain ⟨a', b'⟩ := q
 obtain ⟨h1, h2⟩ := part_str a b w
 obtain ⟨h3, h4⟩ := part_str a' b' w
 have e : ∀ x y, (Op.equalIn (d + 1) 9 (.string x) (.string y)).run PP w = .ok (decide (x = y)) w := fun x y => eql_str Tryz.underlying9 d x y w
 rw [show d + 2 = (d + 1) + 1 from rfl]
 unfold Op.equalIn
 simp only [embP, Sem.run_bind, run_underlying Tryz.underlying177, Result.andThen_ok, Tryz.sizeOf9, Std.Legacy.Range.forIn_eq_forIn_range', Std.Legacy.Range.size]
 simp only [Nat.sub_zero, Nat.add_sub_cancel, Nat.div_one, range2, List.forIn_cons, List.forIn_nil, Nat.zero_mul, Nat.one_mul, Sem.run_bind, h1, h2, h3, h4, Result.andThen_ok, e]
 by_cases ha : a = a'
 ·subst ha
  by_cases hb : b = b'
  ·subst hb; simp [h2, e, Sem.run_bind, Result.andThen_ok]
  ·simp [h2, h4, e, Sem.run_bind, Result.andThen_ok, hb]
 ·simp [ha]
theorem check_str {n : Nat} {x : BA} {w : World} : (Instr.checkKey e (n + 1) 9 (.string x)).run PP w = .ok () w := checkKey_flat Tryz.underlying9 (.inl ⟨rfl, x, rfl⟩) e w n
theorem check_pair (e : Bool) (n : Nat) (p : BA × BA) (w : World) : (Instr.checkKey e (n + 2) 177 (embP p)).run PP w = .ok () w := by
 obtain ⟨h1, h2⟩ := part_str p.1 p.2 w
 rw [show n + 2 = (n + 1) + 1 from rfl]
 unfold Instr.checkKey
 simp only [embP, Sem.run_bind, run_underlying Tryz.underlying177, Result.andThen_ok, Tryz.sizeOf9, Std.Legacy.Range.forIn_eq_forIn_range', Std.Legacy.Range.size]
 simp [range2, Sem.run_bind, h1, h2, Result.andThen_ok, check_str, Tryz.sizeOf9]
theorem find_pair (k : BA × BA) : ∀ (es : List MapEntry) (m : List (BA × BA)) (i : Nat), es.map (·.key) = m.map embP → ∀ w, (Instr.findAsking 177 (embP k) es i).run PP w = .ok (fnd k es m i) w
 | [], m, i, h, w => by simp [Instr.findAsking, fnd]
 | e :: es, [], i, h, w => by simp at h
 | e :: es, x :: xs, i, h, w => by
  simp only [List.map_cons, List.cons.injEq] at h
  have hb : (Op.equal 177 (embP k) e.key).run PP w = .ok (decide (k = x)) w := by rw [h.1]; exact eql_pair 9998 k x w
  simp only [Instr.findAsking, Sem.run_bind, hb, Result.andThen_ok, fnd]
  by_cases hx : x = k
  ·simp [hx]
  ·simp only [hx, Ne.symm hx, decide_false, Bool.false_eq_true, if_false]; exact find_pair k es xs (i + 1) h.2 w
theorem keyPair : KeyOk PP 177 embP where
 check e k w := check_pair e 9998 k w
 find k es m hm w := by
  have h2 := find_pair k es m 0 hm w
  cases es with
  | nil => cases m with
   | nil => simp [Instr.findKey, run_underlying Tryz.underlying177, Result.andThen_ok, Instr.findNow, fnd, Sem.run_bind]
   | cons x xs => simp at hm
  | cons e es =>
   cases m with
   | nil => simp at hm
   | cons x xs =>
    have hk : e.key = embP x := by simp only [List.map_cons, List.cons.injEq] at hm; exact hm.1
    simp only [Instr.findKey, Sem.run_bind, run_underlying Tryz.underlying177, Result.andThen_ok, Instr.findNow, hk, embP, Instr.sameNow]
    simpa [embP] using h2
 bits k := by
  unfold Instr.sameBits embP
  simp only [beq_self_eq_true, Bool.true_and, List.zip_cons_cons, List.zip_nil_right, List.all_cons, List.all_nil, Bool.and_true]
  simp [Instr.sameBits, MapKept.bytes_beq]
theorem mapL_at {κ β : Type} {emb : κ → Value} {g : β → Value} {m : List (κ × β)} {q : Nat} {k v : Value} (h : (mapL emb g m)[q]? = some (k, v)) : ∃ p, m[q]? = some p ∧ k = emb p.1 ∧ v = g p.2 := by
 unfold mapL at h
 rw [List.getElem?_map] at h
 obtain ⟨p, hp, h2⟩ := Option.map_eq_some_iff.1 h
 simp only [Prod.mk.injEq] at h2
 exact ⟨p, hp, h2.1.symm, h2.2.symm⟩
theorem all_done {α : Type} {m : List α} {dn : List Nat} (hn : dn.Nodup) (hb : ∀ q ∈ dn, q < m.length) (hall : ∀ q, q < m.length → q ∈ dn) : (dn.filterMap (m[·]?)).Perm m := by
 have hp : dn.Perm (List.range m.length) := by
  rw [List.perm_ext_iff_of_nodup hn List.nodup_range]
  intro a
  rw [List.mem_range]
  exact ⟨hb a, hall a⟩
 have h2 := hp.filterMap (m[·]?)
 have h3 : (List.range m.length).filterMap (m[·]?) = m := by
  apply List.ext_getElem?
  intro i
  have : ∀ l : List α, (List.range l.length).filterMap (l[·]?) = l := by
   intro l
   induction l with
   | nil => rfl
   | cons x l ih =>
    rw [List.length_cons, List.range_succ_eq_map, List.filterMap_cons]
    simp only [List.getElem?_cons_zero, List.filterMap_map, Function.comp_def, Nat.succ_eq_add_one, List.getElem?_cons_succ]
    rw [ih]
  rw [this]
 rwa [h3] at h2
section
variable {P : Program} {n : Nat} {I : Init} {K : Act → World → Prop} {E : Env} {H : Ghost} {O : List HL} {Q : Exit → Act → World → Prop}
 {dst : Option Nat} {ty : TypeId} {pos : String} {af : Array Edge} {gd : Option (Nat × Bool)} {κ β : Type} [DecidableEq κ] {emb : κ → Value} {g : β → Value}
theorem yIndexArr {t e b o len : Nat} {ik : IntKind} {i : Int} (ht : P.underlying t = some (.array len e)) (hs : Sz P e k) (hx : ev E x = some (.pointer (some ⟨b, o, none⟩))) (hy : ev E y = some (.int ik i)) (h0 : 0 ≤ i) (h1 : i < len) (hk : k ≠ 0) :
  Yl P n E H O ⟨dst, .indexAddr t x y, ty, pos, af, gd⟩ (.pointer (some ⟨b, o + i.toNat * k, none⟩)) := by
 intro a w ha _
 simp only [execOp, ha.eval hx, ha.eval hy, Instr.indexAt, asIntOf, Sem.run_bind, Sem.run_pure, Result.andThen_ok, run_underlying ht, Instr.sureAddr]
 simp only [h0, h1, and_self, if_true, Sem.run_bind, hs w, Result.andThen_ok, Sem.run_pure, addr_add, hk, if_false]
theorem yBuildArr {t e len : Nat} {parts : List (Nat × Operand)} (ht : P.underlying t = some (.array len e)) (hs : Sz P e k) (hz : Zc P t zs) (hv : pevs E parts = some lp) (hf : lfill (fun i => some (i * k, k)) zs lp = some out) : Yl P n E H O ⟨dst, .build t parts.toArray, ty, pos, af, gd⟩ (.agg out.toArray) := by
 intro a w ha _
 obtain ⟨z, hz, h4⟩ := hz
 have h1 := fill_lfill (fun i => some (i * k, k)) (parts.map fun p => (p.1, a.eval p.2)) lp zs out (by rw [List.map_map]; exact pevs_eval ha hv) hf
 simp only [execOp, Instr.build, Sem.run_bind, hz w, Result.andThen_ok, run_underlying ht, hs w, h4, List.map_toArray]
 rw [h1]
 simp
theorem mput_len (m : List (κ × β)) (k : κ) (v : β) : (mput m k v).length ≤ m.length + 1 ∧ m.length ≤ (mput m k v).length := by
 induction m with
 | nil => simp [mput]
 | cons p r ih => obtain ⟨a, u⟩ := p; unfold mput; split <;> simp only [List.length_cons] <;> omega
theorem MapObj.lt {w : World} {b : Nat} (h : MapObj w.heap[b]? es) : b < w.heap.size := by obtain ⟨_, _, hb, _⟩ := h; exact (Array.getElem?_eq_some_iff.1 hb).1
theorem fnd_at (k : κ) : ∀ (es : List MapEntry) (m : List (κ × β)) (i : Nat), es.map (fun e => (e.key, e.val)) = m.map (fun p => (emb p.1, g p.2)) →
  (match fnd k es (m.map (·.1)) i with
   | some p => ∃ j e, p = (i + j, e.val) ∧ es[j]? = some e ∧ e.key = emb k ∧ ∀ v : β, (es.modify j fun e => { e with val := g v }).map (fun e => (e.key, e.val)) = (mput m k v).map (fun p => (emb p.1, g p.2))
   | none => ∀ v : β, (es.map (fun e => (e.key, e.val))) ++ [(emb k, g v)] = (mput m k v).map (fun p => (emb p.1, g p.2)))
 | [], [], i, h => fun v => rfl
 | [], p :: m, i, h => by simp at h
 | e :: es, [], i, h => by simp at h
 | e :: es, p :: m, i, h => by
  simp only [List.map_cons, List.cons.injEq, Prod.mk.injEq] at h
  have ih := fnd_at k es m (i + 1) h.2
  simp only [List.map_cons, fnd, mput]
  by_cases hp : p.1 = k
  ·simp only [hp, if_true]
   exact ⟨0, e, rfl, rfl, by rw [h.1.1, hp], fun v => by simp [h.2, h.1.1, hp]⟩
  ·simp only [hp, if_false]
   cases hq : fnd k es (m.map (·.1)) (i + 1) with
   | some r =>
    rw [hq] at ih
    obtain ⟨j, e', h1, h2, h3, h4⟩ := ih
    exact ⟨j + 1, e', by rw [h1]; congr 1; omega, by simpa using h2, h3, fun v => by simp [h.1.1, h.1.2, h4 v]⟩
   | none => rw [hq] at ih; intro v; simp only [List.cons_append, List.map_cons, ih v, h.1.1, h.1.2]
def lookIs (P : Program) (t b : Nat) (kv v : Value) (o : Obj) : Prop := ∀ w : World, w.heap[b]? = some o → (Instr.lookup t (.map (some b)) kv false).run P w = .ok v w
theorem lookIs_of {t kt et : Nat} (ht : P.underlying t = some (.map kt et)) (hk : KeyOk P kt emb) (hz : ∀ w, (zeroValue et).run P w = .ok (g z) w) (hm : MapObj (some o) (mapL emb g m)) : lookIs P t b (emb k) (g ((mget m k).getD z)) o := by
 obtain ⟨e0, c0, ho, h4, -, -⟩ := hm
 injection ho with ho
 subst ho
 intro w hb
 have hf := hk.find k e0.toList _ (keys_of h4) w
 have hg := fnd_mget (emb := emb) (g := g) k e0.toList m 0 h4
 simp only [Instr.lookup, Sem.run_bind, run_underlying ht, Result.andThen_ok, run_getMap hb, Sem.run_pure, hk.check, hf]
 cases hq : fnd k e0.toList (m.map (·.1)) 0 with
 | some p => rw [hq] at hg; cases hm : mget m k with
  | some v => rw [hm] at hg; simp at hg; simp [hg]
  | none => rw [hm] at hg; simp at hg
 | none => rw [hq] at hg; cases hm : mget m k with
  | some v => rw [hm] at hg; simp at hg
  | none => simp [hz w, Result.andThen_ok]
theorem yLookupP {t b i : Nat} (hO : O[i]? = some (.pred b (lookIs P t b kv v))) (hx : ev E x = some (.map (some b))) (hy : ev E y = some kv) : Yl P n E H O ⟨dst, .lookup t x y false, ty, pos, af, gd⟩ v := by
 intro a w ha hs
 obtain ⟨o, hb, hp⟩ : ∃ o, w.heap[b]? = some o ∧ lookIs P t b kv v o := hs.own _ (mG hO)
 simp only [execOp, ha.eval hx, ha.eval hy, Sem.run_bind, hp w hb, Result.andThen_ok, Sem.run_pure]
theorem St.setSat {w : World} {j : Nat} {h' : HL} (hs : St H O w) (hj : O[j]? = some h) (hf : h'.fp = h.fp) (hsat : h.sat w → h'.sat w) : St H (O.set j h') w := by
 have h1 : St H ([h] ++ O.eraseIdx j) w := hs.perm (perm_at hj).symm
 have h2 : St H ([h'] ++ O.eraseIdx j) w := by
  have e : fps ([h'] ++ O.eraseIdx j) = fps ([h] ++ O.eraseIdx j) := by simp [fps, hf]
  refine ⟨h1.ghost, fun x hx => ?_, by rw [e]; exact h1.apart, by rw [e]; exact h1.nodup⟩
  rcases List.mem_append.1 hx with hx | hx
  ·simp only [List.mem_singleton] at hx; subst hx; exact hsat (h1.own h (by simp))
  ·exact h1.own x (List.mem_append_right _ hx)
 exact h2.perm (perm_set hj)
theorem keepsMap {Os Om : List HL} {b j : Nat} {es : List (Value × Value)} {p : Obj → Prop} (l : List Nat) (hl : l.Pairwise (· < ·)) (hO : pick O l = Om) (hle : Ghost.le Hs H) (hj : Om[j]? = some (.map b es)) (hp : ∀ o, MapObj (some o) es → p o) (hs : Om.set j (.pred b p) = Os) : ∀ w, St H O w → St Hs Os w := by
 intro w h
 subst hs
 refine St.setSat (keeps l hl hO hle w h) hj rfl ?_
 rintro ⟨e0, c0, h1, h2⟩
 exact ⟨_, h1, hp _ ⟨e0, c0, rfl, h2⟩⟩
theorem keepsObj {Os Om : List HL} {b j : Nat} {o : Obj} {p : Obj → Prop} (l : List Nat) (hl : l.Pairwise (· < ·)) (hO : pick O l = Om) (hle : Ghost.le Hs H) (hj : Om[j]? = some (.obj b o)) (hp : p o) (hs : Om.set j (.pred b p) = Os) : ∀ w, St H O w → St Hs Os w := by
 intro w h
 subst hs
 exact St.setSat (keeps l hl hO hle w h) hj rfl fun h1 => ⟨_, h1, hp⟩
def StampOk (P : Program) (t b : Nat) (emb : κ → Value) (g : β → Value) (z : β) (m : List (κ × β)) (k : κ) (o : Obj) (stamp : Int) : Prop :=
 lookIs P t b (emb k) (g ((mget m k).getD z)) o ∧ ∀ (v : β) (w : World), w.heap[b]? = some o → ∃ o', (Instr.entryStore t (.map (some b)) (.int .i64 stamp) (g v)).run P w = .ok () { w with heap := w.heap.setIfInBounds b o' } ∧ MapObj (some o') (mapL emb g (mput m k v))
theorem run_entryStore {t b : Nat} {ents : Array MapEntry} {clock j : Nat} {w : World} (hb : w.heap[b]? = some (.map ents clock)) (hp : ents.toList.Pairwise (fun a b => a.born < b.born)) (hj : ents.toList[j]? = some e) :
  (Instr.entryStore t (.map (some b)) (.int .i64 e.born) v).run P w = .ok () { w with heap := w.heap.setIfInBounds b (.map (ents.modify j fun e => { e with val := v }) clock) } := by
 have hf : ents.findIdx? (fun e' => ((e'.born : Nat) : Int) == (e.born : Int)) = some j := by
  rw [Array.findIdx?_eq_some_iff_getElem]
  obtain ⟨hl, he⟩ := gE hj
  have h4 : j < ents.size := by simpa using hl
  have h5 : ents[j] = e := by simpa using he
  refine ⟨h4, by simp [h5], fun q hq => ?_⟩
  rw [List.pairwise_iff_getElem] at hp
  have := hp q j oM hl hq
  rw [he] at this
  simp at this ⊢
  omega
 simp only [Instr.entryStore, Sem.run_bind, run_getMap hb, Result.andThen_ok, asInt, asIntOf, Sem.run_pure, hf, MapKept.run_setObj_map _ hb]
theorem tMapEntry {t kt et b i d : Nat} (ht : P.underlying t = some (.map kt et)) (hk : KeyOk P kt emb) (hz : ∀ w, (zeroValue et).run P w = .ok (g z) w) (hO : O[i]? = some (.map b (mapL emb g m))) (hx : ev E x = some (.map (some b))) (hy : ev E y = some (emb k)) (hd : d < n) (h : ∀ (u : Value) (stamp : Int) (o : Obj), StampOk P t b emb g z m k o stamp → TK n I K ((d, .tuple #[u, .int .i64 stamp]) :: E) H (O.set i (.obj b o))) :
  TK n I (OpK P ⟨some d, .mapEntry t x y, ty, pos, af, gd⟩ K Q) E H O := by
 refine TK.run rfl hd fun a w ha hs => ?_
 have hm : MapObj w.heap[b]? (mapL emb g m) := hs.own _ (mG hO)
 have c1 := hm.lt
 obtain ⟨e0, c0, hb, b4, hp, hc⟩ := hm
 have hf := hk.find k e0.toList _ (keys_of b4) w
 have hq := fnd_at (emb := emb) (g := g) k e0.toList m 0 b4
 have h8 : ∀ o, (setObj b o).run P w = .ok () { w with heap := w.heap.setIfInBounds b o } := fun o => MapKept.run_setObj_map o hb
 cases hr : fnd k e0.toList (m.map (·.1)) 0 with
 | some p =>
  rw [hr] at hq
  obtain ⟨j, e, h1, h2, h3, h4⟩ := hq
  have d1 : e0[j]? = some e := by rw [← Array.getElem?_toList]; exact h2
  have b8 : (e0.modify j fun e => { e with key := emb k }) = e0 := by
   apply Array.ext'
   rw [Array.toList_modify]
   apply List.ext_getElem?
   intro q
   rw [List.getElem?_modify]
   by_cases hqj : j = q
   ·subst hqj; rw [h2]; simp [← h3]
   ·simp [hqj]
  refine ⟨_, { w with heap := w.heap.setIfInBounds b (.map e0 c0) }, H, _, ?_, Step.set_ (h' := .obj b (.map e0 c0)) hs hO (fun h0 => Step.setObj (b := b) (o := .map e0 c0) h0 rfl rfl (by show _ = _; simp [c1])), h e.val e.born (.map e0 c0) ⟨lookIs_of ht hk hz ⟨e0, c0, rfl, b4, hp, hc⟩, ?_⟩⟩
  ·have b9 : p.1 = j ∧ p.2 = e.val := by rw [h1]; exact ⟨by omega, rfl⟩
   obtain ⟨p1, p2⟩ := p
   simp only at b9
   obtain ⟨rfl, rfl⟩ := b9
   simp only [execOp, ha.eval hx, ha.eval hy, Instr.mapEntry, Sem.run_bind, run_underlying ht, Result.andThen_ok, run_getMap hb, hk.check, hf, hr, d1, Option.map_some, Option.getD_some, h3, Instr.keyThatStays, hk.bits, if_true, Sem.run_pure, b8, h8, goInt]
  ·intro v w2 b5
   exact ⟨_, run_entryStore b5 hp h2, MapObj.modify (fun _ => rfl) hp hc (h4 v)⟩
 | none =>
  rw [hr] at hq
  have b6 : (e0.push ⟨emb k, g z, c0⟩).toList.Pairwise (fun a b => a.born < b.born) := by
   simp only [Array.toList_push, List.pairwise_append]
   exact ⟨hp, by simp, fun a ha b hb => by simp only [List.mem_singleton] at hb; subst hb; exact hc a ha⟩
  have d0 : ∀ e ∈ (e0.push ⟨emb k, g z, c0⟩).toList, e.born < c0 + 1 := fun e h9 => by
   simp only [Array.toList_push, List.mem_append, List.mem_singleton] at h9
   rcases h9 with h9 | rfl
   ·have := hc e h9; omega
   ·simp
  have b7 : (e0.push ⟨emb k, g z, c0⟩).toList[e0.size]? = some ⟨emb k, g z, c0⟩ := by simp
  refine ⟨_, { w with heap := w.heap.setIfInBounds b (.map (e0.push ⟨emb k, g z, c0⟩) (c0 + 1)) }, H, _, ?_, Step.set_ (h' := .obj b (.map (e0.push ⟨emb k, g z, c0⟩) (c0 + 1))) hs hO (fun h0 => Step.setObj (b := b) (o := .map (e0.push ⟨emb k, g z, c0⟩) (c0 + 1)) h0 rfl rfl (by show _ = _; simp [c1])), h (g z) c0 _ ⟨?_, ?_⟩⟩
  ·simp only [execOp, ha.eval hx, ha.eval hy, Instr.mapEntry, Sem.run_bind, run_underlying ht, Result.andThen_ok, run_getMap hb, hk.check, hf, hr, hz, h8, goInt, Sem.run_pure]
  ·have d2 : (mget m k).getD z = (mget (mput m k z) k).getD z := by
    rw [mget_mput, if_pos rfl]
    have h6 := fnd_mget (emb := emb) (g := g) k e0.toList m 0 b4
    rw [hr] at h6
    cases h7 : mget m k with
    | none => rfl
    | some v => rw [h7] at h6; simp at h6
   rw [d2]
   exact lookIs_of ht hk hz ⟨_, _, rfl, by simpa [mapL] using hq z, b6, d0⟩
  ·intro v w2 b5
   refine ⟨_, run_entryStore (e := ⟨emb k, g z, c0⟩) b5 b6 b7, MapObj.modify (fun _ => rfl) b6 d0 ?_⟩
   have hl : e0.toList.length = e0.size := by simp
   have e1 : ((e0.push ⟨emb k, g z, c0⟩).toList.modify e0.size fun e => { e with val := g v }) = e0.toList ++ [⟨emb k, g v, c0⟩] := by
    apply List.ext_getElem?
    intro q
    rw [List.getElem?_modify, Array.toList_push]
    by_cases hq1 : e0.size = q
    ·subst hq1; simp
    ·simp only [hq1, if_false, Option.map_id', id_eq]
     rcases Nat.lt_or_ge q e0.size with h5 | h5
     ·rw [List.getElem?_append_left oM, List.getElem?_append_left oM]; simp
     ·rw [List.getElem?_append_right oM, List.getElem?_append_right oM]
      have : q - e0.toList.length = (q - e0.toList.length - 1) + 1 := by omega
      rw [this]; simp
   rw [e1]
   simpa [mapL] using hq v
theorem tEntryStore {t i : Nat} (hst : StampOk P t b emb g z0 m k o stamp) (hO : O[i]? = some (.obj b o)) (hx : ev E x = some (.map (some b))) (hy : ev E y = some (.int .i64 stamp)) (hz : ev E z = some (g v)) (h : TK n I K E H (O.set i (.map b (mapL emb g (mput m k v))))) : TK n I (OpK P ⟨none, .entryStore t x y z, ty, pos, af, gd⟩ K Q) E H O := by
 refine TK.runSkip rfl fun a w ha hs => ?_
 have hb : w.heap[b]? = some o := hs.own _ (mG hO)
 have h4 : b < w.heap.size := (Array.getElem?_eq_some_iff.1 hb).1
 obtain ⟨o', hr, ho⟩ := hst.2 v w hb
 refine ⟨_, H, _, ?_, Step.set_ hs hO (fun h0 => Step.setObj (b := b) (o := o') h0 rfl rfl ?_), h⟩
 ·simp only [execOp, ha.eval hx, ha.eval hy, ha.eval hz, Sem.run_bind, hr, Result.andThen_ok, Sem.run_pure]
 ·show MapObj _ _
  simp only [Array.getElem?_setIfInBounds_self_of_lt h4]
  exact ho
end
section
variable {P : Program} {n : Nat} {I : Init} {K : Act → World → Prop} {E : Env} {H : Ghost} {O : List HL} {Q : Exit → Act → World → Prop}
 {dst : Option Nat} {ty : TypeId} {pos : String} {af : Array Edge} {gd : Option (Nat × Bool)}
theorem St.trade {O A F : List HL} {w : World} (h : St H O w) (hp : O.Perm (A ++ F)) (hf : (fps A).Perm (fps B)) (hs : (∀ x ∈ A, x.sat w) → ∀ x ∈ B, x.sat w) : St H (B ++ F) w := by
 have h1 := h.perm hp
 have e : (fps (A ++ F)).Perm (fps (B ++ F)) := by rw [fps_append, fps_append]; exact hf.append_right _
 refine ⟨h1.ghost, fun x hx => ?_, fun b hb => h1.apart b (e.mem_iff.2 hb), e.nodup_iff.1 h1.nodup⟩
 rcases List.mem_append.1 hx with hx | hx
 ·exact hs (fun y hy => h1.own y (List.mem_append_left _ hy)) x hx
 ·exact h1.own x (List.mem_append_right _ hx)
theorem TK.trade (h1 : ∀ w, St H O w → St H O' w) (h2 : ∀ b ∈ fps O', b ∈ fps O) (h : TK n I K E H O') : TK n I K E H O := by
 refine TK.step fun w hs => ⟨H, O', ?_, h⟩
 exact ⟨h1 w hs, Ghost.le.refl _, rfl, rfl, rfl, Nat.le_refl _, fun _ _ _ => rfl, fun b o hb => .inl (by rw [hb]; simp), fun b hb => .inl (h2 b hb), fun _ => Nat.le_refl _⟩
abbrev RowT := Value × Nat × LV
def rowH (e k : Nat) (x : RowT) : HL := .row e k x.1 x.2.1 x.2.2
theorem fps_rows {l : List RowT} : fps [HL.rows e k l] = l.flatMap fun x => vblk x.1 := by simp [fps, HL.fp]
theorem flat_perm {l : List RowT} (h : l.Perm l') : (l.flatMap fun x => vblk x.1).Perm (l'.flatMap fun x => vblk x.1) := h.flatMap_right _
theorem eraseIdx_perm {α : Type} {l : List α} {i : Nat} {x : α} (h : l[i]? = some x) : (x :: l.eraseIdx i).Perm l := perm_at h
theorem set_perm' {α : Type} {l : List α} {i : Nat} {x y : α} (h : l[i]? = some x) : (y :: l.eraseIdx i).Perm (l.set i y) := perm_set h
theorem St.rowOut {e k q i : Nat} {l : List RowT} {w : World} (hO : O[q]? = some (.rows e k l)) (hi : l[i]? = some x) (h : St H O w) : St H (rowH e k x :: O.set q (.rows e k (l.eraseIdx i))) w := by
 have h1 : St H ([rowH e k x, .rows e k (l.eraseIdx i)] ++ O.eraseIdx q) w := by
  refine h.trade (A := [.rows e k l]) (perm_at hO).symm ?_ ?_
  ·have : fps [rowH e k x, .rows e k (l.eraseIdx i)] = (x :: l.eraseIdx i).flatMap fun x => vblk x.1 := by simp [fps, HL.fp, rowH]
   rw [this, fps_rows]
   exact flat_perm (eraseIdx_perm hi).symm
  ·intro hs y hy
   have hr : ∀ z ∈ l, w.ownsRow 0 e k z.1 z.2.1 z.2.2 := hs (.rows e k l) (by simp)
   simp only [List.mem_cons, List.mem_nil_iff, or_false] at hy
   rcases hy with rfl | rfl
   ·exact hr x (mG hi)
   ·exact fun z hz => hr z (List.mem_of_mem_eraseIdx hz)
 exact h1.perm ((perm_set (h' := HL.rows e k (l.eraseIdx i)) hO).cons (rowH e k x))
theorem St.rowIn {e k q i : Nat} {l : List RowT} {w : World} (hO : O[q]? = some (.rows e k l)) (hi : l[i]? = some x) (h : St H (rowH e k y :: O.set q (.rows e k (l.eraseIdx i))) w) : St H (O.set q (.rows e k (l.set i y))) w := by
 have h1 : St H ([.rows e k (l.set i y)] ++ O.eraseIdx q) w := by
  refine h.trade (A := [rowH e k y, .rows e k (l.eraseIdx i)]) ((perm_set (h' := .rows e k (l.eraseIdx i)) hO).symm.cons _) ?_ ?_
  ·have : fps [rowH e k y, .rows e k (l.eraseIdx i)] = (y :: l.eraseIdx i).flatMap fun x => vblk x.1 := by simp [fps, HL.fp, rowH]
   rw [this, fps_rows]
   exact flat_perm (set_perm' hi)
  ·intro hs z hz
   simp only [List.mem_singleton] at hz
   subst hz
   have ha : w.ownsRow 0 e k y.1 y.2.1 y.2.2 := hs (rowH e k y) (by simp)
   have hb : ∀ z ∈ l.eraseIdx i, w.ownsRow 0 e k z.1 z.2.1 z.2.2 := hs (.rows e k (l.eraseIdx i)) (by simp)
   intro z hz
   rcases List.mem_cons.1 ((set_perm' (y := y) hi).mem_iff.2 hz) with rfl | hz
   ·exact ha
   ·exact hb z hz
 exact h1.perm (perm_set hO)
theorem rowsAdd {q : Nat} {l : List RowT} {O1 : List HL} (hx : O1 = rowH e k x :: O) (hO : O[q]? = some (.rows e k l)) (h : TK n I K E H (O.set q (.rows e k (l ++ [x])))) : TK n I K E H O1 := by
 subst hx
 have h4 : (fps [rowH e k x, .rows e k l]).Perm (fps [.rows e k (l ++ [x])]) := by
  have : fps [rowH e k x, .rows e k l] = (x :: l).flatMap fun x => vblk x.1 := by simp [fps, HL.fp, rowH]
  rw [this, fps_rows]
  exact flat_perm (by have := (List.perm_append_comm (l₁ := [x]) (l₂ := l)); simpa using this)
 refine TK.trade (O' := O.set q (.rows e k (l ++ [x]))) (fun w hs => ?_) (fun b hb => ?_) h
 ·have h1 : St H ([.rows e k (l ++ [x])] ++ O.eraseIdx q) w := by
   refine hs.trade (A := [rowH e k x, .rows e k l]) ((perm_at hO).symm.cons _) h4 ?_
   intro hs z hz
   simp only [List.mem_singleton] at hz
   subst hz
   have ha : w.ownsRow 0 e k x.1 x.2.1 x.2.2 := hs (rowH e k x) (by simp)
   have hb : ∀ z ∈ l, w.ownsRow 0 e k z.1 z.2.1 z.2.2 := hs (.rows e k l) (by simp)
   intro z hz
   rcases List.mem_append.1 hz with hz | hz
   ·exact hb z hz
   ·simp only [List.mem_singleton] at hz; subst hz; exact ha
  exact h1.perm (perm_set hO)
 ·have h1 := (fps_perm (perm_set (h' := HL.rows e k (l ++ [x])) hO)).mem_iff.2 hb
  rw [fps_append] at h1
  rcases List.mem_append.1 h1 with h1 | h1
  ·have h2 := h4.mem_iff.2 h1
   rw [show [rowH e k x, HL.rows e k l] = [rowH e k x] ++ [HL.rows e k l] from rfl, fps_append] at h2
   rw [fps_cons]
   rcases List.mem_append.1 h2 with h2 | h2
   ·exact List.mem_append_left _ (by simpa [fps] using h2)
   ·exact List.mem_append_right _ ((fps_perm (perm_at hO)).mem_iff.1 (by rw [fps_append]; exact List.mem_append_left _ h2))
  ·rw [fps_cons]
   exact List.mem_append_right _ ((fps_perm (perm_at hO)).mem_iff.1 (by rw [fps_append]; exact List.mem_append_right _ h1))
theorem newRows (e k : Nat) (h : TK n I K E H (.rows e k [] :: O)) : TK n I K E H O := by
 refine TK.trade (O' := .rows e k [] :: O) (fun w hs => ⟨hs.ghost, fun x hx => ?_, by simpa [fps, HL.fp] using hs.apart, by simpa [fps, HL.fp] using hs.nodup⟩) (by simp [fps, HL.fp]) h
 rcases List.mem_cons.1 hx with rfl | hx
 ·exact fun z hz => by simp at hz
 ·exact hs.own x hx
theorem Mem.rows1 {q i b m c off e k : Nat} {l : List RowT} {arr : LV} (hO : O[q]? = some (.rows e k l)) (hi : l[i]? = some (.slice (some ⟨b, 0, none⟩) m c, m, arr)) (hc : arr[off]? = some v) : Mem H O b off [v] := by
 intro w hs j u hj
 have hr : ∀ z ∈ l, w.ownsRow 0 e k z.1 z.2.1 z.2.2 := hs.own (.rows e k l) (mG hO)
 have hb := hr _ (mG hi)
 have h4 : j < 1 := (gE hj).1
 obtain rfl : j = 0 := by omega
 simp only [List.getElem?_cons_zero, Option.some.injEq] at hj
 subst hj
 have := hb.cells (g := b) rfl off v hc
 rwa [addr_add, Nat.zero_add] at this
theorem tStoreRows1 {q i t b off e k' m c : Nat} {l : List RowT} {arr : LV} (hO : O[q]? = some (.rows e k' l)) (hi : l[i]? = some (.slice (some ⟨b, 0, none⟩) m c, m, arr)) (hz : Sz P t 1) (hx : ev E x = some (.pointer (some ⟨b, off, none⟩))) (hy : ev E y = some v) (hv : v.oneCell' = true) (ho : off < arr.length) (h : TK n I K E H (O.set q (.rows e k' (l.set i (.slice (some ⟨b, 0, none⟩) m c, m, arr.set off v))))) : TK n I (OpK P ⟨none, .store t x y, ty, pos, af, gd⟩ K Q) E H O := by
 refine TK.runSkip rfl fun a w ha hs => ?_
 have b7 := St.rowOut hO hi hs
 have c0 : [v].length = 1 := rfl
 have b5 := b7.own _ (List.mem_cons_self ..)
 obtain ⟨all, hb, hlen, h7⟩ := ownsRow_set (off := off) (cs := [v]) b5 (by show off + 1 ≤ arr.length; omega)
 have b8 : v.cells = [v].toArray := cells_one hv
 have h6 := StepG.set_ (D := True) (i := 0) (h' := rowH e k' (.slice (some ⟨b, 0, none⟩) m c, m, arr.take off ++ [v] ++ arr.drop (off + 1))) b7 rfl (fun h0 => Step.setRow (b := b) (cs := (all.take off ++ [v] ++ all.drop (off + 1)).toArray) h0 rfl rfl h7)
 have e1 : arr.set off v = arr.take off ++ [v] ++ arr.drop (off + 1) := by rw [List.set_eq_take_append_cons_drop, if_pos ho]; simp
 refine ⟨w.setRow b (all.take off ++ [v] ++ all.drop (off + [v].length)).toArray, H, _, ?_, ?_, h⟩
 ·simp only [execOp, ha.eval hx, ha.eval hy, Sem.run_bind, run_storeA hz b8 rfl (by simpa using hv) hb hlen, Result.andThen_ok, Sem.run_pure]
  rfl
 ·have b4 : St H (O.set q (.rows e k' (l.set i (.slice (some ⟨b, 0, none⟩) m c, m, arr.set off v)))) (w.setRow b (all.take off ++ [v] ++ all.drop (off + [v].length)).toArray) := by
   rw [e1]
   exact St.rowIn hO hi h6.st
  have h9 : ∀ g, g ∈ fps (rowH e k' (.slice (some ⟨b, 0, none⟩) m c, m, arr) :: O.set q (.rows e k' (l.eraseIdx i))) → g ∈ fps O := by
   intro g hg
   have b9 : (fps [rowH e k' (.slice (some ⟨b, 0, none⟩) m c, m, arr), HL.rows e k' (l.eraseIdx i)]).Perm (fps [HL.rows e k' l]) := by
    have : fps [rowH e k' (.slice (some ⟨b, 0, none⟩) m c, m, arr), HL.rows e k' (l.eraseIdx i)] = ((.slice (some ⟨b, 0, none⟩) m c, m, arr) :: l.eraseIdx i).flatMap fun x : RowT => vblk x.1 := by simp [fps, HL.fp, rowH]
    rw [this, fps_rows]
    exact flat_perm (eraseIdx_perm hi)
   have h3 := (fps_perm ((perm_set (h' := HL.rows e k' (l.eraseIdx i)) hO).cons (rowH e k' (.slice (some ⟨b, 0, none⟩) m c, m, arr)))).mem_iff.2 hg
   have h3 : g ∈ fps ([rowH e k' (.slice (some ⟨b, 0, none⟩) m c, m, arr), HL.rows e k' (l.eraseIdx i)] ++ O.eraseIdx q) := h3
   rw [fps_append] at h3
   refine (fps_perm (perm_at hO)).mem_iff.1 ?_
   rw [fps_append]
   rcases List.mem_append.1 h3 with h3 | h3
   ·exact List.mem_append_left _ (b9.mem_iff.1 h3)
   ·exact List.mem_append_right _ h3
  have b6 : ∀ g, g ∈ fps (O.set q (.rows e k' (l.set i (.slice (some ⟨b, 0, none⟩) m c, m, arr.set off v)))) → g ∈ fps O := by
   intro g hg
   have h3 := (fps_perm (perm_set (h' := HL.rows e k' (l.set i (.slice (some ⟨b, 0, none⟩) m c, m, arr.set off v))) hO)).mem_iff.2 hg
   rw [fps_append] at h3
   refine (fps_perm (perm_at hO)).mem_iff.1 ?_
   rw [fps_append]
   rcases List.mem_append.1 h3 with h3 | h3
   ·refine List.mem_append_left _ ?_
    rw [fps_rows] at h3 ⊢
    have h4 := (flat_perm (set_perm' (y := (.slice (some ⟨b, 0, none⟩) m c, m, arr.set off v)) hi)).mem_iff.2 h3
    have h5 := (flat_perm (eraseIdx_perm hi)).mem_iff (a := g)
    refine h5.1 ?_
    simpa using h4
   ·exact List.mem_append_right _ h3
  have h8 := h6.old
  exact ⟨b4, Ghost.le.refl _, rfl, rfl, rfl, h6.size, fun g hg hn => h8 g hg fun h5 => hn (h9 g h5), fun g o hg => .inl (by rw [hg]; simp), fun g hg => .inl (b6 g hg), fun _ => Nat.le_refl _⟩
theorem tSealRows {α : Type} {r : Rep α} {e : Nat} (hk : 0 < r.k) : ∀ {l : List RowT} {xs : List (List α)} {H : Ghost} {O : List HL} {q : Nat}, l.length = xs.length → O[q]? = some (.rows e r.k l) →
  (∀ (i : Nat) (x : RowT) (ys : List α), l[i]? = some x → xs[i]? = some ys → (∃ B c, x.1 = .slice B x.2.1 c) ∧ Reps r H ys x.2.2 ∧ x.2.1 ≤ 140737488355328) →
  (∀ H', Ghost.le H H' → (∀ (i : Nat) (B : OA) (m c : Nat) (cs : LV) (ys : List α), l[i]? = some (.slice B m c, m, cs) → xs[i]? = some ys → Sl r H' ys B m c) → TK n I K E H' (O.eraseIdx q)) → TK n I K E H O
 | [], xs, H, O, q, _, hO, hrep, h => by
  have h1 := h H (Ghost.le.refl _) (fun i B m c cs ys hi => by simp at hi)
  refine TK.step fun w hs => ⟨H, O.eraseIdx q, ?_, h1⟩
  exact (Step.refl hs).sub (List.eraseIdx_sublist _ _)
 | x :: l, [], H, O, q, hlen, hO, hrep, h => by simp at hlen
 | x :: l, ys :: xs, H, O, q, hlen, hO, hrep, h => by
  obtain ⟨⟨B, c, h7⟩, hr, hb⟩ := hrep 0 x ys rfl rfl
  obtain ⟨xv, xm, xc⟩ := x
  simp only at h7 hr hb
  subst h7
  have hq : q < O.length := (gE hO).1
  have h9 : ∀ b ∈ fps (rowH e r.k (.slice B xm c, xm, xc) :: O.set q (.rows e r.k l)), b ∈ fps O := by
   intro g hg
   have b4 : (fps [rowH e r.k (.slice B xm c, xm, xc), HL.rows e r.k l]).Perm (fps [HL.rows e r.k ((.slice B xm c, xm, xc) :: l)]) := by
    have : fps [rowH e r.k (.slice B xm c, xm, xc), HL.rows e r.k l] = ((.slice B xm c, xm, xc) :: l).flatMap fun x : RowT => vblk x.1 := by simp [fps, HL.fp, rowH]
    rw [this, fps_rows]
   have h3 := (fps_perm ((perm_set (h' := HL.rows e r.k l) hO).cons (rowH e r.k (.slice B xm c, xm, xc)))).mem_iff.2 hg
   have h3 : g ∈ fps ([rowH e r.k (.slice B xm c, xm, xc), HL.rows e r.k l] ++ O.eraseIdx q) := h3
   rw [fps_append] at h3
   refine (fps_perm (perm_at hO)).mem_iff.1 ?_
   rw [fps_append]
   rcases List.mem_append.1 h3 with h3 | h3
   ·exact List.mem_append_left _ (b4.mem_iff.1 h3)
   ·exact List.mem_append_right _ h3
  refine TK.trade (O' := rowH e r.k (.slice B xm c, xm, xc) :: O.set q (.rows e r.k l)) (fun w hs => St.rowOut (i := 0) hO rfl hs) h9 ?_
  refine tSealRow (i := 0) (r := r) (ys := ys) rfl hr hk hb fun H1 h5 h8 => ?_
  rw [List.eraseIdx_cons_zero]
  refine tSealRows (r := r) (e := e) hk (l := l) (xs := xs) (q := q) (by simpa using hlen) (by simp [hq]) (fun i x zs hi hz => ?_) fun H2 h4 h6 => ?_
  ·obtain ⟨h1, h2, h3⟩ := hrep (i + 1) x zs (by simpa using hi) (by simpa using hz)
   exact ⟨h1, h2.mono h5, h3⟩
  ·rw [List.eraseIdx_set_eq]
   refine h H2 (h5.trans h4) fun i B' m' c' c0 zs hi hz => ?_
   cases i with
   | zero =>
    simp only [List.getElem?_cons_zero, Option.some.injEq, Prod.mk.injEq, Value.slice.injEq] at hi hz
    obtain ⟨⟨rfl, rfl, rfl⟩, _, rfl⟩ := hi
    subst hz
    exact h8.mono h4
   | succ i => exact h6 i B' m' c' c0 zs (by simpa using hi) (by simpa using hz)
def matL (k : Nat) (bs : List Nat) (M : List (List Bool)) : List RowT := List.zipWith (fun b r => (.slice (some ⟨b, 0, none⟩) k k, k, r.map .bool)) bs M
def matO (k : Nat) (bs : List Nat) : LV := bs.map fun b => .slice (some ⟨b, 0, none⟩) k k
theorem matL_at {bs : List Nat} {M : List (List Bool)} {i : Nat} (hb : bs[i]? = some b) (hM : M[i]? = some r) : (matL k bs M)[i]? = some (.slice (some ⟨b, 0, none⟩) k k, k, r.map .bool) := by
 simp [matL, List.getElem?_zipWith, hb, hM]
theorem matO_at {bs : List Nat} {i : Nat} (hb : bs[i]? = some b) : (matO k bs)[0 + i * 1]? = some (.slice (some ⟨b, 0, none⟩) k k) := by
 rw [Nat.zero_add, Nat.mul_one]; simp [matO, hb]
theorem matL_set {bs : List Nat} {M : List (List Bool)} {i : Nat} {r : List Bool} (hb : bs[i]? = some b) (hM : i < M.length) : (matL k bs M).set i (.slice (some ⟨b, 0, none⟩) k k, k, r.map .bool) = matL k bs (M.set i r) := by
 apply List.ext_getElem?
 intro j
 have h4 := (gE hb).1
 rw [List.getElem?_set]
 by_cases hij : i = j
 ·subst hij
  have hl : i < (matL k bs M).length := by simp [matL]; omega
  rw [if_pos rfl, if_pos hl, matL_at (r := r) hb (by simp [hM])]
 ·rw [if_neg hij]
  simp [matL, List.getElem?_zipWith, List.getElem?_set, hij]
theorem tSealMat {k p q c : Nat} {B : OA} (hpq : p ≠ q) (hO : O[p]? = some (.row 78 1 (.slice B k c) k (matO k bs))) (hR : O[q]? = some (.rows 4 1 (matL k bs M))) (hb : bs.length = k) (hM : M.length = k) (hrow : ∀ r ∈ M, r.length = k) (hk : k ≤ 1000000) (h : ∀ H', Ghost.le H H' → Sl (rSl rBool) H' M B k c → TK n I K E H' ((O.eraseIdx q).eraseIdx (if p < q then p else p - 1))) : TK n I K E H O := by
 refine tSealRows (r := rBool) dC (l := matL k bs M) (xs := M) (q := q) (by simp [matL, hb, hM]) hR (fun i x ys hi hy => ?_) fun H1 hle h6 => ?_
 ·have h8 : i < bs.length := by rw [hb, ← hM]; exact (gE hy).1
  rw [matL_at (List.getElem?_eq_getElem h8) hy] at hi
  cases hi
  exact ⟨⟨_, _, rfl⟩, repsB ys, by simp; omega⟩
 ·have hlen : (O.eraseIdx q)[if p < q then p else p - 1]? = some (.row 78 1 (.slice B k c) k (matO k bs)) := by
   by_cases h1 : p < q
   ·rw [if_pos h1, List.getElem?_eraseIdx, if_pos h1]; exact hO
   ·rw [if_neg h1, List.getElem?_eraseIdx, if_neg oM, show p - 1 + 1 = p by omega]; exact hO
  have h4 : Reps (rSl rBool) H1 M (matO k bs) := by
   have k0 : ∀ (bs : List Nat) (M : List (List Bool)), bs.length = M.length → (∀ (i : Nat) (b : Nat) (ys : List Bool), bs[i]? = some b → M[i]? = some ys → Sl rBool H1 ys (some ⟨b, 0, none⟩) k k) → Reps (rSl rBool) H1 M (matO k bs) := by
    intro bs
    induction bs with
    | nil => intro M h1 _; cases M with
     | nil => exact .nil
     | cons _ _ => simp at h1
    | cons b bs ih => intro M h1 h2; cases M with
     | nil => simp at h1
     | cons r M => exact Reps.cons (r := rSl rBool) (c := [_]) ⟨_, _, _, rfl, h2 0 b r rfl rfl⟩ (ih M (by simpa using h1) fun i b ys hi hy => h2 (i + 1) b ys (by simpa using hi) (by simpa using hy))
   refine k0 bs M oM fun i b ys hi hy => h6 i _ k k _ ys (matL_at hi hy) hy
  exact tSealRow (r := rSl rBool) (ys := M) hlen h4 dC oM fun H2 h5 h7 => h H2 (hle.trans h5) h7
theorem TK.callRO {D : Prop} (hDD : I.D → D) {o : Oper} {f : FuncId} {args : Array Value} {Oc F : List HL} {R : Value → Prop} (hp : (Oc ++ F).Perm O) (hd : o.dst = some d) (hn : Nat.blt d n = true) (he : ∀ a w, EnvOk n E a → (execOp a.eval o).run P w = .ok (.enter f args) w) (hc : CtG D P f args H Oc fun v H' O' => O' = Oc ∧ R v) (h : ∀ v, R v → TK n I K ((d, v) :: E) H O) : TK n I (OpK P o K Q) E H O := by
 intro a w ha hs
 unfold OpK Oper.wp
 rw [he a w ha, Oper.upon_enter]
 refine ((hc.frame hp) w hs.st).mono ?_
 rintro e w' ⟨v, H', O', rfl, ⟨O1, rfl, rfl, hr⟩, h4⟩
 show K (a.put o.dst v) w'
 rw [hd]
 exact h v hr _ _ (ha.put d v (blt_lt hn)) (hs.trans (((h4.weak hDD).down (Ghost.le.refl _) h4.le).permR hp))
end
end
end Go.Proofs.YtookcfeogbeooaaGreatDoor
