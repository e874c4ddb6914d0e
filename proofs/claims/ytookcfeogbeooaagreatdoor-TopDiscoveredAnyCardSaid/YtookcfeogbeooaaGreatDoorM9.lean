/-
Firing transitions. Firing transitions, 2. The library's two sorts at this program: what they do to a row of the call's own. The keys of a map of strings, sorted. Plain data and plain functions, 6: the activities of variants. The activities of variants.
Conditions: those that each theorem states.
-/
import Derived.Test.YtookcfeogbeooaaGreatDoorM8
import Derived.Shelf.Sort.Plain
import Derived.Shelf.Slices.In.SortNone
import Derived.Ground.Names2Prog
import Derived.Ground.SlgnProg
import Derived.Shelf.SlGeneric
import Derived.Shelf.SlIter.Nil
import Derived.Ground.GgzProg
import Derived.Ground.SlgmProg
set_option linter.all false
set_option maxRecDepth 100000
set_option maxHeartbeats 8000000
set_option autoImplicit true
set_option relaxedAutoImplicit true
namespace Go.Proofs.YtookcfeogbeooaaGreatDoor
open Go Go.Proofs
section
open Go.Proofs.Tryz
attribute [local irreducible] TK Yl OpK AnyT wpList Code.wp
theorem c142 {k : Int} : Ct PP 142 #[.int .i64 k] H [] fun v H' O' => O' = [] ∧ v = .bool (decide (k < 0 ∨ 100 < k)) := by
 refine cB func142 ntmps142 fun I hD hI h4 => ?_
 refine g9b ?_
 intros
 refine sD 5 ?_ ?_ <;> intro h5
 refine g5 ?_
 refine rT results142 ?_
 exact ⟨rfl, byAll (by simp_all; try omega)⟩
 refine g5 ?_
 refine rT results142 ?_
 exact ⟨rfl, byAll (by simp_all; try omega)⟩
theorem c191 {A : OA} {n c : Nat} {p : Int} (hb : HC H b 0 [.slice A n c]) (hm : Sl rInt H m A n c) (h0 : 0 ≤ p) (h1 : p < n) : Ct PP 191 #[.int .i64 p, .pointer (ad b)] H [] fun v H' O' => O' = [] ∧ v = .bool (decide (getM m p = 0)) := by
 refine cB func191 ntmps191 fun I hD hI h5 => ?_
 refine g8b ?_
 intros
 have h4 := getM_at (m := m) (p := p) (by rw [hm.len]; omega)
 obtain ⟨b5, o6, h6, h7⟩ := hm.atI h4
 refine g5 ?_
 refine rT results191 ?_
 exact ⟨rfl, rfl⟩
theorem c143 {t : Trans} {C : OA} {n2 c2 : Nat} (h1 : Sl rInt H t.ins B n1 c1) (hm : Sl rInt H m A n c) (hin : ∀ p ∈ t.ins, 0 ≤ p ∧ p < (n : Int)) : Ct PP 143 #[.agg #[.string t.label, .slice B n1 c1, .slice C n2 c2], .slice A n c] H [] fun v H' O' => O' = [] ∧ v = .bool (enB m t) := by
 refine cB func143 ntmps143 fun I hD hI h7 => ?_
 refine g2a ?_
 intros
 refine bG fun b2 => ?_
 refine bX [.slice A n c] fun b3 => ?_
 refine g6a ?_
 intros
 refine tSeal (i := 0) rfl fun H5 h4 h6 => ?_
 have ⟨h1, hm⟩ := mo2 h4 h1 hm
 have h5 := fun x hx => c191 h6 hm (hin x hx).1 (hin x hx).2
 refine g1 ?_
 refine sq rfl (fS hD rfl call77 rfl (c77 (p := fun p => decide (getM m p = 0)) (caps := [.pointer (ad b3)]) h1 h1.2.2.1 call191 h5) ?_)
 rintro v8 rfl
 refine g3 ?_
 refine kP [] ?_
 refine rT results143 ?_
 exact ⟨rfl, rfl⟩
theorem c144 (hl : Sl rInt H xs A n c) (h0 : 0 < n) : Ct PP 144 #[.slice A n c] H [] fun v H' O' => O' = [] ∧ v = .int .i64 (maxL xs) := by
 have hn := hl.2.2.1
 refine cB func144 ntmps144 fun I hD hI c0 => ?_
 refine g11c ?_
 intros
 refine cD ?_ ?_ <;> intro b7
 refine g1 ?_
 exfalso; omega
 refine g4a ?_
 intros
 obtain ⟨x7, h6⟩ := eX hl 0
 obtain ⟨b8, o9, h8, b5⟩ := hl.atI h6
 refine g10b ?_
 intros
 refine lp0 (fun D E H' O m => ∃ (i : Nat) (k : Int), H = H' ∧ (i ≤ n) ∧ (maxL xs = (xs.drop i).foldl max k) ∧ m = n - i ∧ O = [] ∧ E = (3, .int .i64 k) :: (4, .int .i64 (i : Int)) :: D) [0] [] ⟨1, x7, rfl, oM, (maxL_start h6), rfl, rfl, rfl⟩ ?_
 rintro _ _ _ _ ⟨i, k, rfl, hi, hk, rfl, rfl, rfl⟩ _ h5
 refine g8b ?_
 intros
 refine cD ?_ ?_ <;> intro b6
 refine g7a ?_
 intros
 obtain ⟨b4, h4⟩ := eX hl i
 obtain ⟨b9, o4, h9, h7⟩ := hl.atI h4
 refine g2 ?_
 refine q (yMax rfl rfl) rfl rfl rfl ?_
 refine g6 ?_
 exact nK h5 ⟨i + 1, max k b4, rfl, oM, (by rw [hk, maxL_next h4]), rfl, rfl, rfl⟩
 refine g6a ?_
 intros
 refine rT results144 ?_
 exact ⟨rfl, congrArg (Value.int .i64) (show k = _ by rw [hk, maxL_end (by have := hl.len; omega)])⟩
theorem c90 {x : Net} (hl : Sl rTrans H x.trans A n c) (hv : validN x = true) {p : Int} (h0 : 0 ≤ p) (h1 : p < x.places) : Ct PP 90 #[.agg #[.int .i64 x.places, .slice A n c, .int .i64 x.source, .int .i64 x.sink], .int .i64 p] H [] fun v H' O' => O' = [] ∧ ∃ A k c, v = .tuple #[.slice A k c, .int .i64 0] ∧ Sl rInt H' (oneM x p) A k c := by
 have h6 := validN_iff.1 hv
 have h8 : x.places.toNat ≤ 40 := by omega
 refine cB func90 ntmps90 fun I hD hI h7 => ?_
 refine g2a ?_
 intros
 refine bG fun b2 => ?_
 refine g7b ?_
 intros
 refine sq rfl (fS hD rfl call35 rfl (c35 (x := x) hl) ?_)
 rintro v5 rfl
 rw [hv]
 refine g8a ?_
 intros
 refine sq rfl (tMake uC iC rfl rfl rfl oM oM oM dC fun b7 => ?_)
 refine g7a ?_
 intros
 refine sq rfl (rS 0 ?_)
 rw [show List.replicate x.places.toNat (Value.int .i64 0) = (List.replicate x.places.toNat (0 : Int)).map (fun x => Value.int .i64 x) by simp, set_map]
 refine g7a ?_
 intros
 refine tR 0 (r := rInt) (ys := oneM x p) (repsI _) fun H0 h4 h5 => ?_
 have hl := hl.mono h4
 refine kP [] ?_
 refine r2 results90 ?_
 exact ⟨rfl, _, _, _, rfl, h5⟩
theorem c43 {x : Net} (hl : Sl rTrans H x.trans A n c) (hv : validN x = true) : Ct PP 43 #[.agg #[.int .i64 x.places, .slice A n c, .int .i64 x.source, .int .i64 x.sink]] H [] fun v H' O' => O' = [] ∧ ∃ A k c, v = .tuple #[.slice A k c, .int .i64 0] ∧ Sl rInt H' (oneM x x.source) A k c := by
 refine cB func43 ntmps43 fun I hD hI h6 => ?_
 refine g2a ?_
 intros
 refine bG fun b2 => ?_
 refine g8a ?_
 intros
 refine sq rfl (fP hD rfl call90 rfl (c90 (x := x) hl hv (okTr_src hv).1 (okTr_src hv).2) ?_)
 rintro v0 H8 ⟨A4, k5, c6, rfl, h5⟩ h4
 have hl := hl.mono h4
 refine g5 ?_
 refine kP [] ?_
 refine r2 results43 ?_
 exact ⟨rfl, _, _, _, rfl, h5⟩
theorem c44 {x : Net} (hl : Sl rTrans H x.trans A n c) (hv : validN x = true) : Ct PP 44 #[.agg #[.int .i64 x.places, .slice A n c, .int .i64 x.source, .int .i64 x.sink]] H [] fun v H' O' => O' = [] ∧ ∃ A k c, v = .tuple #[.slice A k c, .int .i64 0] ∧ Sl rInt H' (oneM x x.sink) A k c := by
 refine cB func44 ntmps44 fun I hD hI h6 => ?_
 refine g2a ?_
 intros
 refine bG fun b2 => ?_
 refine g8a ?_
 intros
 refine sq rfl (fP hD rfl call90 rfl (c90 (x := x) hl hv (okTr_sink hv).1 (okTr_sink hv).2) ?_)
 rintro v0 H8 ⟨A4, k5, c6, rfl, h5⟩ h4
 have hl := hl.mono h4
 refine g5 ?_
 refine kP [] ?_
 refine r2 results44 ?_
 exact ⟨rfl, _, _, _, rfl, h5⟩
theorem c93 {x : Net} (hl : Sl rTrans H x.trans A n c) (hv : validN x = true) (hm : Sl rInt H m B d e) (hok : okM x m) : Ct PP 93 #[.agg #[.int .i64 x.places, .slice A n c, .int .i64 x.source, .int .i64 x.sink], .slice B d e] H [] fun v H' O' => O' = [] ∧ v = .bool true := by
 refine cB func93 ntmps93 fun I hD hI h6 => ?_
 refine g2a ?_
 intros
 refine bG fun b2 => ?_
 refine g5a ?_
 intros
 refine sq rfl (fS hD rfl call35 rfl (c35 (x := x) hl) ?_)
 rintro v4 rfl
 rw [hv]
 refine g8 ?_
 refine sD 14 ?_ ?_ <;> intro h7
 refine g1 ?_
 refine sqY rfl rfl rfl rfl (fS hD rfl call77 rfl (c77 (p := fun k => decide (k < 0 ∨ 100 < k)) (caps := []) hm hm.2.2.1 call142 (fun x hx => c142)) ?_)
 rintro v6 rfl
 refine g4 ?_
 refine kP [] ?_
 refine rT results93 ?_
 have h5 := hm.len
 have h4 := validN_iff.1 hv
 have h1 := hok.1
 exact ⟨rfl, by first | rfl | (congr 1; simp only [Bool.not_eq_true', List.any_eq_false, decide_eq_true_eq]; intro k hk; have := hok.2 k hk; omega) | (exfalso; simp_all; try omega)⟩
 refine g6 ?_
 refine kP [] ?_
 refine rT results93 ?_
 have h5 := hm.len
 have h4 := validN_iff.1 hv
 have h1 := hok.1
 exact ⟨rfl, by first | rfl | (congr 1; simp only [Bool.not_eq_true', List.any_eq_false, decide_eq_true_eq]; intro k hk; have := hok.2 k hk; omega) | (exfalso; simp_all; try omega)⟩
theorem c94 {x : Net} (hl : Sl rTrans H x.trans A n c) (hv : validN x = true) (hm : Sl rInt H m B d e) (hok : okM x m) {t : Int} : Ct PP 94 #[.agg #[.int .i64 x.places, .slice A n c, .int .i64 x.source, .int .i64 x.sink], .slice B d e, .int .i64 t] H [] fun v H' O' => O' = [] ∧ ∃ A k c, v = .tuple #[.slice A k c, .int .i64 (fireM x m t).2] ∧ Sl rInt H' ((fireM x m t).1) A k c := by
 have hn := hl.2.2.1
 have e4 := validN_iff.1 hv
 have j4 := hm.len
 have i9 := hok.1
 have hlen := hl.len
 have c0 : ∀ t ∈ x.trans, ∀ p ∈ t.ins, 0 ≤ p ∧ p < (d : Int) := fun t ht p hp => by have := okTr_ins (e4.2.2.2.1 t ht) p hp; omega
 have b9 : ∀ t ∈ x.trans, ∀ p ∈ t.outs, 0 ≤ p ∧ p < (d : Int) := fun t ht p hp => by have := okTr_outs (e4.2.2.2.1 t ht) p hp; omega
 refine cB func94 ntmps94 fun I hD hI k3 => ?_
 refine g2a ?_
 intros
 refine bG fun b2 => ?_
 refine g9b ?_
 intros
 refine sD 16 ?_ ?_ <;> intro j1
 refine g12a ?_
 intros
 refine g1 ?_
 refine kP [] ?_
 refine r2 results94 ?_
 have e : fireM x m t = ([], 2) := fireM_out oM
 exact ⟨rfl, _, _, _, by rw [e], by rw [e]; exact Sl.nil _ _⟩
 refine g7 ?_
 refine cD ?_ ?_ <;> intro j5
 refine g5a ?_
 intros
 refine kP [] ?_
 refine r2 results94 ?_
 have e : fireM x m t = ([], 2) := fireM_out oM
 exact ⟨rfl, _, _, _, by rw [e], by rw [e]; exact Sl.nil _ _⟩
 refine g6a ?_
 intros
 obtain ⟨b4, h6⟩ := Sl.ex hl (i := (t : Int).toNat) oM
 obtain ⟨k0, o4, e5, i4, d7, i6⟩ := hl.at_ h6
 obtain ⟨A1, n0, c20, A2, n1, c24, rfl, h4, h5⟩ := d7
 refine g2 ?_
 refine aL fun j9 => ?_
 refine sG 0 ?_
 refine g6b ?_
 intros
 refine sq rfl (fS hD rfl call143 rfl (c143 (t := b4) h4 hm (c0 b4 (mG h6))) ?_)
 rintro v2 rfl
 refine g2 ?_
 refine cN ?_ ?_ <;> intro h9
 refine g5a ?_
 intros
 refine kP [] ?_
 refine r2 results94 ?_
 have e0 := fireM_at (m := m) oM h6
 have e : fireM x m t = ([], 12) := by rw [e0, fireT, if_pos (by simpa using h9)]
 exact ⟨rfl, _, _, _, by rw [e], by rw [e]; exact Sl.nil _ _⟩
 refine g4a ?_
 intros
 refine sq rfl (TK.callSO hD (Oc := []) (.refl _) rfl rfl (ent call49 rfl) (c49 hm oM) ?_)
 rintro v0 O1 ⟨A0, c34, f9, rfl, d4, rfl⟩
 obtain rfl := reps_eqI d4
 refine g11b ?_
 intros
 have k2 := h4.2.2.1
 have e8 := h4.len
 have b8 := hok.2
 refine lp2 (fun D f f1 E H' O m' => ∃ (i : Nat) (o : LI), H = H' ∧ ((i : Int) ≤ (n0 : Int)) ∧ (o.length = d) ∧ (∀ y ∈ o, -(i : Int) ≤ y ∧ y ≤ 100) ∧ (subM m b4.ins = subM o (b4.ins.drop i)) ∧ m' = b4.ins.length - i ∧ O = [.row 3 1 (.slice A0 d c34) d (o.map fun x => Value.int .i64 x), f, f1] ∧ E = (37, .int .i64 (i : Int)) :: D) [8, 9, 35, 36] [0, 1, 2] ⟨0, m, rfl, oM, oM, (fun y hy => by have := b8 y hy; omega), rfl, rfl, rfl, rfl⟩ ?_
 rintro _ _ _ _ ⟨i, o, rfl, j7, e1, h7, hs, rfl, rfl, rfl⟩ _ d8
 refine g5b ?_
 intros
 refine cD ?_ ?_ <;> intro i8
 refine g5b ?_
 intros
 obtain ⟨d3, b5⟩ := eX h4 i
 obtain ⟨k1, o5, e7, e6⟩ := h4.atI b5
 refine g5 ?_
 have hp := c0 b4 (mG h6) d3 (mG b5)
 refine g2 ?_
 refine row_addr (i := 0) rfl oM fun k4 e2 => ?_
 subst e2
 refine g1 ?_
 refine q (yLoad1 aC rfl (Mem.row1 (i := 0) rfl (map_getM oM))) rfl rfl rfl ?_
 have hg := bnd_get h7 (p := d3) oM
 refine g2 ?_
 refine sq rfl (rS 0 ?_)
 rw [set_map]
 refine g4 ?_
 exact nK d8 ⟨i + 1, (o.set d3.toNat ((getM o d3) - 1)), rfl, oM, (len_set e1), (bnd_set h7 oM oM oM), (by rw [hs, subM_next b5]), rfl, rfl, rfl⟩
 refine g10b ?_
 intros
 have j6 := h5.2.2.1
 have j0 := h5.len
 have h8 := h7
 refine lp2 (fun D f f1 E H' O m => ∃ (j : Nat) (o2 : LI), H = H' ∧ ((j : Int) ≤ (n1 : Int)) ∧ (o2.length = d) ∧ (∀ y ∈ o2, -(n0 : Int) ≤ y ∧ y ≤ 100 + (j : Int)) ∧ (addM o b4.outs = addM o2 (b4.outs.drop j)) ∧ m = b4.outs.length - j ∧ O = [.row 3 1 (.slice A0 d c34) d (o2.map fun x => Value.int .i64 x), f, f1] ∧ E = (51, .int .i64 (j : Int)) :: D) [9, 49, 50] [0, 1, 2] ⟨0, o, rfl, oM, oM, (fun y hy => by have := h8 y hy; omega), rfl, rfl, rfl, rfl⟩ ?_
 rintro _ _ _ _ ⟨j, o2, rfl, j2, d5, d1, e3, rfl, rfl, rfl⟩ _ d6
 refine g5b ?_
 intros
 refine cD ?_ ?_ <;> intro f8
 refine g5b ?_
 intros
 obtain ⟨d2, b6⟩ := eX h5 j
 obtain ⟨j8, o6, i7, i5⟩ := h5.atI b6
 refine g5 ?_
 have hp := b9 b4 (mG h6) d2 (mG b6)
 refine g2 ?_
 refine row_addr (i := 0) rfl oM fun j3 d9 => ?_
 subst d9
 refine g1 ?_
 refine q (yLoad1 aC rfl (Mem.row1 (i := 0) rfl (map_getM oM))) rfl rfl rfl ?_
 have hg := bnd_get d1 (p := d2) oM
 refine g2 ?_
 refine sq rfl (rS 0 ?_)
 rw [set_map]
 refine g4 ?_
 exact nK d6 ⟨j + 1, (o2.set d2.toNat ((getM o2 d2) + 1)), rfl, oM, (len_set d5), (bnd_set d1 oM oM oM), (by rw [e3, addM_next b6]), rfl, rfl, rfl⟩
 refine g4b ?_
 intros
 refine tR 0 (r := rInt) (ys := o2) (repsI _) fun H0 c1 d0 => ?_
 have ⟨h5, h4, hl⟩ := mo3 c1 h5 h4 hl
 refine g1 ?_
 refine sq rfl (fS hD rfl call144 rfl (c144 d0 oM) ?_)
 rintro v1 rfl
 refine g2 ?_
 refine cD ?_ ?_ <;> intro e9
 refine g5a ?_
 intros
 refine kP [] ?_
 refine r2 results94 ?_
 have e0 := fireM_at (m := m) oM h6
 have b7 : nextM b4 m = o2 := by rw [nextM, hs, subM_end (by have := h4.len; omega), e3, addM_end (by have := h5.len; omega)]
 have e : fireM x m t = ([], 5) := by rw [e0, fireT, if_neg (by simpa using h9), b7, if_pos oM]
 exact ⟨rfl, _, _, _, by rw [e], by rw [e]; exact Sl.nil _ _⟩
 refine g7a ?_
 intros
 refine kP [] ?_
 refine r2 results94 ?_
 have e0 := fireM_at (m := m) oM h6
 have b7 : nextM b4 m = o2 := by rw [nextM, hs, subM_end (by have := h4.len; omega), e3, addM_end (by have := h5.len; omega)]
 have e : fireM x m t = (o2, 0) := by rw [e0, fireT, if_neg (by simpa using h9), b7, if_neg oM]
 exact ⟨rfl, _, _, _, by rw [e], by rw [e]; exact d0⟩
theorem c48 {x : Net} (hl : Sl rTrans H x.trans A n c) (hv : validN x = true) (hm : Sl rInt H m B d e) (hok : okM x m) {t : Int} : Ct PP 48 #[.agg #[.int .i64 x.places, .slice A n c, .int .i64 x.source, .int .i64 x.sink], .slice B d e, .int .i64 t] H [] fun v H' O' => O' = [] ∧ ∃ A k c, v = .tuple #[.slice A k c, .int .i64 (fireM x m t).2] ∧ Sl rInt H' ((fireM x m t).1) A k c := by
 refine cB func48 ntmps48 fun I hD hI h6 => ?_
 refine g2a ?_
 intros
 refine bG fun b2 => ?_
 refine g8b ?_
 intros
 refine sq rfl (fS hD rfl call93 rfl (c93 hl hv hm hok) ?_)
 rintro v5 rfl
 refine g9a ?_
 intros
 refine sq rfl (fP hD rfl call94 rfl (c94 hl hv hm hok (t := t)) ?_)
 rintro v0 H0 ⟨A7, k8, c9, rfl, h5⟩ h4
 have ⟨hl, hm⟩ := mo2 h4 hl hm
 refine g5 ?_
 refine kP [] ?_
 refine r2 results48 ?_
 exact ⟨rfl, _, _, _, rfl, h5⟩
theorem en_snoc {x : Net} {k : Nat} {t : Trans} (h : x.trans[k]? = some t) (he : enB m t = true) : (enN x m k).map (fun x => Value.int .i64 x) ++ [Value.int .i64 (k : Int)] = (enN x m (k + 1)).map fun x => Value.int .i64 x := by rw [enN_yes h he]; simp
theorem en_len {x : Net} {k : Nat} {t : Trans} (h : x.trans[k]? = some t) (he : enB m t = true) : (enN x m k).length + 1 = (enN x m (k + 1)).length := by rw [enN_yes h he]; simp
theorem c145 {x : Net} (hl : Sl rTrans H x.trans A n c) (hv : validN x = true) (hm : Sl rInt H m B d e) (hok : okM x m) : Ct PP 145 #[.agg #[.int .i64 x.places, .slice A n c, .int .i64 x.source, .int .i64 x.sink], .slice B d e] H [] fun v H' O' => O' = [] ∧ ∃ A k c, v = .tuple #[.slice A k c, .int .i64 0] ∧ Sl rInt H' (enL x m) A k c := by
 have hn := hl.2.2.1
 have b6 := validN_iff.1 hv
 have d5 := hm.len
 have d2 := hok.1
 have hlen := hl.len
 have h9 : ∀ t ∈ x.trans, ∀ p ∈ t.ins, 0 ≤ p ∧ p < (d : Int) := fun t ht p hp => by have := okTr_ins (b6.2.2.2.1 t ht) p hp; omega
 have b8 : ∀ t ∈ x.trans, ∀ p ∈ t.outs, 0 ≤ p ∧ p < (d : Int) := fun t ht p hp => by have := okTr_outs (b6.2.2.2.1 t ht) p hp; omega
 refine cB func145 ntmps145 fun I hD hI d6 => ?_
 refine g2a ?_
 intros
 refine bG fun b2 => ?_
 refine g8b ?_
 intros
 refine sq rfl (fS hD rfl call93 rfl (c93 hl hv hm hok) ?_)
 rintro v5 rfl
 refine g15c ?_
 intros
 refine g2 ?_
 refine newRow 3 1 ?_
 refine lp1 (fun D f E H' O m' => ∃ (i : Nat) (A6 : OA) (c6 : Nat), H = H' ∧ (i ≤ n) ∧ m' = n - i ∧ O = [.row 3 1 (.slice A6 ((enN x m i).length) c6) ((enN x m i).length) ((enN x m i).map fun x => Value.int .i64 x), f] ∧ E = (6, .slice A6 ((enN x m i).length) c6) :: (16, .int .i64 (i : Int)) :: D) [1, 14, 15] [0, 1] ⟨0, none, 0, rfl, Nat.zero_le _, rfl, rfl, rfl⟩ ?_
 rintro _ _ _ _ ⟨i, A6, c6, rfl, hi, rfl, rfl, rfl⟩ _ h7
 refine g5b ?_
 intros
 refine cD ?_ ?_ <;> intro c0
 refine g6b ?_
 intros
 obtain ⟨b7, h4⟩ := eX hl i
 obtain ⟨d4, o4, d1, d0, b5, c1⟩ := hl.at_ h4
 obtain ⟨A2, n0, c30, A1, n1, c34, rfl, h8, b9⟩ := b5
 refine g2 ?_
 refine aL fun d7 => ?_
 refine g1 ?_
 refine sG 0 ?_
 refine g5a ?_
 intros
 refine sq rfl (fS hD rfl call143 rfl (c143 (t := b7) h8 hm (h9 b7 (mG h4))) ?_)
 rintro v0 rfl
 refine g1 ?_
 refine cN ?_ ?_ <;> intro h5
 refine g3 ?_
 refine sq rfl (bS [.int .i64 (i : Int)] fun d3 => ?_)
 refine sq rfl (tAppend hD (i := 2) (news := [.int .i64 (i : Int)]) rfl uC iC rfl dC rfl rfl (Mem.row (i := 0) rfl rfl) rfl oC (by have := enN_len (x := x) (m := m) (k := i); omega) (by have := enN_len (x := x) (m := m) (k := i); omega) dC fun A0 c42 => ?_)
 refine g5 ?_
 rw [en_snoc h4 h5, en_len h4 h5]
 exact nK h7 ⟨i + 1, A0, c42, rfl, oM, rfl, rfl, rfl⟩
 refine g4 ?_
 rw [← enN_no h4 (by simpa using h5)]
 exact nK h7 ⟨i + 1, A6, c6, rfl, oM, rfl, rfl, rfl⟩
 refine g7a ?_
 intros
 refine tR 0 (r := rInt) (ys := enN x m i) (repsI _) (hlen := by have := enN_len (x := x) (m := m) (k := i); omega) fun H0 h6 b4 => ?_
 have ⟨hm, hl⟩ := mo2 h6 hm hl
 obtain rfl : i = x.trans.length := by omega
 refine kP [] ?_
 refine r2 results145 ?_
 exact ⟨rfl, _, _, _, rfl, b4⟩
theorem wd_snoc {x : Net} {l : LI} {i : Nat} {t : Int} {tr : Trans} (ht : l[i]? = some t) (h : x.trans[t.toNat]? = some tr) (hn : ¬ tr.label = ⟨#[]⟩) : (wordN x (l.take i)).map (fun x => Value.string x) ++ [Value.string tr.label] = (wordN x (l.take (i + 1))).map fun x => Value.string x := by rw [wordN_yes ht h hn]; simp
theorem wd_len {x : Net} {l : LI} {i : Nat} {t : Int} {tr : Trans} (ht : l[i]? = some t) (h : x.trans[t.toNat]? = some tr) (hn : ¬ tr.label = ⟨#[]⟩) : (wordN x (l.take i)).length + 1 = (wordN x (l.take (i + 1))).length := by rw [wordN_yes ht h hn]; simp
theorem c18 {x : Net} (hl : Sl rTrans H x.trans A n c) (hv : validN x = true) (hm : Sl rInt H m B d e) (h1 : m.length ≤ 1000) (hr : ∀ t ∈ m, 0 ≤ t ∧ t < (x.trans.length : Int)) : Ct PP 18 #[.agg #[.int .i64 x.places, .slice A n c, .int .i64 x.source, .int .i64 x.sink], .slice B d e] H [] fun v H' O' => O' = [] ∧ ∃ A k c, v = .tuple #[.slice A k c, .int .i64 0] ∧ Sl rStr H' (wordN x m) A k c := by
 have hn := hl.2.2.1
 have e1 := hm.len
 have hlen := hl.len
 refine cB func18 ntmps18 fun I hD hI e2 => ?_
 refine g2a ?_
 intros
 refine bG fun b2 => ?_
 refine g8b ?_
 intros
 refine sq rfl (fS hD rfl call35 rfl (c35 (x := x) hl) ?_)
 rintro v5 rfl
 rw [hv]
 refine g11a ?_
 intros
 refine cD ?_ ?_ <;> intro d7
 refine g5a ?_
 intros
 refine kP [] ?_
 refine r2 results18 ?_
 exfalso; omega
 refine g13c ?_
 intros
 refine newRow 9 1 ?_
 refine lp1 (fun D f E H' O m' => ∃ (i : Nat) (A6 : OA) (c6 : Nat), H = H' ∧ (i ≤ d) ∧ m' = d - i ∧ O = [.row 9 1 (.slice A6 ((wordN x (m.take i)).length) c6) ((wordN x (m.take i)).length) ((wordN x (m.take i)).map fun x => Value.string x), f] ∧ E = (6, .slice A6 ((wordN x (m.take i)).length) c6) :: (20, .int .i64 (i : Int)) :: D) [2, 18, 19] [0, 1] ⟨0, none, 0, rfl, Nat.zero_le _, rfl, rfl, rfl⟩ ?_
 rintro _ _ _ _ ⟨i, A6, c6, rfl, hi, rfl, rfl, rfl⟩ _ h8
 refine g5b ?_
 intros
 refine cD ?_ ?_ <;> intro d0
 refine g5b ?_
 intros
 obtain ⟨d2, h4⟩ := eX hm i
 obtain ⟨d6, o5, b8, b6⟩ := hm.atI h4
 refine g7b ?_
 intros
 have d8 := hr _ (mG h4)
 refine g3 ?_
 refine sD 26 ?_ ?_ <;> intro d5
 refine g12a ?_
 intros
 refine g1 ?_
 refine kP [] ?_
 refine r2 results18 ?_
 exfalso; have := hr _ (mG h4); omega
 refine g7 ?_
 refine cD ?_ ?_ <;> intro b7
 refine g5a ?_
 intros
 refine kP [] ?_
 refine r2 results18 ?_
 exfalso; have := hr _ (mG h4); omega
 refine g6a ?_
 intros
 obtain ⟨b5, h5⟩ := Sl.ex hl (i := (d2 : Int).toNat) oM
 obtain ⟨e0, o4, c0, c1, b4, d4⟩ := hl.at_ h5
 obtain ⟨A1, n0, c46, A2, n1, c50, rfl, b9, d3⟩ := b4
 refine g10a ?_
 intros
 refine cN ?_ ?_ <;> intro h6
 refine g3 ?_
 refine sq rfl (bS [.string b5.label] fun d9 => ?_)
 refine sq rfl (tAppend hD (i := 1) (news := [.string b5.label]) rfl uC iC rfl dC rfl rfl (Mem.row (i := 0) rfl rfl) rfl oC (by have := wordN_len (x := x) (l := m.take i); rw [List.length_take] at this; omega) (by have := wordN_len (x := x) (l := m.take i); rw [List.length_take] at this; omega) dC fun A0 d1 => ?_)
 refine g5 ?_
 rw [wd_snoc h4 h5 (by simpa using h6), wd_len h4 h5 (by simpa using h6)]
 exact nK h8 ⟨i + 1, A0, d1, rfl, oM, rfl, rfl, rfl⟩
 refine g4 ?_
 rw [← wordN_no h4 h5 (by simpa using h6)]
 exact nK h8 ⟨i + 1, A6, c6, rfl, oM, rfl, rfl, rfl⟩
 refine g7a ?_
 intros
 refine tR 0 (r := rStr) (ys := wordN x (m.take i)) (repsS _) (hlen := by have := wordN_len (x := x) (l := m.take i); rw [List.length_take] at this; omega) fun H0 h9 h7 => ?_
 have ⟨hm, hl⟩ := mo2 h9 hm hl
 obtain rfl : i = d := by omega
 rw [List.take_of_length_le oM] at h7
 rw [List.take_of_length_le oM]
 refine kP [] ?_
 refine r2 results18 ?_
 exact ⟨rfl, _, _, _, rfl, h7⟩
end
end Go.Proofs.YtookcfeogbeooaaGreatDoor
namespace Go.Proofs
open Go.Shelf
def Tryz.lays189_ren : Go.Shelf.Ren := ⟨fun | 189 => 139 | 125 => 72 | 257 => 189 | 128 => 127 | 129 => 128 | 294 => 219 | 295 => 220 | 296 => 221 | 297 => 222 | 298 => 223 | 299 => 224 | 216 => 225 | 300 => 226 | 301 => 227 | 328 => 263 | 329 => 177 | 330 => 178 | 331 => 264 | 332 => 265 | 215 => 218 | 343 => 293 | n => n, fun | 28 => 50 | 3 => 3 | 46 => 138 | 0 => 0 | 51 => 201 | 53 => 203 | 4 => 4 | 183 => 194 | 182 => 193 | 131 => 133 | 5 => 5 | 9 => 9 | 218 => 246 | 222 => 250 | 228 => 275 | 229 => 276 | n => n, fun | n => n⟩
theorem Tryz.lays189 : Go.Proofs.Lays.n189 Tryz.prog Tryz.lays189_ren := {
 mixed := by kernel_rfl
 f125 := Tryz.func72.trans (congrArg some (by kernel_rfl))
 f128 := Tryz.func127.trans (congrArg some (by kernel_rfl))
 f129 := Tryz.func128.trans (congrArg some (by kernel_rfl))
 f189 := Tryz.func139.trans (congrArg some (by kernel_rfl))
 f215 := Tryz.func218.trans (congrArg some (by kernel_rfl))
 f216 := Tryz.func225.trans (congrArg some (by kernel_rfl))
 f257 := Tryz.func189.trans (congrArg some (by kernel_rfl))
 f294 := Tryz.func219.trans (congrArg some (by kernel_rfl))
 f295 := Tryz.func220.trans (congrArg some (by kernel_rfl))
 f296 := Tryz.func221.trans (congrArg some (by kernel_rfl))
 f297 := Tryz.func222.trans (congrArg some (by kernel_rfl))
 f298 := Tryz.func223.trans (congrArg some (by kernel_rfl))
 f299 := Tryz.func224.trans (congrArg some (by kernel_rfl))
 f300 := Tryz.func226.trans (congrArg some (by kernel_rfl))
 f301 := Tryz.func227.trans (congrArg some (by kernel_rfl))
 f328 := Tryz.func263.trans (congrArg some (by kernel_rfl))
 f329 := Tryz.func177.trans (congrArg some (by kernel_rfl))
 f330 := Tryz.func178.trans (congrArg some (by kernel_rfl))
 f331 := Tryz.func264.trans (congrArg some (by kernel_rfl))
 f332 := Tryz.func265.trans (congrArg some (by kernel_rfl))
 f343 := Tryz.func293.trans (congrArg some (by kernel_rfl))
 t0 := Tryz.underlying0
 a0 := Tryz.isAgg0
 z0 := Tryz.sizeOf0
 v0 := Tryz.zeroValue0
 t3 := Tryz.underlying3
 a3 := Tryz.isAgg3
 z3 := Tryz.sizeOf3
 v3 := Tryz.zeroValue3
 t4 := Tryz.underlying4
 a4 := Tryz.isAgg4
 z4 := Tryz.sizeOf4
 v4 := Tryz.zeroValue4
 t5 := Tryz.underlying5
 a5 := Tryz.isAgg5
 z5 := Tryz.sizeOf5
 v5 := Tryz.zeroValue5
 t9 := Tryz.underlying9
 a9 := Tryz.isAgg9
 z9 := Tryz.sizeOf9
 v9 := Tryz.zeroValue9
 t28 := Tryz.underlying50
 a28 := Tryz.isAgg50
 z28 := Tryz.sizeOf50
 v28 := Tryz.zeroValue50
 t46 := Tryz.underlying138
 a46 := Tryz.isAgg138
 z46 := Tryz.sizeOf138
 v46 := Tryz.zeroValue138
 t51 := Tryz.underlying201
 a51 := Tryz.isAgg201
 z51 := Tryz.sizeOf201
 v51 := Tryz.zeroValue201
 t53 := Tryz.underlying203
 a53 := Tryz.isAgg203
 z53 := Tryz.sizeOf203
 v53 := Tryz.zeroValue203
 t131 := Tryz.underlying133
 a131 := Tryz.isAgg133
 z131 := Tryz.sizeOf133
 v131 := Tryz.zeroValue133
 t182 := Tryz.underlying193
 a182 := Tryz.isAgg193
 z182 := Tryz.sizeOf193
 v182 := Tryz.zeroValue193
 t183 := Tryz.underlying194
 a183 := Tryz.isAgg194
 z183 := Tryz.sizeOf194
 v183 := Tryz.zeroValue194
 t218 := Tryz.underlying246
 a218 := Tryz.isAgg246
 z218 := Tryz.sizeOf246
 v218 := Tryz.zeroValue246
 t222 := Tryz.underlying250
 a222 := Tryz.isAgg250
 z222 := Tryz.sizeOf250
 v222 := Tryz.zeroValue250
 t228 := Tryz.underlying275
 a228 := Tryz.isAgg275
 z228 := Tryz.sizeOf275
 v228 := Tryz.zeroValue275
 t229 := Tryz.underlying276
 a229 := Tryz.isAgg276
 z229 := Tryz.sizeOf276
 v229 := Tryz.zeroValue276 }
open Go.Sort Go.RowKit in
theorem Tryz.slices_Sort_int (blk off cap : Nat) (zs : List Int) (w : World) (hH : Holds (Value.int .i64) w blk off zs.toArray) (hblk : blk < w.heap.size) (hsz : zs.length < 4611686018427387904) :
  Calls Tryz.prog 139 #[.slice (some ⟨blk, off, none⟩) zs.length cap] w fun e w' =>
   e = .returned (.tuple #[]) ∧ ∃ n os, w' = grow (putRow (Value.int .i64) (Sort.ahead w n) blk off (zs.mergeSort fun x y => decide (x ≤ y)).toArray) os := Any.slices_Sort_int Tryz.lays189 blk off cap zs w hH hblk hsz
def Tryz.lays190_ren : Go.Shelf.Ren := ⟨fun | 190 => 31 | 125 => 72 | 258 => 71 | 128 => 127 | 129 => 128 | 302 => 118 | 303 => 119 | 304 => 120 | 305 => 121 | 306 => 122 | 307 => 123 | 308 => 124 | 309 => 125 | 310 => 126 | 333 => 176 | 329 => 177 | 330 => 178 | 334 => 179 | 335 => 180 | 336 => 149 | 344 => 213 | n => n, fun | 31 => 24 | 9 => 9 | 3 => 3 | 46 => 138 | 0 => 0 | 51 => 201 | 53 => 203 | 4 => 4 | 183 => 194 | 182 => 193 | 131 => 133 | 5 => 5 | 218 => 246 | 222 => 250 | 228 => 275 | 229 => 276 | n => n, fun | n => n⟩
theorem Tryz.lays190 : Go.Proofs.Lays.n190 Tryz.prog Tryz.lays190_ren := {
 mixed := by kernel_rfl
 f125 := Tryz.func72.trans (congrArg some (by kernel_rfl))
 f128 := Tryz.func127.trans (congrArg some (by kernel_rfl))
 f129 := Tryz.func128.trans (congrArg some (by kernel_rfl))
 f190 := Tryz.func31.trans (congrArg some (by kernel_rfl))
 f258 := Tryz.func71.trans (congrArg some (by kernel_rfl))
 f302 := Tryz.func118.trans (congrArg some (by kernel_rfl))
 f303 := Tryz.func119.trans (congrArg some (by kernel_rfl))
 f304 := Tryz.func120.trans (congrArg some (by kernel_rfl))
 f305 := Tryz.func121.trans (congrArg some (by kernel_rfl))
 f306 := Tryz.func122.trans (congrArg some (by kernel_rfl))
 f307 := Tryz.func123.trans (congrArg some (by kernel_rfl))
 f308 := Tryz.func124.trans (congrArg some (by kernel_rfl))
 f309 := Tryz.func125.trans (congrArg some (by kernel_rfl))
 f310 := Tryz.func126.trans (congrArg some (by kernel_rfl))
 f329 := Tryz.func177.trans (congrArg some (by kernel_rfl))
 f330 := Tryz.func178.trans (congrArg some (by kernel_rfl))
 f333 := Tryz.func176.trans (congrArg some (by kernel_rfl))
 f334 := Tryz.func179.trans (congrArg some (by kernel_rfl))
 f335 := Tryz.func180.trans (congrArg some (by kernel_rfl))
 f336 := Tryz.func149.trans (congrArg some (by kernel_rfl))
 f344 := Tryz.func213.trans (congrArg some (by kernel_rfl))
 t0 := Tryz.underlying0
 a0 := Tryz.isAgg0
 z0 := Tryz.sizeOf0
 v0 := Tryz.zeroValue0
 t3 := Tryz.underlying3
 a3 := Tryz.isAgg3
 z3 := Tryz.sizeOf3
 v3 := Tryz.zeroValue3
 t4 := Tryz.underlying4
 a4 := Tryz.isAgg4
 z4 := Tryz.sizeOf4
 v4 := Tryz.zeroValue4
 t5 := Tryz.underlying5
 a5 := Tryz.isAgg5
 z5 := Tryz.sizeOf5
 v5 := Tryz.zeroValue5
 t9 := Tryz.underlying9
 a9 := Tryz.isAgg9
 z9 := Tryz.sizeOf9
 v9 := Tryz.zeroValue9
 t31 := Tryz.underlying24
 a31 := Tryz.isAgg24
 z31 := Tryz.sizeOf24
 v31 := Tryz.zeroValue24
 t46 := Tryz.underlying138
 a46 := Tryz.isAgg138
 z46 := Tryz.sizeOf138
 v46 := Tryz.zeroValue138
 t51 := Tryz.underlying201
 a51 := Tryz.isAgg201
 z51 := Tryz.sizeOf201
 v51 := Tryz.zeroValue201
 t53 := Tryz.underlying203
 a53 := Tryz.isAgg203
 z53 := Tryz.sizeOf203
 v53 := Tryz.zeroValue203
 t131 := Tryz.underlying133
 a131 := Tryz.isAgg133
 z131 := Tryz.sizeOf133
 v131 := Tryz.zeroValue133
 t182 := Tryz.underlying193
 a182 := Tryz.isAgg193
 z182 := Tryz.sizeOf193
 v182 := Tryz.zeroValue193
 t183 := Tryz.underlying194
 a183 := Tryz.isAgg194
 z183 := Tryz.sizeOf194
 v183 := Tryz.zeroValue194
 t218 := Tryz.underlying246
 a218 := Tryz.isAgg246
 z218 := Tryz.sizeOf246
 v218 := Tryz.zeroValue246
 t222 := Tryz.underlying250
 a222 := Tryz.isAgg250
 z222 := Tryz.sizeOf250
 v222 := Tryz.zeroValue250
 t228 := Tryz.underlying275
 a228 := Tryz.isAgg275
 z228 := Tryz.sizeOf275
 v228 := Tryz.zeroValue275
 t229 := Tryz.underlying276
 a229 := Tryz.isAgg276
 z229 := Tryz.sizeOf276
 v229 := Tryz.zeroValue276 }
open Go.Sort Go.RowKit in
theorem Tryz.slices_Sort_string (blk off cap : Nat) (ss : List (List UInt8)) (w : World) (hH : Holds encStr w blk off ss.toArray) (hblk : blk < w.heap.size) (hsz : ss.length < 4611686018427387904) :
  Calls Tryz.prog 31 #[.slice (some ⟨blk, off, none⟩) ss.length cap] w fun e w' =>
   e = .returned (.tuple #[]) ∧ ∃ n os, w' = grow (putRow encStr (Sort.ahead w n) blk off (ss.mergeSort fun x y => decide (x ≤ y)).toArray) os := Any.slices_Sort_string Tryz.lays190 blk off cap ss w hH hblk hsz
open Go.RowKit Go.Sort in
theorem Tryz.slices_Sort_string_none (p : Option Addr) (cap : Nat) (w : World) :
  Calls Tryz.prog 31 #[.slice p 0 cap] w fun e w' => e = .returned (.tuple #[]) ∧ w' = w := Any.slices_Sort_string_none Tryz.lays190 p cap w
open Go.RowKit Go.Sort in
theorem Tryz.slices_Sort_int_none (p : Option Addr) (cap : Nat) (w : World) :
  Calls Tryz.prog 139 #[.slice p 0 cap] w fun e w' => e = .returned (.tuple #[]) ∧ w' = w := Any.slices_Sort_int_none Tryz.lays189 p cap w
end Go.Proofs
namespace Go.Proofs.YtookcfeogbeooaaGreatDoor
open Go Go.Proofs Go.Sort Go.RowKit
section
variable {H : Ghost} {α : Type} [Inhabited α]
theorem putCells_take (enc : α → Value) (d : Array α) (cur : Array Value) (h : d.size ≤ cur.size) : (putCells enc 0 d cur).toList.take d.size = d.toList.map enc := by
 apply List.ext_getElem
 ·simp [putCells]; omega
 ·intro i h1 h2
  have hi : i < d.size := by simpa using h2
  simp [putCells, hi]
theorem Step.sorted (enc : α → Value) {w : World} {n b m c e : Nat} {os : Array Obj} {d : Array α} {cs : LV} (hs : St H [.row e 1 (.slice (some ⟨b, 0, none⟩) m c) m cs] w) (hd : d.size = m) :
  Step H [.row e 1 (.slice (some ⟨b, 0, none⟩) m c) m cs] w H [.row e 1 (.slice (some ⟨b, 0, none⟩) m c) m (d.toList.map enc)] (grow (putRow enc (Sort.ahead w n) b 0 d) os) := by
 have h8 : w.ownsRow 0 e 1 (.slice (some ⟨b, 0, none⟩) m c) m cs := hs.own (.row e 1 (.slice (some ⟨b, 0, none⟩) m c) m cs) (by simp)
 rcases h8.2 with ⟨h1, h2⟩ | ⟨g, cap, cur, hv, hg, hh, hn, hc, hsz, htake⟩
 ·cases h1
 ·injection hv with hv1 hv2 hv3
  injection hv1 with hv1
  injection hv1 with hv1
  subst hv1 hv3
  have b4 : b < w.heap.size := (Array.getElem?_eq_some_iff.1 hh).1
  have h4 : (putRow enc (Sort.ahead w n) b 0 d).heap.size = w.heap.size := by simp [putRow, mapBlock, Sort.ahead]
  have h6 : ∀ k, k < w.heap.size → k ≠ b → (grow (putRow enc (Sort.ahead w n) b 0 d) os).heap[k]? = w.heap[k]? := fun k hk b5 => by
   simp only [grow]
   rw [Array.getElem?_append_left (by rw [h4]; exact hk)]
   simp [putRow, mapBlock, Sort.ahead, Array.getElem?_modify, Ne.symm b5]
  have h7 : (grow (putRow enc (Sort.ahead w n) b 0 d) os).heap[b]? = some (.cells (putCells enc 0 d cur) e (0, 0)) := by
   simp only [grow]
   rw [Array.getElem?_append_left (by rw [h4]; exact b4)]
   simp [putRow, mapBlock, Sort.ahead, Array.getElem?_modify, hh, onCells]
  have h9 := hs.apart b (by simp [fps, HL.fp, vblk])
  refine ⟨⟨fun g p h5 => ?_, fun x hx => ?_, fun g h5 => ?_, by simp [fps, HL.fp, vblk]⟩, Ghost.le.refl _, rfl, rfl, rfl, by simp [grow, h4], fun g h5 b6 => h6 g h5 (fun e => b6 (by rw [e]; simp [fps, HL.fp, vblk])), fun g p h5 => .inl (by rw [h5]; simp), fun g h5 => .inl h5, fun _ => by simp [grow, putRow, mapBlock, Sort.ahead]⟩
  ·rw [h6 g (hs.lt h5) (fun e => by rw [e, h9.1] at h5; cases h5)]
   exact hs.ghost g p h5
  ·simp only [List.mem_singleton] at hx
   subst hx
   refine ⟨by simp [hd], .inr ⟨b, c, _, rfl, Nat.zero_le _, h7, hn, hc, by simp [putCells, hsz], ?_⟩⟩
   rw [Nat.mul_one, ← hd]
   exact putCells_take enc d cur oM
  ·have : g = b := by simpa [fps, HL.fp, vblk] using h5
   subst this
   exact ⟨h9.1, by simp [grow, h4]; omega⟩
theorem holds_row (enc : α → Value) {b m c e : Nat} {xs : List α} (hs : St H [.row e 1 (.slice (some ⟨b, 0, none⟩) m c) m (xs.map enc)] w) : Holds enc w b 0 xs.toArray := by
 have h4 : w.ownsRow 0 e 1 (.slice (some ⟨b, 0, none⟩) m c) m (xs.map enc) := hs.own (.row e 1 (.slice (some ⟨b, 0, none⟩) m c) m (xs.map enc)) (by simp)
 intro j hj
 have h5 : j < xs.length := by simpa using hj
 refine ⟨?_, ?_⟩
 ·have := h4.cells (g := b) rfl j (enc xs[j]) (by simp [h5])
  rw [addr_add] at this
  rw [this, getElem!_pos xs.toArray j hj]
  rfl
 ·rcases h4.2 with ⟨h1, h2⟩ | ⟨g, cap, cur, hv, hg, hh, _⟩
  ·cases h1
  ·injection hv with hv1 hv2 hv3
   injection hv1 with hv1
   injection hv1 with hv1
   subst hv1
   simp [World.frozen?, hh]
end
theorem le_trans' (a b c : List UInt8) : decide (a ≤ b) = true → decide (b ≤ c) = true → decide (a ≤ c) = true := by
 simp only [decide_eq_true_eq]
 exact fun h1 h2 => List.le_trans h1 h2
theorem le_total' (a b : List UInt8) : (decide (a ≤ b) || decide (b ≤ a)) = true := by
 rcases List.le_total a b with h | h <;> simp [h]
def leB (x y : BA) : Prop := x.data.toList ≤ y.data.toList
theorem c31 {xs : LB} {B : OA} {m c : Nat} (hm : m < 4611686018427387904) (hxm : xs.length = m) : Ct PP 31 #[.slice B m c] H [.row 9 1 (.slice B m c) m (xs.map .string)] fun v H' O' => ∃ ys : LB, O' = [.row 9 1 (.slice B m c) m (ys.map .string)] ∧ ys.Perm xs ∧ ys.Pairwise leB := by
 intro w hs
 have h6 : w.ownsRow 0 9 1 (.slice B m c) m (xs.map .string) := hs.own (.row 9 1 (.slice B m c) m (xs.map .string)) (by simp)
 rcases Nat.eq_zero_or_pos m with h0 | h0
 ·subst h0
  obtain rfl : xs = [] := List.eq_nil_of_length_eq_zero hxm
  refine (Tryz.slices_Sort_string_none B c w).mono ?_
  rintro e w' ⟨rfl, rfl⟩
  exact ⟨_, H, _, rfl, ⟨[], rfl, .refl _, .nil⟩, StepG.refl hs⟩
 ·rcases h6.2 with ⟨h1, h2⟩ | ⟨g, cap, cur, hv, hg, hh, hn, hc, hsz, htake⟩
  ·omega
  ·injection hv with h1 h2 h3
   subst h1 h3
   have h5 : xs.map Value.string = (xs.map fun x => x.data.toList).map encStr := by simp [List.map_map, Function.comp_def]
   rw [h5] at hs ⊢
   have hH := holds_row encStr hs
   have hlen : (xs.map fun x => x.data.toList).length = m := by simp [hxm]
   have := Tryz.slices_Sort_string g 0 c (xs.map fun x => x.data.toList) w hH (Array.getElem?_eq_some_iff.1 hh).1 oM
   rw [hlen] at this
   refine this.mono ?_
   rintro e w' ⟨rfl, n, os, rfl⟩
   have h4 := Step.sorted encStr (n := n) (os := os) (d := ((xs.map fun x => x.data.toList).mergeSort fun x y => decide (x ≤ y)).toArray) hs (by simp [hlen])
   refine ⟨_, H, _, rfl, ⟨((xs.map fun x => x.data.toList).mergeSort fun x y => decide (x ≤ y)).map fun l => ⟨l.toArray⟩, rfl, ?_, ?_⟩, by simpa [List.map_map, Function.comp_def] using h4.any⟩
   ·have h1 := (List.mergeSort_perm (xs.map fun x => x.data.toList) fun x y => decide (x ≤ y)).map fun l => (⟨l.toArray⟩ : BA)
    simpa [List.map_map, Function.comp_def] using h1
   ·rw [List.pairwise_map]
    refine (List.pairwise_mergeSort le_trans' le_total' _).imp fun {a b} h => ?_
    simpa [leB] using h
theorem c139 {xs : LI} {B : OA} {m c : Nat} (hm : m < 4611686018427387904) (hxm : xs.length = m) : Ct PP 139 #[.slice B m c] H [.row 3 1 (.slice B m c) m (xs.map (.int .i64))] fun v H' O' => O' = [.row 3 1 (.slice B m c) m ((xs.mergeSort fun x y => decide (x ≤ y)).map (.int .i64))] := by
 intro w hs
 have h5 : w.ownsRow 0 3 1 (.slice B m c) m (xs.map (.int .i64)) := hs.own (.row 3 1 (.slice B m c) m (xs.map (.int .i64))) (by simp)
 rcases Nat.eq_zero_or_pos m with h0 | h0
 ·subst h0
  obtain rfl : xs = [] := List.eq_nil_of_length_eq_zero hxm
  refine (Tryz.slices_Sort_int_none B c w).mono ?_
  rintro e w' ⟨rfl, rfl⟩
  rw [show ([] : LI).mergeSort (fun x y => decide (x ≤ y)) = [] by simp]
  exact ⟨_, H, _, rfl, rfl, StepG.refl hs⟩
 ·rcases h5.2 with ⟨h1, h2⟩ | ⟨g, cap, cur, hv, hg, hh, hn, hc, hsz, htake⟩
  ·omega
  ·injection hv with h1 h2 h3
   subst h1 h3
   have hH := holds_row (Value.int .i64) hs
   have := Tryz.slices_Sort_int g 0 c xs w hH (Array.getElem?_eq_some_iff.1 hh).1 oM
   rw [hxm] at this
   refine this.mono ?_
   rintro e w' ⟨rfl, n, os, rfl⟩
   have h4 := Step.sorted (Value.int .i64) (n := n) (os := os) (d := (xs.mergeSort fun x y => decide (x ≤ y)).toArray) hs (by simp [hxm])
   exact ⟨_, H, _, rfl, rfl, h4.any⟩
end Go.Proofs.YtookcfeogbeooaaGreatDoor

namespace Go.Proofs
open Go.Shelf
def Tryz.keys26_ren : Go.Shelf.Ren := ⟨fun | 7 => 26 | 10 => 60 | n => n, fun | 23 => 60 | 26 => 9 | 3 => 4 | 28 => 63 | 0 => 0 | 27 => 62 | 33 => 29 | 4 => 4 | n => n, fun | n => n⟩
theorem Tryz.keys26 : Go.Proofs.SlLaysZ.n7 Tryz.prog Tryz.keys26_ren := {
 mixed := by kernel_rfl
 f7 := ⟨Tryz.f26.name, by decide, Tryz.func26.trans (congrArg some (by kernel_rfl))⟩
 f10 := ⟨Tryz.f60.name, by decide, Tryz.func60.trans (congrArg some (by kernel_rfl))⟩
 t0 := Tryz.underlying0
 a0 := Tryz.isAgg0
 z0 := Tryz.sizeOf0
 v0 := Tryz.zeroValue0
 t4 := Tryz.underlying4
 a4 := Tryz.isAgg4
 z4 := Tryz.sizeOf4
 v4 := Tryz.zeroValue4
 t23 := Tryz.underlying60
 a23 := Tryz.isAgg60
 z23 := Tryz.sizeOf60
 v23 := Tryz.zeroValue60
 t26 := Tryz.underlying9
 a26 := Tryz.isAgg9
 z26 := Tryz.sizeOf9
 v26 := Tryz.zeroValue9
 t27 := Tryz.underlying62
 a27 := Tryz.isAgg62
 z27 := Tryz.sizeOf62
 v27 := Tryz.zeroValue62
 t28 := Tryz.underlying63
 a28 := Tryz.isAgg63
 z28 := Tryz.sizeOf63
 v28 := Tryz.zeroValue63
 t33 := Tryz.underlying29
 a33 := Tryz.isAgg29
 z33 := Tryz.sizeOf29
 v33 := Tryz.zeroValue29 }
def Tryz.sorted25_ren : Go.Shelf.Ren := ⟨fun | 6 => 25 | 8 => 59 | 9 => 31 | 11 => 101 | 13 => 72 | 12 => 71 | 23 => 127 | 24 => 128 | 14 => 118 | 15 => 119 | 16 => 120 | 17 => 121 | 18 => 122 | 19 => 123 | 20 => 124 | 21 => 125 | 22 => 126 | 25 => 176 | 26 => 177 | 27 => 178 | 28 => 179 | 29 => 180 | 30 => 149 | 31 => 213 | n => n, fun | 26 => 9 | 28 => 63 | 24 => 24 | 0 => 0 | 3 => 3 | 37 => 138 | 48 => 201 | 50 => 203 | 4 => 4 | 40 => 194 | 39 => 193 | 45 => 133 | 5 => 5 | 9 => 9 | 51 => 246 | 55 => 250 | 57 => 275 | 58 => 276 | 33 => 29 | n => n, fun | n => n⟩
theorem Tryz.sorted25 : Go.Proofs.SlLaysZ.n6 Tryz.prog Tryz.sorted25_ren := {
 mixed := by kernel_rfl
 f6 := ⟨Tryz.f25.name, by decide, Tryz.func25.trans (congrArg some (by kernel_rfl))⟩
 f8 := ⟨Tryz.f59.name, by decide, Tryz.func59.trans (congrArg some (by kernel_rfl))⟩
 f11 := ⟨Tryz.f101.name, by decide, Tryz.func101.trans (congrArg some (by kernel_rfl))⟩
 t0 := Tryz.underlying0
 a0 := Tryz.isAgg0
 z0 := Tryz.sizeOf0
 v0 := Tryz.zeroValue0
 t24 := Tryz.underlying24
 a24 := Tryz.isAgg24
 z24 := Tryz.sizeOf24
 v24 := Tryz.zeroValue24
 t26 := Tryz.underlying9
 a26 := Tryz.isAgg9
 z26 := Tryz.sizeOf9
 v26 := Tryz.zeroValue9
 t28 := Tryz.underlying63
 a28 := Tryz.isAgg63
 z28 := Tryz.sizeOf63
 v28 := Tryz.zeroValue63
 i26 := by kernel_rfl }
open Go.RowKit Go.Maps Go.Sort in
theorem Tryz.sorts25 (m : Nat) : AnyZ.SortsIn Tryz.prog Tryz.sorted25_ren Fence.wide m :=
 ⟨fun blk off cap ss W hH h4 h5 => callsIn_wide.2 (Tryz.slices_Sort_string blk off cap ss W hH h4 h5), fun p cap W => callsIn_wide.2 (Tryz.slices_Sort_string_none p cap W)⟩
end Go.Proofs
namespace Go.Proofs.YtookcfeogbeooaaGreatDoor
open Go Go.Proofs Go.Sort Go.RowKit Go.Shelf
open Go.WideElems (Fit rd rg)
def rKey (v : Value) : Option (DataW Unit × List MemPlace) := some (.nil, [])
theorem ownsMap_of {w : World} {b : Nat} (hm : MapObj w.heap[b]? (mapL Value.string Value.bool m)) (hk : ∀ p ∈ m, p.1.size ≤ maxLen) (hn : (m.map (·.1)).Nodup) (hl : m.length ≤ 100000) :
  ∃ D0 : DataW Unit, w.ownsMap Tryz.prog 9 rKey b m.length D0 ∧ (strKeys D0).Perm (m.map fun p => p.1.data.toList) ∧ Maps.size D0 = m.length := by
 obtain ⟨e0, c0, hb, h8, hp, hc⟩ := hm
 have hlen : e0.toList.length = m.length := by have := congrArg List.length h8; simpa [mapL] using this
 have h5 : e0.toList.map (·.key) = (m.map (·.1)).map Value.string := keys_of h8
 have b4 : ∀ x ∈ e0.toList, ∃ p ∈ m, x.key = .string p.1 ∧ rd Tryz.prog 9 rKey x = some (.string p.1.data.toList, .nil) := by
  intro x hx
  have h1 : (x.key, x.val) ∈ mapL Value.string Value.bool m := by rw [← h8]; exact List.mem_map.2 ⟨x, hx, rfl⟩
  obtain ⟨p, h9, h6⟩ := List.mem_map.1 h1
  simp only [Prod.mk.injEq] at h6
  refine ⟨p, h9, h6.1.symm, ?_⟩
  obtain ⟨k, v, bn⟩ := x
  simp only at h6
  rw [← h6.1]
  exact WideElems.rd_mk (yv := (.nil, [])) (by simp [keyOf, Tryz.underlying9, mapKey, hk p h9]) rfl
 have b6 : e0.size = m.length := by rw [← hlen]; simp
 have b5 : (e0.toList.map (·.key)).Nodup := by
  rw [h5]
  exact hn.map _ (fun a b h h2 => h (by simpa using h2))
 have h7 : Fit Tryz.prog 9 rKey e0 c0 := ⟨by simp only [maxLen]; omega, ⟨hc, by rw [pw_born] at hp; exact hp.imp (fun h => Nat.ne_of_lt h), b5⟩, fun x hx => by obtain ⟨p, _, _, h⟩ := b4 x hx; exact ⟨_, h⟩⟩
 refine ⟨.map ((e0.toList.map (rg Tryz.prog 9 rKey)).foldr DataW.insert []), ⟨e0, c0, hb, h7, by omega, rfl⟩, ?_, ?_⟩
 ·have hr : ∀ x ∈ e0.toList, strOf (rg Tryz.prog 9 rKey x).1 = match x.key with | .string s => s.data.toList | _ => [] := by
   intro x hx
   obtain ⟨p, _, h3, h4⟩ := b4 x hx
   rw [WideElems.rg_of h4, h3, strOf]
  show (((e0.toList.map (rg Tryz.prog 9 rKey)).foldr DataW.insert []).map fun p => strOf p.1).Perm _
  generalize rg Tryz.prog 9 rKey = r at hr ⊢
  have h1 : (e0.toList.map r).map (fun p => strOf p.1) = m.map fun p => p.1.data.toList := by
   have h2 : (e0.toList.map r).map (fun p => strOf p.1) = (e0.toList.map (·.key)).map fun v => match v with | Value.string s => s.data.toList | _ => [] := by
    rw [List.map_map, List.map_map]
    exact List.map_congr_left hr
   rw [h2, h5]
   simp [List.map_map, Function.comp_def]
  rw [← h1]
  exact (WideShapes.sorted_perm _).map _
 ·have := (WideShapes.sorted_perm (e0.toList.map (rg Tryz.prog 9 rKey))).length_eq
  show ((e0.toList.map (rg Tryz.prog 9 rKey)).foldr DataW.insert []).length = _
  rw [this]; simp [← hlen]
theorem c25 {m : List (BA × Bool)} {nb : Nat} (hk : ∀ p ∈ m, p.1.size ≤ maxLen) (hn : (m.map (·.1)).Nodup) (hl : m.length ≤ 100000) : Ct PP 25 #[.func (.func 60) #[] #[.pointer (some ⟨nb, 0, none⟩)]] H [.blk nb 60 [.map (some b)], .map b (mapL Value.string Value.bool m)] fun v H' O' =>
  ∃ A c, ∃ ys : LB, O' = [.row 9 1 (.slice A ys.length c) ys.length (ys.map .string)] ∧ v = .slice A ys.length c ∧ ys.Perm (m.map (·.1)) ∧ ys.Pairwise leB := by
 intro w hs
 have hb : w.heap[nb]? = some (.cells #[.map (some b)] 60 (0, 0)) := hs.own (.blk nb 60 [.map (some b)]) (by simp)
 have hm : MapObj w.heap[b]? (mapL Value.string Value.bool m) := hs.own (.map b (mapL Value.string Value.bool m)) (by simp)
 obtain ⟨D0, b7, b4, h8⟩ := ownsMap_of hm hk hn hl
 have b5 : SeqGives Fence.wide 2 Tryz.prog 60 #[.pointer (some ⟨nb, 0, none⟩)] encStr (fun ss => ss.Perm (strKeys D0)) (Maps.size D0) w :=
  AnyZ.keys_gives (ρ := Tryz.keys26_ren) { Tryz.keys26 with } Fence.wide _ trivial rfl oM nb b m.length D0 w (Array.getElem?_eq_some_iff.1 hb).1 (by simp [World.cell?, hb]) b7
 have b8 := AnyZ.sorted_in Tryz.sorted25 Fence.wide 5 trivial trivial trivial trivial rfl oM (Tryz.sorts25 _) (enters_of Tryz.func31 (by kernel_rfl) rfl) 60 #[.pointer (some ⟨nb, 0, none⟩)] trivial (enters_of Tryz.func60 (by kernel_rfl) rfl) _ _ (by rw [h8]; simp only [maxLen]; omega) (by rw [h8]; omega) w b5
 refine (callsIn_wide.1 b8).mono ?_
 rintro e w' ⟨v, ss, rfl, hS, h5, b9, h4⟩
 have c0 : ((ss.mergeSort fun x y => decide (x ≤ y)).map encStr) = ((ss.mergeSort fun x y => decide (x ≤ y)).map fun l => (⟨l.toArray⟩ : BA)).map Value.string := by simp [List.map_map, Function.comp_def]
 have hlen : ((ss.mergeSort fun x y => decide (x ≤ y)).map fun l => (⟨l.toArray⟩ : BA)).length = ss.length := by simp
 obtain ⟨A, c, rfl⟩ : ∃ A c, v = .slice A ss.length c := by
  rcases h5.2 with ⟨rfl, h0⟩ | ⟨g, cap, cur, rfl, _⟩
  ·exact ⟨none, 0, by rw [h0]⟩
  ·exact ⟨_, _, rfl⟩
 have h6 : w'.ownsRow 0 9 1 (.slice A ss.length c) ss.length ((ss.mergeSort fun x y => decide (x ≤ y)).map encStr) := by
  refine ⟨h5.1, ?_⟩
  rcases h5.2 with h | ⟨g, cap, cur, h1, h2, h3⟩
  ·exact .inl h
  ·exact .inr ⟨g, cap, cur, h1, Nat.zero_le _, h3⟩
 have h7 : ∀ g ∈ vblk (.slice A ss.length c), w.heap.size ≤ g := by
  rcases h5.2 with ⟨h, _⟩ | ⟨g, cap, cur, h1, h2, h3⟩
  ·injection h with h1; subst h1; simp [vblk]
  ·injection h1 with h1; subst h1; simp [vblk]; exact h2
 refine ⟨_, H, _, rfl, ⟨A, c, ((ss.mergeSort fun x y => decide (x ≤ y)).map fun l => (⟨l.toArray⟩ : BA)), rfl, by rw [hlen], ?_, ?_⟩, ?_⟩
 ·have h1 : ((ss.mergeSort fun x y => decide (x ≤ y)).map fun l => (⟨l.toArray⟩ : BA)).Perm ((m.map fun p => p.1.data.toList).map fun l => (⟨l.toArray⟩ : BA)) :=
   (((List.mergeSort_perm _ _).trans hS).trans b4).map _
  simpa [List.map_map, Function.comp_def] using h1
 ·rw [List.pairwise_map]
  refine (List.pairwise_mergeSort le_trans' le_total' _).imp fun {a b} h => ?_
  simpa [leB] using h
 ·rw [hlen, ← c0]
  have h9 : ∀ g, w.heap.size ≤ g → H g = none := fun g hg => by
   cases hc : H g with
   | none => rfl
   | some p => have := hs.lt hc; omega
  have b6 : fps [HL.row 9 1 (.slice A ss.length c) ss.length ((ss.mergeSort fun x y => decide (x ≤ y)).map encStr)] = vblk (.slice A ss.length c) := by simp [fps, HL.fp]
  refine ⟨⟨fun g p hg => (h4.block g (hs.lt hg)).trans (hs.ghost g p hg), fun x hx => by simp only [List.mem_singleton] at hx; subst hx; exact h6, fun g hg => ?_, ?_⟩, Ghost.le.refl _, h4.os, h4.tape, h4.output, h4.size, fun g hg _ => h4.block g hg, fun g p hg => .inl (by rw [hg]; simp), fun g hg => .inr (h7 g (b6 ▸ hg)), fun h => h.elim⟩
  ·rw [b6] at hg
   exact ⟨h9 g (h7 g hg), ownsRow_lt h6 g hg⟩
  ·rw [b6]; cases A <;> simp [vblk]
end Go.Proofs.YtookcfeogbeooaaGreatDoor

namespace Go.Proofs.YtookcfeogbeooaaGreatDoor
open Go Go.Proofs
def SSet (ys : LB) : Prop := ys.Pairwise leB ∧ ys.Nodup
theorem leB_anti (h1 : leB x y) (h2 : leB y x) : x = y := by
 have h := List.le_antisymm h1 h2
 obtain ⟨⟨a⟩⟩ := x
 obtain ⟨⟨b⟩⟩ := y
 simp only at h
 subst h
 rfl
theorem SSet.ext : ∀ {xs ys : LB}, SSet xs → SSet ys → (∀ s, s ∈ xs ↔ s ∈ ys) → xs = ys
 | [], [], _, _, _ => rfl
 | [], y :: ys, _, _, h => by have := (h y).2 (by simp); cases this
 | x :: xs, [], _, _, h => by have := (h x).1 (by simp); cases this
 | x :: xs, y :: ys, ⟨h1, h2⟩, ⟨h3, h4⟩, h => by
  rw [List.pairwise_cons] at h1 h3
  rw [List.nodup_cons] at h2 h4
  have h5 : x = y := by
   have hx : x ∈ y :: ys := (h x).1 (by simp)
   have hy : y ∈ x :: xs := (h y).2 (by simp)
   rcases List.mem_cons.1 hx with e | hx
   ·exact e
   ·rcases List.mem_cons.1 hy with e | hy
    ·exact e.symm
    ·exact leB_anti (h1.1 y hy) (h3.1 x hx)
  subst h5
  rw [SSet.ext ⟨h1.2, h2.2⟩ ⟨h3.2, h4.2⟩ fun s => ?_]
  constructor
  ·intro hs
   rcases List.mem_cons.1 ((h s).1 (by simp [hs])) with e | e
   ·subst e; exact absurd hs h2.1
   ·exact e
  ·intro hs
   rcases List.mem_cons.1 ((h s).2 (by simp [hs])) with e | e
   ·subst e; exact absurd hs h4.1
   ·exact e
def ActsR (l : List Variant) (ys : LB) (e : Int) : Prop :=
 (e = 5 ∧ ys = []) ∨ (e = 0 ∧ SSet ys ∧ ys.length ≤ 40 ∧ ∀ s, s ∈ ys ↔ ∃ v ∈ l, s ∈ v.acts)
theorem isName_size (h : isName s = true) : s.size ≤ 40 := by
 rcases Nat.lt_or_ge 40 s.size with h1 | h1
 ·rw [not_isName_size (.inr h1)] at h; cases h
 ·exact h1
theorem okV_names (h : okV v = true) : ∀ s ∈ v.acts, isName s = true := by
 unfold okV at h; rw [Bool.and_eq_true, Bool.and_eq_true, List.all_eq_true] at h; exact h.1.2
theorem validVs_iff {l : List Variant} : validVs l = true ↔ l.length ≤ 300 ∧ (∀ v ∈ l, okV v = true) ∧ ascV l = true := by
 unfold validVs; rw [Bool.and_eq_true, Bool.and_eq_true, decide_eq_true_eq, List.all_eq_true]; exact and_assoc
def seenV (l : List Variant) (i : Nat) (x : LB) (k : Nat) (s : BA) : Prop := (∃ j v, j < i ∧ l[j]? = some v ∧ s ∈ v.acts) ∨ s ∈ x.take k
theorem seen_put {β : Type} {l : List Variant} {m : List (BA × β)} {b : β} (h : ∀ t, t ∈ m.map (·.1) ↔ seenV l i x k t) (hx : x[k]? = some s) : ∀ t, t ∈ (mput m s b).map (·.1) ↔ seenV l i x (k + 1) t := by
 intro t
 have hk : x.take (k + 1) = x.take k ++ [s] := by rw [List.take_add_one, hx]; rfl
 have h1 := h t
 have h2 := h s
 unfold seenV at *
 rw [mput_keys, hk, List.mem_append, List.mem_singleton]
 split
 ·rename_i hs
  rw [h1]
  constructor
  ·rintro (h3 | h3)
   ·exact .inl h3
   ·exact .inr (.inl h3)
  ·rintro (h3 | h3 | h3)
   ·exact .inl h3
   ·exact .inr h3
   ·subst h3; exact h2.1 hs
 ·rw [List.mem_append, List.mem_singleton, h1]
  exact ⟨fun h3 => h3.elim (fun h4 => h4.elim .inl fun h5 => .inr (.inl h5)) fun h4 => .inr (.inr h4), fun h3 => h3.elim (fun h4 => .inl (.inl h4)) fun h4 => h4.elim (fun h5 => .inl (.inr h5)) .inr⟩
theorem seen_next {l : List Variant} {i : Nat} {k : Nat} (hx : l[i]? = some x) (hk : x.acts.length ≤ k) (t : BA) : seenV l i x.acts k t ↔ seenV l (i + 1) [] 0 t := by
 unfold seenV
 rw [List.take_of_length_le hk]
 constructor
 ·rintro (⟨j, v, h1, h2, h3⟩ | h)
  ·exact .inl ⟨j, v, by omega, h2, h3⟩
  ·exact .inl ⟨i, x, by omega, hx, h⟩
 ·rintro (⟨j, v, h1, h2, h3⟩ | h)
  ·rcases Nat.lt_or_ge j i with h4 | h4
   ·exact .inl ⟨j, v, h4, h2, h3⟩
   ·obtain rfl : j = i := by omega
    rw [hx] at h2; cases h2
    exact .inr h3
  ·simp at h
theorem seen_start {l : List Variant} (t : BA) : seenV l i [] 0 t ↔ seenV l i x 0 t := by unfold seenV; simp
theorem seen_all {l : List Variant} {i : Nat} (hi : l.length ≤ i) (t : BA) : seenV l i [] 0 t ↔ ∃ v ∈ l, t ∈ v.acts := by
 unfold seenV
 constructor
 ·rintro (⟨j, v, h1, h2, h3⟩ | h)
  ·exact ⟨v, mG h2, h3⟩
  ·simp at h
 ·rintro ⟨v, h1, h2⟩
  obtain ⟨j, hj⟩ := List.getElem?_of_mem h1
  exact .inl ⟨j, v, by have := (gE hj).1; omega, hj, h2⟩
section
open Go.Proofs.Tryz
attribute [local irreducible] TK Yl OpK AnyT wpList Code.wp
theorem c26 : Ct PP 26 #[.map (some b)] H [] fun v H' O' => ∃ nb, O' = [.blk nb 60 [.map (some b)]] ∧ v = .func (.func 60) #[] #[.pointer (ad nb)] := by
 refine cB func26 ntmps26 fun I hD hI h4 => ?_
 refine g2a ?_
 intros
 refine bX [.map (some b)] fun b2 => ?_
 refine g7a ?_
 intros
 refine rT results26 ?_
 exact ⟨_, rfl, rfl⟩
theorem c10 {l : List Variant} (hl : Sl rVariant H l A n c) (hv : validVs l = true) : Ct PP 10 #[.slice A n c] H [] fun v H' O' => O' = [] ∧ ∃ A k c ys e, v = .tuple #[.slice A k c, .int .i64 e] ∧ Sl rStr H' ys A k c ∧ ActsR l ys e := by
 have hn := hl.2.2.1
 refine cB func10 ntmps10 fun I hD hI f8 => ?_
 refine g8c ?_
 intros
 refine g1 ?_
 refine sq rfl (fS hD rfl call9 rfl (c9 hl) ?_)
 rintro v4 rfl
 rw [hv]
 refine g6a ?_
 intros
 refine sq rfl (tMakeMap dC fun b6 => ?_)
 refine g10b ?_
 intros
 refine lp0 (fun D E H' O m' => ∃ (i : Nat) (m : List (BA × Bool)), H = H' ∧ (i ≤ n) ∧ ((m.map (·.1)).Nodup) ∧ (∀ t, t ∈ m.map (·.1) ↔ seenV l i [] 0 t) ∧ m' = n - i ∧ O = [.map b6 (mapL Value.string Value.bool m)] ∧ E = (15, .int .i64 (i : Int)) :: D) [4, 13, 14] [0] ⟨0, [], rfl, (Nat.zero_le _), (by simp), (fun t => by simp [seenV]), rfl, rfl, rfl⟩ ?_
 rintro _ _ _ _ ⟨i, m, rfl, hi, b8, d2, rfl, rfl, rfl⟩ _ b7
 refine g5b ?_
 intros
 refine cD ?_ ?_ <;> intro d3
 refine g5b ?_
 intros
 obtain ⟨d1, h9⟩ := eX hl i
 obtain ⟨e3, o5, e1, d9, c0, d6⟩ := hl.at_ h9
 obtain ⟨A0, n1, c30, rfl, h4⟩ := c0
 refine g2 ?_
 refine aL fun e4 => ?_
 refine sG 0 ?_
 refine g9a ?_
 intros
 have e5 := h4.2.2.1
 have e7 := h4.len
 refine lp1 (fun D f E H' O m => ∃ (k : Nat) (m2 : List (BA × Bool)), H = H' ∧ ((k : Int) ≤ (n1 : Int)) ∧ ((m2.map (·.1)).Nodup) ∧ (∀ t, t ∈ m2.map (·.1) ↔ seenV l i d1.acts k t) ∧ m = d1.acts.length - k ∧ O = [f, .map b6 (mapL Value.string Value.bool m2)] ∧ E = (22, .int .i64 (k : Int)) :: D) [4, 13, 14, 15, 20, 21] [0, 1] ⟨0, m, rfl, oM, b8, (fun t => (d2 t).trans (seen_start t)), rfl, rfl, rfl⟩ ?_
 rintro _ _ _ _ ⟨k, m2, rfl, hk, d0, c1, rfl, rfl, rfl⟩ _ b5
 refine g5b ?_
 intros
 refine cD ?_ ?_ <;> intro e0
 refine g5b ?_
 intros
 obtain ⟨d5, h7⟩ := eX h4 k
 obtain ⟨f9, o4, d8, d7⟩ := h4.atS h7
 refine g7 ?_
 refine sq rfl (tMapUpd (g := Value.bool) (v := true) (i := 1) uC (keyStr uC) rfl rfl rfl rfl ?_)
 refine g4 ?_
 exact nK b5 ⟨k + 1, mput m2 d5 true, rfl, oM, (mput_nodup d0 _ _), (seen_put c1 h7), rfl, rfl, rfl⟩
 refine g4 ?_
 exact nK b7 ⟨i + 1, m2, rfl, oM, d0, (fun t => (c1 t).trans (seen_next h9 (by have := h4.len; omega) t)), rfl, rfl, rfl⟩
 refine g8b ?_
 intros
 refine cD ?_ ?_ <;> intro d4
 refine g5a ?_
 intros
 refine kP [] ?_
 refine r2 results10 ?_
 exact ⟨rfl, _, _, _, [], _, rfl, Sl.nil _ _, .inl ⟨rfl, rfl⟩⟩
 refine g4a ?_
 intros
 refine sq rfl (fT hD [] [0] rfl call26 rfl c26 ?_)
 rintro v1 O2 ⟨n0, rfl, rfl⟩
 have h5 : ∀ t, t ∈ m.map (·.1) ↔ ∃ v ∈ l, t ∈ v.acts := fun t => (d2 t).trans (seen_all (by have := hl.len; omega) t)
 have e2 : ∀ p ∈ m, p.1.size ≤ maxLen := fun p hp => by obtain ⟨v, h1, h2⟩ := (h5 p.1).1 (List.mem_map.2 ⟨p, hp, rfl⟩); have := isName_size (okV_names ((validVs_iff.1 hv).2.1 v h1) _ h2); unfold maxLen; omega
 have e9 : (mapL Value.string Value.bool m).length = m.length := by simp [mapL]
 refine sq rfl (fT hD [0, 1] [] rfl call25 rfl (c25 (m := m) e2 b8 oM) ?_)
 rintro v0 O1 ⟨A1, e8, y0, rfl, rfl, h6, b4⟩
 refine g3 ?_
 have e6 : y0.length = m.length := by rw [h6.length_eq]; simp
 refine tR 0 (r := rStr) (ys := y0) (repsS _) fun H0 h8 b9 => ?_
 have hl := hl.mono h8
 refine r2 results10 ?_
 exact ⟨rfl, _, _, _, _, _, rfl, b9, .inr ⟨rfl, ⟨b4, h6.nodup_iff.2 b8⟩, by omega, fun t => (h6.mem_iff).trans (h5 t)⟩⟩
end
end Go.Proofs.YtookcfeogbeooaaGreatDoor
