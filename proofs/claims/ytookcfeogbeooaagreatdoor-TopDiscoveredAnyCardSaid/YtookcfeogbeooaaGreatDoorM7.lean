/-
Plain steps, so many at once. Names: which strings are names. Searches in slices, and the order of words. Comparisons, copies and searches for one element. Plain data and plain functions, 2: variants that are valid, trees that are valid. Valid variants, valid trees.
Conditions: those that each theorem states.
-/
import Derived.Test.YtookcfeogbeooaaGreatDoorM6
set_option linter.all false
set_option maxRecDepth 100000
set_option maxHeartbeats 8000000
set_option autoImplicit true
set_option relaxedAutoImplicit true
namespace Go.Proofs.YtookcfeogbeooaaGreatDoor
open Go Go.Proofs
theorem g1 {A B : Prop} (k : B) (h : Bx B → A := by
 intro h
 iterate 1 first | refine TK.seq fun _ _ => ?_ | refine s1 ?_
 exact h.m) : A := h ⟨k⟩
theorem g1a {A B : Prop} (k : B) (h : Bx B → A := by
 intro h
 iterate 1 first | refine TK.seq fun _ _ => ?_ | refine s1 ?_
 rename_i a0 b0
 revert a0 b0
 exact h.m) : A := h ⟨k⟩
theorem g2 {A B : Prop} (k : B) (h : Bx B → A := by
 intro h
 iterate 2 first | refine TK.seq fun _ _ => ?_ | refine s1 ?_
 exact h.m) : A := h ⟨k⟩
theorem g2a {A B : Prop} (k : B) (h : Bx B → A := by
 intro h
 iterate 2 first | refine TK.seq fun _ _ => ?_ | refine s1 ?_
 rename_i a0 b0
 revert a0 b0
 exact h.m) : A := h ⟨k⟩
theorem g2b {A B : Prop} (k : B) (h : Bx B → A := by
 intro h
 iterate 2 first | refine TK.seq fun _ _ => ?_ | refine s1 ?_
 rename_i a0 b0 a1 b1
 revert a0 b0 a1 b1
 exact h.m) : A := h ⟨k⟩
theorem g3 {A B : Prop} (k : B) (h : Bx B → A := by
 intro h
 iterate 3 first | refine TK.seq fun _ _ => ?_ | refine s1 ?_
 exact h.m) : A := h ⟨k⟩
theorem g3a {A B : Prop} (k : B) (h : Bx B → A := by
 intro h
 iterate 3 first | refine TK.seq fun _ _ => ?_ | refine s1 ?_
 rename_i a0 b0
 revert a0 b0
 exact h.m) : A := h ⟨k⟩
theorem g3b {A B : Prop} (k : B) (h : Bx B → A := by
 intro h
 iterate 3 first | refine TK.seq fun _ _ => ?_ | refine s1 ?_
 rename_i a0 b0 a1 b1
 revert a0 b0 a1 b1
 exact h.m) : A := h ⟨k⟩
theorem g4 {A B : Prop} (k : B) (h : Bx B → A := by
 intro h
 iterate 4 first | refine TK.seq fun _ _ => ?_ | refine s1 ?_
 exact h.m) : A := h ⟨k⟩
theorem g4a {A B : Prop} (k : B) (h : Bx B → A := by
 intro h
 iterate 4 first | refine TK.seq fun _ _ => ?_ | refine s1 ?_
 rename_i a0 b0
 revert a0 b0
 exact h.m) : A := h ⟨k⟩
theorem g4b {A B : Prop} (k : B) (h : Bx B → A := by
 intro h
 iterate 4 first | refine TK.seq fun _ _ => ?_ | refine s1 ?_
 rename_i a0 b0 a1 b1
 revert a0 b0 a1 b1
 exact h.m) : A := h ⟨k⟩
theorem g5 {A B : Prop} (k : B) (h : Bx B → A := by
 intro h
 iterate 5 first | refine TK.seq fun _ _ => ?_ | refine s1 ?_
 exact h.m) : A := h ⟨k⟩
theorem g5a {A B : Prop} (k : B) (h : Bx B → A := by
 intro h
 iterate 5 first | refine TK.seq fun _ _ => ?_ | refine s1 ?_
 rename_i a0 b0
 revert a0 b0
 exact h.m) : A := h ⟨k⟩
theorem g5b {A B : Prop} (k : B) (h : Bx B → A := by
 intro h
 iterate 5 first | refine TK.seq fun _ _ => ?_ | refine s1 ?_
 rename_i a0 b0 a1 b1
 revert a0 b0 a1 b1
 exact h.m) : A := h ⟨k⟩
theorem g6 {A B : Prop} (k : B) (h : Bx B → A := by
 intro h
 iterate 6 first | refine TK.seq fun _ _ => ?_ | refine s1 ?_
 exact h.m) : A := h ⟨k⟩
theorem g6a {A B : Prop} (k : B) (h : Bx B → A := by
 intro h
 iterate 6 first | refine TK.seq fun _ _ => ?_ | refine s1 ?_
 rename_i a0 b0
 revert a0 b0
 exact h.m) : A := h ⟨k⟩
theorem g6b {A B : Prop} (k : B) (h : Bx B → A := by
 intro h
 iterate 6 first | refine TK.seq fun _ _ => ?_ | refine s1 ?_
 rename_i a0 b0 a1 b1
 revert a0 b0 a1 b1
 exact h.m) : A := h ⟨k⟩
theorem g7 {A B : Prop} (k : B) (h : Bx B → A := by
 intro h
 iterate 7 first | refine TK.seq fun _ _ => ?_ | refine s1 ?_
 exact h.m) : A := h ⟨k⟩
theorem g7a {A B : Prop} (k : B) (h : Bx B → A := by
 intro h
 iterate 7 first | refine TK.seq fun _ _ => ?_ | refine s1 ?_
 rename_i a0 b0
 revert a0 b0
 exact h.m) : A := h ⟨k⟩
theorem g7b {A B : Prop} (k : B) (h : Bx B → A := by
 intro h
 iterate 7 first | refine TK.seq fun _ _ => ?_ | refine s1 ?_
 rename_i a0 b0 a1 b1
 revert a0 b0 a1 b1
 exact h.m) : A := h ⟨k⟩
theorem g8 {A B : Prop} (k : B) (h : Bx B → A := by
 intro h
 iterate 8 first | refine TK.seq fun _ _ => ?_ | refine s1 ?_
 exact h.m) : A := h ⟨k⟩
theorem g8a {A B : Prop} (k : B) (h : Bx B → A := by
 intro h
 iterate 8 first | refine TK.seq fun _ _ => ?_ | refine s1 ?_
 rename_i a0 b0
 revert a0 b0
 exact h.m) : A := h ⟨k⟩
theorem g8b {A B : Prop} (k : B) (h : Bx B → A := by
 intro h
 iterate 8 first | refine TK.seq fun _ _ => ?_ | refine s1 ?_
 rename_i a0 b0 a1 b1
 revert a0 b0 a1 b1
 exact h.m) : A := h ⟨k⟩
theorem g8c {A B : Prop} (k : B) (h : Bx B → A := by
 intro h
 iterate 8 first | refine TK.seq fun _ _ => ?_ | refine s1 ?_
 rename_i a0 b0 a1 b1 a2 b2
 revert a0 b0 a1 b1 a2 b2
 exact h.m) : A := h ⟨k⟩
theorem g9 {A B : Prop} (k : B) (h : Bx B → A := by
 intro h
 iterate 9 first | refine TK.seq fun _ _ => ?_ | refine s1 ?_
 exact h.m) : A := h ⟨k⟩
theorem g9a {A B : Prop} (k : B) (h : Bx B → A := by
 intro h
 iterate 9 first | refine TK.seq fun _ _ => ?_ | refine s1 ?_
 rename_i a0 b0
 revert a0 b0
 exact h.m) : A := h ⟨k⟩
theorem g9b {A B : Prop} (k : B) (h : Bx B → A := by
 intro h
 iterate 9 first | refine TK.seq fun _ _ => ?_ | refine s1 ?_
 rename_i a0 b0 a1 b1
 revert a0 b0 a1 b1
 exact h.m) : A := h ⟨k⟩
theorem g10 {A B : Prop} (k : B) (h : Bx B → A := by
 intro h
 iterate 10 first | refine TK.seq fun _ _ => ?_ | refine s1 ?_
 exact h.m) : A := h ⟨k⟩
theorem g10a {A B : Prop} (k : B) (h : Bx B → A := by
 intro h
 iterate 10 first | refine TK.seq fun _ _ => ?_ | refine s1 ?_
 rename_i a0 b0
 revert a0 b0
 exact h.m) : A := h ⟨k⟩
theorem g10b {A B : Prop} (k : B) (h : Bx B → A := by
 intro h
 iterate 10 first | refine TK.seq fun _ _ => ?_ | refine s1 ?_
 rename_i a0 b0 a1 b1
 revert a0 b0 a1 b1
 exact h.m) : A := h ⟨k⟩
theorem g11 {A B : Prop} (k : B) (h : Bx B → A := by
 intro h
 iterate 11 first | refine TK.seq fun _ _ => ?_ | refine s1 ?_
 exact h.m) : A := h ⟨k⟩
theorem g11a {A B : Prop} (k : B) (h : Bx B → A := by
 intro h
 iterate 11 first | refine TK.seq fun _ _ => ?_ | refine s1 ?_
 rename_i a0 b0
 revert a0 b0
 exact h.m) : A := h ⟨k⟩
theorem g11b {A B : Prop} (k : B) (h : Bx B → A := by
 intro h
 iterate 11 first | refine TK.seq fun _ _ => ?_ | refine s1 ?_
 rename_i a0 b0 a1 b1
 revert a0 b0 a1 b1
 exact h.m) : A := h ⟨k⟩
theorem g11c {A B : Prop} (k : B) (h : Bx B → A := by
 intro h
 iterate 11 first | refine TK.seq fun _ _ => ?_ | refine s1 ?_
 rename_i a0 b0 a1 b1 a2 b2
 revert a0 b0 a1 b1 a2 b2
 exact h.m) : A := h ⟨k⟩
theorem g12 {A B : Prop} (k : B) (h : Bx B → A := by
 intro h
 iterate 12 first | refine TK.seq fun _ _ => ?_ | refine s1 ?_
 exact h.m) : A := h ⟨k⟩
theorem g12a {A B : Prop} (k : B) (h : Bx B → A := by
 intro h
 iterate 12 first | refine TK.seq fun _ _ => ?_ | refine s1 ?_
 rename_i a0 b0
 revert a0 b0
 exact h.m) : A := h ⟨k⟩
theorem g12b {A B : Prop} (k : B) (h : Bx B → A := by
 intro h
 iterate 12 first | refine TK.seq fun _ _ => ?_ | refine s1 ?_
 rename_i a0 b0 a1 b1
 revert a0 b0 a1 b1
 exact h.m) : A := h ⟨k⟩
theorem g12c {A B : Prop} (k : B) (h : Bx B → A := by
 intro h
 iterate 12 first | refine TK.seq fun _ _ => ?_ | refine s1 ?_
 rename_i a0 b0 a1 b1 a2 b2
 revert a0 b0 a1 b1 a2 b2
 exact h.m) : A := h ⟨k⟩
theorem g13c {A B : Prop} (k : B) (h : Bx B → A := by
 intro h
 iterate 13 first | refine TK.seq fun _ _ => ?_ | refine s1 ?_
 rename_i a0 b0 a1 b1 a2 b2
 revert a0 b0 a1 b1 a2 b2
 exact h.m) : A := h ⟨k⟩
theorem g14c {A B : Prop} (k : B) (h : Bx B → A := by
 intro h
 iterate 14 first | refine TK.seq fun _ _ => ?_ | refine s1 ?_
 rename_i a0 b0 a1 b1 a2 b2
 revert a0 b0 a1 b1 a2 b2
 exact h.m) : A := h ⟨k⟩
theorem g15 {A B : Prop} (k : B) (h : Bx B → A := by
 intro h
 iterate 15 first | refine TK.seq fun _ _ => ?_ | refine s1 ?_
 exact h.m) : A := h ⟨k⟩
theorem g15c {A B : Prop} (k : B) (h : Bx B → A := by
 intro h
 iterate 15 first | refine TK.seq fun _ _ => ?_ | refine s1 ?_
 rename_i a0 b0 a1 b1 a2 b2
 revert a0 b0 a1 b1 a2 b2
 exact h.m) : A := h ⟨k⟩
theorem g16d {A B : Prop} (k : B) (h : Bx B → A := by
 intro h
 iterate 16 first | refine TK.seq fun _ _ => ?_ | refine s1 ?_
 rename_i a0 b0 a1 b1 a2 b2 a3 b3
 revert a0 b0 a1 b1 a2 b2 a3 b3
 exact h.m) : A := h ⟨k⟩
theorem g18 {A B : Prop} (k : B) (h : Bx B → A := by
 intro h
 iterate 18 first | refine TK.seq fun _ _ => ?_ | refine s1 ?_
 exact h.m) : A := h ⟨k⟩
theorem g18a {A B : Prop} (k : B) (h : Bx B → A := by
 intro h
 iterate 18 first | refine TK.seq fun _ _ => ?_ | refine s1 ?_
 rename_i a0 b0
 revert a0 b0
 exact h.m) : A := h ⟨k⟩
section
open Go.Proofs.Tryz
attribute [local irreducible] TK Yl OpK AnyT wpList Code.wp
theorem c95 {c : Int} : Ct PP 95 #[.int .u8 c] H [] fun v H' O' => O' = [] ∧ v = .bool (letterB c) := by
 refine cB func95 ntmps95 fun I hD hI h5 => ?_
 refine g9b ?_
 intros
 refine sD 5 ?_ ?_ <;> intro h7
 refine g4 ?_
 refine sD 9 ?_ ?_ <;> intro h8
 refine g9 ?_
 refine rT results95 ?_
 exact ⟨rfl, byAll (by simp only [letterB, decide_eq_true_eq, Bool.or_eq_true, Bool.and_eq_true, Bool.not_eq_true', reduceCtorEq, true_iff, false_iff, iff_true, iff_false, not_true_eq_false, not_false_eq_true, true_or, or_true, false_or, or_false, false_and, and_false, true_and, and_true]; try omega)⟩
 refine g3 ?_
 refine sD 12 ?_ ?_ <;> intro h6
 refine g6 ?_
 refine rT results95 ?_
 exact ⟨rfl, byAll (by simp only [letterB, decide_eq_true_eq, Bool.or_eq_true, Bool.and_eq_true, Bool.not_eq_true', reduceCtorEq, true_iff, false_iff, iff_true, iff_false, not_true_eq_false, not_false_eq_true, true_or, or_true, false_or, or_false, false_and, and_false, true_and, and_true]; try omega)⟩
 refine g6 ?_
 refine rT results95 ?_
 exact ⟨rfl, byAll (by simp only [letterB, decide_eq_true_eq, Bool.or_eq_true, Bool.and_eq_true, Bool.not_eq_true', reduceCtorEq, true_iff, false_iff, iff_true, iff_false, not_true_eq_false, not_false_eq_true, true_or, or_true, false_or, or_false, false_and, and_false, true_and, and_true]; try omega)⟩
 refine g7 ?_
 refine sD 12 ?_ ?_ <;> intro h4
 refine g6 ?_
 refine rT results95 ?_
 exact ⟨rfl, byAll (by simp only [letterB, decide_eq_true_eq, Bool.or_eq_true, Bool.and_eq_true, Bool.not_eq_true', reduceCtorEq, true_iff, false_iff, iff_true, iff_false, not_true_eq_false, not_false_eq_true, true_or, or_true, false_or, or_false, false_and, and_false, true_and, and_true]; try omega)⟩
 refine g6 ?_
 refine rT results95 ?_
 exact ⟨rfl, byAll (by simp only [letterB, decide_eq_true_eq, Bool.or_eq_true, Bool.and_eq_true, Bool.not_eq_true', reduceCtorEq, true_iff, false_iff, iff_true, iff_false, not_true_eq_false, not_false_eq_true, true_or, or_true, false_or, or_false, false_and, and_false, true_and, and_true]; try omega)⟩
theorem c96 {c : Int} : Ct PP 96 #[.int .u8 c] H [] fun v H' O' => O' = [] ∧ v = .bool (partB c) := by
 refine cB func96 ntmps96 fun I hD hI h6 => ?_
 refine g7b ?_
 intros
 refine sq rfl (fS hD rfl call95 rfl c95 ?_)
 rintro v3 rfl
 refine g1 ?_
 refine sB 5 ?_ ?_ <;> intro b4
 refine g18 ?_
 refine g3 ?_
 refine rT results96 ?_
 exact ⟨rfl, byAll (by simp only [partB, *, decide_eq_true_eq, Bool.or_eq_true, Bool.and_eq_true, Bool.not_eq_true', reduceCtorEq, true_iff, false_iff, iff_true, iff_false, not_true_eq_false, not_false_eq_true, true_or, or_true, false_or, or_false, false_and, and_false, true_and, and_true]; try omega)⟩
 refine g3 ?_
 refine sD 8 ?_ ?_ <;> intro h8
 refine g5 ?_
 refine sD 13 ?_ ?_ <;> intro h5
 refine g12 ?_
 refine g1 ?_
 refine rT results96 ?_
 exact ⟨rfl, byAll (by simp only [partB, *, decide_eq_true_eq, Bool.or_eq_true, Bool.and_eq_true, Bool.not_eq_true', reduceCtorEq, true_iff, false_iff, iff_true, iff_false, not_true_eq_false, not_false_eq_true, true_or, or_true, false_or, or_false, false_and, and_false, true_and, and_true]; try omega)⟩
 refine g4 ?_
 refine sD 17 ?_ ?_ <;> intro b5
 refine g9 ?_
 refine rT results96 ?_
 exact ⟨rfl, byAll (by simp only [partB, *, decide_eq_true_eq, Bool.or_eq_true, Bool.and_eq_true, Bool.not_eq_true', reduceCtorEq, true_iff, false_iff, iff_true, iff_false, not_true_eq_false, not_false_eq_true, true_or, or_true, false_or, or_false, false_and, and_false, true_and, and_true]; try omega)⟩
 refine g4 ?_
 refine sD 21 ?_ ?_ <;> intro h9
 refine g5 ?_
 refine rT results96 ?_
 exact ⟨rfl, byAll (by simp only [partB, *, decide_eq_true_eq, Bool.or_eq_true, Bool.and_eq_true, Bool.not_eq_true', reduceCtorEq, true_iff, false_iff, iff_true, iff_false, not_true_eq_false, not_false_eq_true, true_or, or_true, false_or, or_false, false_and, and_false, true_and, and_true]; try omega)⟩
 refine g5 ?_
 refine rT results96 ?_
 exact ⟨rfl, byAll (by simp only [partB, *, decide_eq_true_eq, Bool.or_eq_true, Bool.and_eq_true, Bool.not_eq_true', reduceCtorEq, true_iff, false_iff, iff_true, iff_false, not_true_eq_false, not_false_eq_true, true_or, or_true, false_or, or_false, false_and, and_false, true_and, and_true]; try omega)⟩
 refine g9 ?_
 refine sD 17 ?_ ?_ <;> intro h7
 refine g9 ?_
 refine rT results96 ?_
 exact ⟨rfl, byAll (by simp only [partB, *, decide_eq_true_eq, Bool.or_eq_true, Bool.and_eq_true, Bool.not_eq_true', reduceCtorEq, true_iff, false_iff, iff_true, iff_false, not_true_eq_false, not_false_eq_true, true_or, or_true, false_or, or_false, false_and, and_false, true_and, and_true]; try omega)⟩
 refine g4 ?_
 refine sD 21 ?_ ?_ <;> intro h4
 refine g5 ?_
 refine rT results96 ?_
 exact ⟨rfl, byAll (by simp only [partB, *, decide_eq_true_eq, Bool.or_eq_true, Bool.and_eq_true, Bool.not_eq_true', reduceCtorEq, true_iff, false_iff, iff_true, iff_false, not_true_eq_false, not_false_eq_true, true_or, or_true, false_or, or_false, false_and, and_false, true_and, and_true]; try omega)⟩
 refine g5 ?_
 refine rT results96 ?_
 exact ⟨rfl, byAll (by simp only [partB, *, decide_eq_true_eq, Bool.or_eq_true, Bool.and_eq_true, Bool.not_eq_true', reduceCtorEq, true_iff, false_iff, iff_true, iff_false, not_true_eq_false, not_false_eq_true, true_or, or_true, false_or, or_false, false_and, and_false, true_and, and_true]; try omega)⟩
theorem c51 {s : BA} : Ct PP 51 #[.string s] H [] fun v H' O' => O' = [] ∧ v = .bool (isName s) := by
 refine cB func51 ntmps51 fun I hD hI b8 => ?_
 refine g11c ?_
 intros
 refine sD 7 ?_ ?_ <;> intro b4
 refine g12 ?_
 refine g4a ?_
 intros
 refine rT results51 ?_
 first
  | exact ⟨rfl, congrArg Value.bool (not_isName_size oM).symm⟩
  | exact ⟨rfl, congrArg Value.bool (not_isName_part rfl (by simpa using b4)).symm⟩
  | exact ⟨rfl, congrArg Value.bool (not_isName_first rfl (by simpa using b4)).symm⟩
 refine g5 ?_
 refine sD 12 ?_ ?_ <;> intro b5
 refine g11a ?_
 intros
 refine rT results51 ?_
 first
  | exact ⟨rfl, congrArg Value.bool (not_isName_size oM).symm⟩
  | exact ⟨rfl, congrArg Value.bool (not_isName_part rfl (by simpa using b5)).symm⟩
  | exact ⟨rfl, congrArg Value.bool (not_isName_first rfl (by simpa using b5)).symm⟩
 refine g1 ?_
 obtain ⟨c1, b7, h5⟩ := str_at (s := s) (i := 0) oM
 refine qY (yIndexStr uC rfl rfl oM b7) rfl rfl rfl rfl rfl rfl ?_
 refine sqY rfl rfl rfl rfl (fS hD rfl call95 rfl c95 ?_)
 rintro v1 rfl
 refine g3 ?_
 refine cN ?_ ?_ <;> intro h4
 refine g4a ?_
 intros
 refine rT results51 ?_
 first
  | exact ⟨rfl, congrArg Value.bool (not_isName_size oM).symm⟩
  | exact ⟨rfl, congrArg Value.bool (not_isName_part h5 (by simpa using h4)).symm⟩
  | exact ⟨rfl, congrArg Value.bool (not_isName_first h5 (by simpa using h4)).symm⟩
 refine g9b ?_
 intros
 refine lp0 (fun D E H' O m => ∃ (i : Nat), H = H' ∧ (i ≤ s.size) ∧ (∀ (j : Nat) (x : UInt8), j < i → s.data.toList[j]? = some x → partB x.toNat = true) ∧ m = s.size - i ∧ O = [] ∧ E = (20, .int .i64 (i : Int)) :: D) [0, 19] [] ⟨0, rfl, Nat.zero_le _, upto_zero, rfl, rfl, rfl⟩ ?_
 rintro _ _ _ _ ⟨i, rfl, hi, hp, rfl, rfl, rfl⟩ _ h9
 refine g5b ?_
 intros
 refine cD ?_ ?_ <;> intro b6
 refine g12c ?_
 intros
 obtain ⟨c0, h8, h6⟩ := str_at (s := s) (i := i) oM
 refine q (yIndexStr uC rfl rfl oM h8) rfl rfl rfl ?_
 refine sq rfl (fS hD rfl call96 rfl c96 ?_)
 rintro v0 rfl
 refine g2 ?_
 refine cN ?_ ?_ <;> intro h7
 refine g4a ?_
 intros
 refine rT results51 ?_
 first
  | exact ⟨rfl, congrArg Value.bool (not_isName_size oM).symm⟩
  | exact ⟨rfl, congrArg Value.bool (not_isName_part h6 (by simpa using h7)).symm⟩
  | exact ⟨rfl, congrArg Value.bool (not_isName_first h6 (by simpa using h7)).symm⟩
 refine g4 ?_
 exact nK h9 ⟨i + 1, rfl, oM, (upto_succ hp h6 (by simpa using h7)), rfl, rfl, rfl⟩
 refine g5a ?_
 intros
 refine rT results51 ?_
 exact ⟨rfl, congrArg Value.bool (isName_of h5 oM (by simpa using h4) (upto_all hp (by rw [str_len]; omega))).symm⟩
theorem c22 {caps : LV} {p : BA → Bool} (hl : Sl rStr H xs A n c) (hn : n ≤ 140737488355328) (hg : ∀ (args : Array Value) (w : World), (callFunc g args).run PP w = .ok (.enter g args) w) (hf : ∀ x ∈ xs, Ct PP g ([.string x] ++ caps : LV).toArray H [] fun v H' O' => O' = [] ∧ v = .bool (p x)) : Ct PP 22 #[.slice A n c, .func (.func g) #[] caps.toArray] H [] fun v H' O' => O' = [] ∧ v = .int .i64 (idxOf p xs) := by
 refine cB func22 ntmps22 fun I hD hI b6 => ?_
 refine g12c ?_
 intros
 refine lp0 (fun D E H' O m => ∃ (i : Nat), H = H' ∧ (i ≤ n) ∧ (∀ (j : Nat) (y : BA), j < i → xs[j]? = some y → p y = false) ∧ m = n - i ∧ O = [] ∧ E = (8, .int .i64 (i : Int)) :: D) [0, 1, 7] [] ⟨0, rfl, Nat.zero_le _, upto_zero, rfl, rfl, rfl⟩ ?_
 rintro _ _ _ _ ⟨i, rfl, hi, hp, rfl, rfl, rfl⟩ _ h7
 refine g5b ?_
 intros
 refine cD ?_ ?_ <;> intro h8
 refine g13c ?_
 intros
 obtain ⟨b4, h4⟩ := eX hl i
 obtain ⟨b5, o4, h9, h6⟩ := hl.atS h4
 refine g2 ?_
 refine sq rfl (TK.callS hD rfl rfl (entV hg rfl rfl) (hf _ (mG h4)) ?_)
 rintro v0 rfl
 refine g1 ?_
 refine cN ?_ ?_ <;> intro h5
 refine g5a ?_
 intros
 refine rT results22 ?_
 exact ⟨rfl, congrArg (Value.int .i64) (idxOf_found hp h4 h5).symm⟩
 refine g4 ?_
 exact nK h7 ⟨i + 1, rfl, oM, (upto_succ hp h4 h5), rfl, rfl, rfl⟩
 refine g5a ?_
 intros
 refine rT results22 ?_
 exact ⟨rfl, congrArg (Value.int .i64) (idxOf_none (upto_all hp (by rw [hl.len]; omega))).symm⟩
theorem c7 {caps : LV} {p : BA → Bool} (hl : Sl rStr H xs A n c) (hn : n ≤ 140737488355328) (hg : ∀ (args : Array Value) (w : World), (callFunc g args).run PP w = .ok (.enter g args) w) (hf : ∀ x ∈ xs, Ct PP g ([.string x] ++ caps : LV).toArray H [] fun v H' O' => O' = [] ∧ v = .bool (p x)) : Ct PP 7 #[.slice A n c, .func (.func g) #[] caps.toArray] H [] fun v H' O' => O' = [] ∧ v = .bool (xs.any p) := by
 refine cB func7 ntmps7 fun I hD hI h4 => ?_
 refine g8b ?_
 intros
 refine sq rfl (fS hD rfl call22 rfl (c22 hl hn hg hf) ?_)
 rintro v3 rfl
 refine g3 ?_
 refine rT results7 ?_
 exact ⟨rfl, congrArg Value.bool (idxOf_any p xs)⟩
theorem c129 {caps : LV} {p : Int → Bool} (hl : Sl rInt H xs A n c) (hn : n ≤ 140737488355328) (hg : ∀ (args : Array Value) (w : World), (callFunc g args).run PP w = .ok (.enter g args) w) (hf : ∀ x ∈ xs, Ct PP g ([.int .i64 x] ++ caps : LV).toArray H [] fun v H' O' => O' = [] ∧ v = .bool (p x)) : Ct PP 129 #[.slice A n c, .func (.func g) #[] caps.toArray] H [] fun v H' O' => O' = [] ∧ v = .int .i64 (idxOf p xs) := by
 refine cB func129 ntmps129 fun I hD hI b6 => ?_
 refine g12c ?_
 intros
 refine lp0 (fun D E H' O m => ∃ (i : Nat), H = H' ∧ (i ≤ n) ∧ (∀ (j : Nat) (y : Int), j < i → xs[j]? = some y → p y = false) ∧ m = n - i ∧ O = [] ∧ E = (8, .int .i64 (i : Int)) :: D) [0, 1, 7] [] ⟨0, rfl, Nat.zero_le _, upto_zero, rfl, rfl, rfl⟩ ?_
 rintro _ _ _ _ ⟨i, rfl, hi, hp, rfl, rfl, rfl⟩ _ h7
 refine g5b ?_
 intros
 refine cD ?_ ?_ <;> intro h8
 refine g13c ?_
 intros
 obtain ⟨b4, h4⟩ := eX hl i
 obtain ⟨b5, o4, h9, h6⟩ := hl.atI h4
 refine g2 ?_
 refine sq rfl (TK.callS hD rfl rfl (entV hg rfl rfl) (hf _ (mG h4)) ?_)
 rintro v0 rfl
 refine g1 ?_
 refine cN ?_ ?_ <;> intro h5
 refine g5a ?_
 intros
 refine rT results129 ?_
 exact ⟨rfl, congrArg (Value.int .i64) (idxOf_found hp h4 h5).symm⟩
 refine g4 ?_
 exact nK h7 ⟨i + 1, rfl, oM, (upto_succ hp h4 h5), rfl, rfl, rfl⟩
 refine g5a ?_
 intros
 refine rT results129 ?_
 exact ⟨rfl, congrArg (Value.int .i64) (idxOf_none (upto_all hp (by rw [hl.len]; omega))).symm⟩
theorem c77 {caps : LV} {p : Int → Bool} (hl : Sl rInt H xs A n c) (hn : n ≤ 140737488355328) (hg : ∀ (args : Array Value) (w : World), (callFunc g args).run PP w = .ok (.enter g args) w) (hf : ∀ x ∈ xs, Ct PP g ([.int .i64 x] ++ caps : LV).toArray H [] fun v H' O' => O' = [] ∧ v = .bool (p x)) : Ct PP 77 #[.slice A n c, .func (.func g) #[] caps.toArray] H [] fun v H' O' => O' = [] ∧ v = .bool (xs.any p) := by
 refine cB func77 ntmps77 fun I hD hI h4 => ?_
 refine g8b ?_
 intros
 refine sq rfl (fS hD rfl call129 rfl (c129 hl hn hg hf) ?_)
 rintro v3 rfl
 refine g3 ?_
 refine rT results77 ?_
 exact ⟨rfl, congrArg Value.bool (idxOf_any p xs)⟩
theorem c21 {caps : LV} {p : Variant → Bool} (hl : Sl rVariant H xs A n c) (hn : n ≤ 140737488355328) (hg : ∀ (args : Array Value) (w : World), (callFunc g args).run PP w = .ok (.enter g args) w) (hf : ∀ x ∈ xs, ∀ cs, rVariant.rel H x cs → Ct PP g ([.agg cs.toArray] ++ caps : LV).toArray H [] fun v H' O' => O' = [] ∧ v = .bool (p x)) : Ct PP 21 #[.slice A n c, .func (.func g) #[] caps.toArray] H [] fun v H' O' => O' = [] ∧ v = .int .i64 (idxOf p xs) := by
 refine cB func21 ntmps21 fun I hD hI b7 => ?_
 refine g12c ?_
 intros
 refine lp0 (fun D E H' O m => ∃ (i : Nat), H = H' ∧ (i ≤ n) ∧ (∀ (j : Nat) (y : Variant), j < i → xs[j]? = some y → p y = false) ∧ m = n - i ∧ O = [] ∧ E = (8, .int .i64 (i : Int)) :: D) [0, 1, 7] [] ⟨0, rfl, Nat.zero_le _, upto_zero, rfl, rfl, rfl⟩ ?_
 rintro _ _ _ _ ⟨i, rfl, hi, hp, rfl, rfl, rfl⟩ _ h8
 refine g5b ?_
 intros
 refine cD ?_ ?_ <;> intro h9
 refine g13c ?_
 intros
 obtain ⟨b5, h4⟩ := eX hl i
 obtain ⟨b6, o4, c0, b4, h5, h7⟩ := hl.at_ h4
 refine g1 ?_
 refine q (yLoadA (cs := c0) aC sC rfl h7.mem (rVariant.len h5)) rfl rfl rfl ?_
 refine sq rfl (TK.callS hD rfl rfl (entV hg rfl rfl) (hf _ (mG h4) _ h5) ?_)
 rintro v0 rfl
 refine g1 ?_
 refine cN ?_ ?_ <;> intro h6
 refine g5a ?_
 intros
 refine rT results21 ?_
 exact ⟨rfl, congrArg (Value.int .i64) (idxOf_found hp h4 h6).symm⟩
 refine g4 ?_
 exact nK h8 ⟨i + 1, rfl, oM, (upto_succ hp h4 h6), rfl, rfl, rfl⟩
 refine g5a ?_
 intros
 refine rT results21 ?_
 exact ⟨rfl, congrArg (Value.int .i64) (idxOf_none (upto_all hp (by rw [hl.len]; omega))).symm⟩
theorem c5 {caps : LV} {p : Variant → Bool} (hl : Sl rVariant H xs A n c) (hn : n ≤ 140737488355328) (hg : ∀ (args : Array Value) (w : World), (callFunc g args).run PP w = .ok (.enter g args) w) (hf : ∀ x ∈ xs, ∀ cs, rVariant.rel H x cs → Ct PP g ([.agg cs.toArray] ++ caps : LV).toArray H [] fun v H' O' => O' = [] ∧ v = .bool (p x)) : Ct PP 5 #[.slice A n c, .func (.func g) #[] caps.toArray] H [] fun v H' O' => O' = [] ∧ v = .bool (xs.any p) := by
 refine cB func5 ntmps5 fun I hD hI h4 => ?_
 refine g8b ?_
 intros
 refine sq rfl (fS hD rfl call21 rfl (c21 hl hn hg hf) ?_)
 rintro v3 rfl
 refine g3 ?_
 refine rT results5 ?_
 exact ⟨rfl, congrArg Value.bool (idxOf_any p xs)⟩
theorem c277 {caps : LV} {p : Cnt → Bool} (hl : Sl rCnt H xs A n c) (hn : n ≤ 140737488355328) (hg : ∀ (args : Array Value) (w : World), (callFunc g args).run PP w = .ok (.enter g args) w) (hf : ∀ x ∈ xs, ∀ cs, rCnt.rel H x cs → Ct PP g ([.agg cs.toArray] ++ caps : LV).toArray H [] fun v H' O' => O' = [] ∧ v = .bool (p x)) : Ct PP 277 #[.slice A n c, .func (.func g) #[] caps.toArray] H [] fun v H' O' => O' = [] ∧ v = .int .i64 (idxOf p xs) := by
 refine cB func277 ntmps277 fun I hD hI b7 => ?_
 refine g12c ?_
 intros
 refine lp0 (fun D E H' O m => ∃ (i : Nat), H = H' ∧ (i ≤ n) ∧ (∀ (j : Nat) (y : Cnt), j < i → xs[j]? = some y → p y = false) ∧ m = n - i ∧ O = [] ∧ E = (8, .int .i64 (i : Int)) :: D) [0, 1, 7] [] ⟨0, rfl, Nat.zero_le _, upto_zero, rfl, rfl, rfl⟩ ?_
 rintro _ _ _ _ ⟨i, rfl, hi, hp, rfl, rfl, rfl⟩ _ h8
 refine g5b ?_
 intros
 refine cD ?_ ?_ <;> intro h9
 refine g13c ?_
 intros
 obtain ⟨b5, h4⟩ := eX hl i
 obtain ⟨b6, o4, c0, b4, h5, h7⟩ := hl.at_ h4
 refine g1 ?_
 refine q (yLoadA (cs := c0) aC sC rfl h7.mem (rCnt.len h5)) rfl rfl rfl ?_
 refine sq rfl (TK.callS hD rfl rfl (entV hg rfl rfl) (hf _ (mG h4) _ h5) ?_)
 rintro v0 rfl
 refine g1 ?_
 refine cN ?_ ?_ <;> intro h6
 refine g5a ?_
 intros
 refine rT results277 ?_
 exact ⟨rfl, congrArg (Value.int .i64) (idxOf_found hp h4 h6).symm⟩
 refine g4 ?_
 exact nK h8 ⟨i + 1, rfl, oM, (upto_succ hp h4 h6), rfl, rfl, rfl⟩
 refine g5a ?_
 intros
 refine rT results277 ?_
 exact ⟨rfl, congrArg (Value.int .i64) (idxOf_none (upto_all hp (by rw [hl.len]; omega))).symm⟩
theorem c240 {caps : LV} {p : Cnt → Bool} (hl : Sl rCnt H xs A n c) (hn : n ≤ 140737488355328) (hg : ∀ (args : Array Value) (w : World), (callFunc g args).run PP w = .ok (.enter g args) w) (hf : ∀ x ∈ xs, ∀ cs, rCnt.rel H x cs → Ct PP g ([.agg cs.toArray] ++ caps : LV).toArray H [] fun v H' O' => O' = [] ∧ v = .bool (p x)) : Ct PP 240 #[.slice A n c, .func (.func g) #[] caps.toArray] H [] fun v H' O' => O' = [] ∧ v = .bool (xs.any p) := by
 refine cB func240 ntmps240 fun I hD hI h4 => ?_
 refine g8b ?_
 intros
 refine sq rfl (fS hD rfl call277 rfl (c277 hl hn hg hf) ?_)
 rintro v3 rfl
 refine g3 ?_
 refine rT results240 ?_
 exact ⟨rfl, congrArg Value.bool (idxOf_any p xs)⟩
theorem c147 {caps : LV} {p : LI → Bool} (hl : Sl (rSl rInt) H xs A n c) (hn : n ≤ 140737488355328) (hg : ∀ (args : Array Value) (w : World), (callFunc g args).run PP w = .ok (.enter g args) w) (hf : ∀ x ∈ xs, ∀ v, (rSl rInt).rel H x [v] → Ct PP g ([v] ++ caps : LV).toArray H [] fun v H' O' => O' = [] ∧ v = .bool (p x)) : Ct PP 147 #[.slice A n c, .func (.func g) #[] caps.toArray] H [] fun v H' O' => O' = [] ∧ v = .int .i64 (idxOf p xs) := by
 refine cB func147 ntmps147 fun I hD hI b7 => ?_
 refine g12c ?_
 intros
 refine lp0 (fun D E H' O m => ∃ (i : Nat), H = H' ∧ (i ≤ n) ∧ (∀ (j : Nat) (y : LI), j < i → xs[j]? = some y → p y = false) ∧ m = n - i ∧ O = [] ∧ E = (8, .int .i64 (i : Int)) :: D) [0, 1, 7] [] ⟨0, rfl, Nat.zero_le _, upto_zero, rfl, rfl, rfl⟩ ?_
 rintro _ _ _ _ ⟨i, rfl, hi, hp, rfl, rfl, rfl⟩ _ h8
 refine g5b ?_
 intros
 refine cD ?_ ?_ <;> intro h9
 refine g13c ?_
 intros
 obtain ⟨b5, h4⟩ := eX hl i
 obtain ⟨b6, o4, c0, b4, h5, h7⟩ := hl.at_ h4
 obtain ⟨u0, rfl⟩ := List.length_eq_one_iff.1 ((rSl rInt).len h5)
 refine g2 ?_
 refine sq rfl (TK.callS hD rfl rfl (entV hg rfl rfl) (hf _ (mG h4) _ h5) ?_)
 rintro v0 rfl
 refine g1 ?_
 refine cN ?_ ?_ <;> intro h6
 refine g5a ?_
 intros
 refine rT results147 ?_
 exact ⟨rfl, congrArg (Value.int .i64) (idxOf_found hp h4 h6).symm⟩
 refine g4 ?_
 exact nK h8 ⟨i + 1, rfl, oM, (upto_succ hp h4 h6), rfl, rfl, rfl⟩
 refine g5a ?_
 intros
 refine rT results147 ?_
 exact ⟨rfl, congrArg (Value.int .i64) (idxOf_none (upto_all hp (by rw [hl.len]; omega))).symm⟩
theorem c82 {y : BA} (hl : Sl rStr H xs A n c) (hn : n ≤ 140737488355328) : Ct PP 82 #[.slice A n c, .string y] H [] fun v H' O' => O' = [] ∧ v = .int .i64 (idxOf (fun x => decide (y = x)) xs) := by
 refine cB func82 ntmps82 fun I hD hI b6 => ?_
 refine g12c ?_
 intros
 refine lp0 (fun D E H' O m => ∃ (i : Nat), H = H' ∧ (i ≤ n) ∧ (∀ (j : Nat) (z : BA), j < i → xs[j]? = some z → decide (y = z) = false) ∧ m = n - i ∧ O = [] ∧ E = (8, .int .i64 (i : Int)) :: D) [0, 1, 7] [] ⟨0, rfl, Nat.zero_le _, upto_zero, rfl, rfl, rfl⟩ ?_
 rintro _ _ _ _ ⟨i, rfl, hi, hp, rfl, rfl, rfl⟩ _ h7
 refine g5b ?_
 intros
 refine cD ?_ ?_ <;> intro h8
 refine g13c ?_
 intros
 obtain ⟨b4, h4⟩ := eX hl i
 obtain ⟨b5, o4, h9, h6⟩ := hl.atS h4
 refine g4 ?_
 refine cD ?_ ?_ <;> intro h5
 refine g5a ?_
 intros
 refine rT results82 ?_
 exact ⟨rfl, congrArg (Value.int .i64) (idxOf_found hp h4 (decide_eq_true h5)).symm⟩
 refine g4 ?_
 exact nK h7 ⟨i + 1, rfl, oM, (upto_succ hp h4 (decide_eq_false h5)), rfl, rfl, rfl⟩
 refine g5a ?_
 intros
 refine rT results82 ?_
 exact ⟨rfl, congrArg (Value.int .i64) (idxOf_none (upto_all hp (by rw [hl.len]; omega))).symm⟩
theorem c243 {y : BA} (hl : Sl rStr H xs A n c) (hn : n ≤ 140737488355328) : Ct PP 243 #[.slice A n c, .string y] H [] fun v H' O' => O' = [] ∧ v = .bool (memB y xs) := by
 refine cB func243 ntmps243 fun I hD hI h4 => ?_
 refine g8b ?_
 intros
 refine sq rfl (fS hD rfl call82 rfl (c82 hl hn) ?_)
 rintro v3 rfl
 refine g3 ?_
 refine rT results243 ?_
 exact ⟨rfl, congrArg Value.bool (idxOf_any _ xs)⟩
theorem c76 {y : Int} (hl : Sl rInt H xs A n c) (hn : n ≤ 140737488355328) : Ct PP 76 #[.slice A n c, .int .i64 y] H [] fun v H' O' => O' = [] ∧ v = .int .i64 (idxOf (fun x => decide (y = x)) xs) := by
 refine cB func76 ntmps76 fun I hD hI b6 => ?_
 refine g12c ?_
 intros
 refine lp0 (fun D E H' O m => ∃ (i : Nat), H = H' ∧ (i ≤ n) ∧ (∀ (j : Nat) (z : Int), j < i → xs[j]? = some z → decide (y = z) = false) ∧ m = n - i ∧ O = [] ∧ E = (8, .int .i64 (i : Int)) :: D) [0, 1, 7] [] ⟨0, rfl, Nat.zero_le _, upto_zero, rfl, rfl, rfl⟩ ?_
 rintro _ _ _ _ ⟨i, rfl, hi, hp, rfl, rfl, rfl⟩ _ h7
 refine g5b ?_
 intros
 refine cD ?_ ?_ <;> intro h8
 refine g13c ?_
 intros
 obtain ⟨b4, h4⟩ := eX hl i
 obtain ⟨b5, o4, h9, h6⟩ := hl.atI h4
 refine g4 ?_
 refine cD ?_ ?_ <;> intro h5
 refine g5a ?_
 intros
 refine rT results76 ?_
 exact ⟨rfl, congrArg (Value.int .i64) (idxOf_found hp h4 (decide_eq_true h5)).symm⟩
 refine g4 ?_
 exact nK h7 ⟨i + 1, rfl, oM, (upto_succ hp h4 (decide_eq_false h5)), rfl, rfl, rfl⟩
 refine g5a ?_
 intros
 refine rT results76 ?_
 exact ⟨rfl, congrArg (Value.int .i64) (idxOf_none (upto_all hp (by rw [hl.len]; omega))).symm⟩
theorem c36 {y : Int} (hl : Sl rInt H xs A n c) (hn : n ≤ 140737488355328) : Ct PP 36 #[.slice A n c, .int .i64 y] H [] fun v H' O' => O' = [] ∧ v = .bool (memB y xs) := by
 refine cB func36 ntmps36 fun I hD hI h4 => ?_
 refine g8b ?_
 intros
 refine sq rfl (fS hD rfl call76 rfl (c76 hl hn) ?_)
 rintro v3 rfl
 refine g3 ?_
 refine rT results36 ?_
 exact ⟨rfl, congrArg Value.bool (idxOf_any _ xs)⟩
theorem c79 {y : Bool} (hl : Sl rBool H xs A n c) (hn : n ≤ 140737488355328) : Ct PP 79 #[.slice A n c, .bool y] H [] fun v H' O' => O' = [] ∧ v = .int .i64 (idxOf (fun x => decide (y = x)) xs) := by
 refine cB func79 ntmps79 fun I hD hI b6 => ?_
 refine g12c ?_
 intros
 refine lp0 (fun D E H' O m => ∃ (i : Nat), H = H' ∧ (i ≤ n) ∧ (∀ (j : Nat) (z : Bool), j < i → xs[j]? = some z → decide (y = z) = false) ∧ m = n - i ∧ O = [] ∧ E = (8, .int .i64 (i : Int)) :: D) [0, 1, 7] [] ⟨0, rfl, Nat.zero_le _, upto_zero, rfl, rfl, rfl⟩ ?_
 rintro _ _ _ _ ⟨i, rfl, hi, hp, rfl, rfl, rfl⟩ _ h7
 refine g5b ?_
 intros
 refine cD ?_ ?_ <;> intro h8
 refine g13c ?_
 intros
 obtain ⟨b4, h4⟩ := eX hl i
 obtain ⟨b5, o4, h9, h6⟩ := hl.atB h4
 refine g2 ?_
 refine q (yEqlB uC rfl rfl) rfl rfl rfl ?_
 refine g1 ?_
 refine cD ?_ ?_ <;> intro h5
 refine g5a ?_
 intros
 refine rT results79 ?_
 exact ⟨rfl, congrArg (Value.int .i64) (idxOf_found hp h4 (decide_eq_true h5)).symm⟩
 refine g4 ?_
 exact nK h7 ⟨i + 1, rfl, oM, (upto_succ hp h4 (decide_eq_false h5)), rfl, rfl, rfl⟩
 refine g5a ?_
 intros
 refine rT results79 ?_
 exact ⟨rfl, congrArg (Value.int .i64) (idxOf_none (upto_all hp (by rw [hl.len]; omega))).symm⟩
theorem c38 {y : Bool} (hl : Sl rBool H xs A n c) (hn : n ≤ 140737488355328) : Ct PP 38 #[.slice A n c, .bool y] H [] fun v H' O' => O' = [] ∧ v = .bool (memB y xs) := by
 refine cB func38 ntmps38 fun I hD hI h4 => ?_
 refine g8b ?_
 intros
 refine sq rfl (fS hD rfl call79 rfl (c79 hl hn) ?_)
 rintro v3 rfl
 refine g3 ?_
 refine rT results38 ?_
 exact ⟨rfl, congrArg Value.bool (idxOf_any _ xs)⟩
theorem c12 (hl : Sl rStr H xs A n c) (hk : Sl rStr H ys B m d) (hn : n ≤ 140737488355328) : Ct PP 12 #[.slice A n c, .slice B m d] H [] fun v H' O' => O' = [] ∧ v = .bool (decide (xs = ys)) := by
 refine cB func12 ntmps12 fun I hD hI d1 => ?_
 refine g13c ?_
 intros
 refine cN ?_ ?_ <;> intro h8
 refine g4a ?_
 intros
 refine rT results12 ?_
 exact ⟨rfl, congrArg Value.bool (eqL_len hl.len hk.len (by simp at h8; omega)).symm⟩
 have b6 : n = m := by simp at h8; omega
 refine g9b ?_
 intros
 refine lp0 (fun D E H' O m' => ∃ (i : Nat), H = H' ∧ (i ≤ n) ∧ (∀ (j : Nat) (z z' : BA), j < i → xs[j]? = some z → ys[j]? = some z' → z = z') ∧ m' = n - i ∧ O = [] ∧ E = (13, .int .i64 (i : Int)) :: D) [0, 1, 12] [] ⟨0, rfl, Nat.zero_le _, eq_zero, rfl, rfl, rfl⟩ ?_
 rintro _ _ _ _ ⟨i, rfl, hi, hp, rfl, rfl, rfl⟩ _ h7
 refine g5b ?_
 intros
 refine cD ?_ ?_ <;> intro h9
 refine g8b ?_
 intros
 refine g1a ?_
 intros
 refine tss (List.nil_sublist _) 9 fun b9 => ?_
 refine tj 0 ?_
 refine g1 ?_
 obtain ⟨c1, h5⟩ := eX hl i
 obtain ⟨d2, o5, b5, b8⟩ := hl.atS h5
 refine g4 ?_
 obtain ⟨c0, h4⟩ := eX hk i
 obtain ⟨d0, o4, b4, b7⟩ := hk.atS h4
 refine g5 ?_
 refine cN ?_ ?_ <;> intro h6
 refine g4a ?_
 intros
 refine rT results12 ?_
 exact ⟨rfl, congrArg Value.bool (eqL_at h5 h4 (by simpa using h6)).symm⟩
 refine g4 ?_
 exact nK h7 ⟨i + 1, rfl, oM, (eq_succ hp h5 h4 (by simpa using h6)), rfl, rfl, rfl⟩
 refine g5a ?_
 intros
 refine rT results12 ?_
 exact ⟨rfl, congrArg Value.bool (eqL_all b6 hl.len hk.len hp oM).symm⟩
theorem c46 (hl : Sl rInt H xs A n c) (hk : Sl rInt H ys B m d) (hn : n ≤ 140737488355328) : Ct PP 46 #[.slice A n c, .slice B m d] H [] fun v H' O' => O' = [] ∧ v = .bool (decide (xs = ys)) := by
 refine cB func46 ntmps46 fun I hD hI d1 => ?_
 refine g13c ?_
 intros
 refine cN ?_ ?_ <;> intro h8
 refine g4a ?_
 intros
 refine rT results46 ?_
 exact ⟨rfl, congrArg Value.bool (eqL_len hl.len hk.len (by simp at h8; omega)).symm⟩
 have b6 : n = m := by simp at h8; omega
 refine g9b ?_
 intros
 refine lp0 (fun D E H' O m' => ∃ (i : Nat), H = H' ∧ (i ≤ n) ∧ (∀ (j : Nat) (z z' : Int), j < i → xs[j]? = some z → ys[j]? = some z' → z = z') ∧ m' = n - i ∧ O = [] ∧ E = (13, .int .i64 (i : Int)) :: D) [0, 1, 12] [] ⟨0, rfl, Nat.zero_le _, eq_zero, rfl, rfl, rfl⟩ ?_
 rintro _ _ _ _ ⟨i, rfl, hi, hp, rfl, rfl, rfl⟩ _ h7
 refine g5b ?_
 intros
 refine cD ?_ ?_ <;> intro h9
 refine g8b ?_
 intros
 refine g1a ?_
 intros
 refine tss (List.nil_sublist _) 9 fun b9 => ?_
 refine tj 0 ?_
 refine g1 ?_
 obtain ⟨c1, h5⟩ := eX hl i
 obtain ⟨d2, o5, b5, b8⟩ := hl.atI h5
 refine g4 ?_
 obtain ⟨c0, h4⟩ := eX hk i
 obtain ⟨d0, o4, b4, b7⟩ := hk.atI h4
 refine g5 ?_
 refine cN ?_ ?_ <;> intro h6
 refine g4a ?_
 intros
 refine rT results46 ?_
 exact ⟨rfl, congrArg Value.bool (eqL_at h5 h4 (by simpa using h6)).symm⟩
 refine g4 ?_
 exact nK h7 ⟨i + 1, rfl, oM, (eq_succ hp h5 h4 (by simpa using h6)), rfl, rfl, rfl⟩
 refine g5a ?_
 intros
 refine rT results46 ?_
 exact ⟨rfl, congrArg Value.bool (eqL_all b6 hl.len hk.len hp oM).symm⟩
theorem c49 (hl : Sl rInt H xs A n c) (hn : n * 8 ≤ 140737488355328) : Ct PP 49 #[.slice A n c] H [] fun v H' O' => Hand rInt 3 H xs n v O' := by
 refine cB func49 ntmps49 fun I hD hI h6 => ?_
 refine g8c ?_
 intros
 refine q (yEqlNil uC rfl rfl) rfl rfl rfl ?_
 refine g1 ?_
 refine cN ?_ ?_ <;> intro h5
 refine g4a ?_
 intros
 obtain ⟨rfl, rfl, rfl⟩ := Sl.isNone hl h5
 refine newRow 3 1 ?_
 refine rT results49 ?_
 exact ⟨_, _, _, rfl, .nil, rfl⟩
 refine g3a ?_
 intros
 refine sq rfl (tBSlice0 uC sC dC fun b8 => ?_)
 refine g1 ?_
 refine sL hD 0 hl fun A9 c10 n0 h4 => ?_
 refine g2 ?_
 refine rT results49 ?_
 exact Hand.some h4
theorem c112 (hl : Sl rStr H xs A n c) (hn : n * 16 ≤ 140737488355328) : Ct PP 112 #[.slice A n c] H [] fun v H' O' => Hand rStr 9 H xs n v O' := by
 refine cB func112 ntmps112 fun I hD hI h6 => ?_
 refine g8c ?_
 intros
 refine q (yEqlNil uC rfl rfl) rfl rfl rfl ?_
 refine g1 ?_
 refine cN ?_ ?_ <;> intro h5
 refine g4a ?_
 intros
 obtain ⟨rfl, rfl, rfl⟩ := Sl.isNone hl h5
 refine newRow 9 1 ?_
 refine rT results112 ?_
 exact ⟨_, _, _, rfl, .nil, rfl⟩
 refine g3a ?_
 intros
 refine sq rfl (tBSlice0 uC sC dC fun b8 => ?_)
 refine g1 ?_
 refine sL hD 0 hl fun A9 c10 n0 h4 => ?_
 refine g2 ?_
 refine rT results112 ?_
 exact Hand.some h4
theorem c186 (hl : Sl rMv H xs A n c) (hn : n * 24 ≤ 140737488355328) : Ct PP 186 #[.slice A n c] H [] fun v H' O' => Hand rMv 166 H xs n v O' := by
 refine cB func186 ntmps186 fun I hD hI h6 => ?_
 refine g8c ?_
 intros
 refine q (yEqlNil uC rfl rfl) rfl rfl rfl ?_
 refine g1 ?_
 refine cN ?_ ?_ <;> intro h5
 refine g4a ?_
 intros
 obtain ⟨rfl, rfl, rfl⟩ := Sl.isNone hl h5
 refine newRow 166 3 ?_
 refine rT results186 ?_
 exact ⟨_, _, _, rfl, .nil, rfl⟩
 refine g3a ?_
 intros
 refine sq rfl (tBSlice0 uC sC dC fun b8 => ?_)
 refine g1 ?_
 refine sL hD 0 hl fun A9 c10 n0 h4 => ?_
 refine g2 ?_
 refine rT results186 ?_
 exact Hand.some h4
theorem c68 (hl : Sl rVariant H xs A n c) (hn : n * 32 ≤ 140737488355328) : Ct PP 68 #[.slice A n c] H [] fun v H' O' => Hand rVariant 26 H xs n v O' := by
 refine cB func68 ntmps68 fun I hD hI h6 => ?_
 refine g8c ?_
 intros
 refine q (yEqlNil uC rfl rfl) rfl rfl rfl ?_
 refine g1 ?_
 refine cN ?_ ?_ <;> intro h5
 refine g4a ?_
 intros
 obtain ⟨rfl, rfl, rfl⟩ := Sl.isNone hl h5
 refine newRow 26 2 ?_
 refine rT results68 ?_
 exact ⟨_, _, _, rfl, .nil, rfl⟩
 refine g3a ?_
 intros
 refine sq rfl (tBSlice0 uC sC dC fun b8 => ?_)
 refine g1 ?_
 refine sL hD 0 hl fun A9 c10 n0 h4 => ?_
 refine g2 ?_
 refine rT results68 ?_
 exact Hand.some h4
theorem c149 {x : BA} : CtD PP 149 #[.string x] H [] fun v H' O' => O' = [] ∧ v = .bool false := by
 refine cB func149 ntmps149 fun I hD hI h4 => ?_
 refine g11b ?_
 intros
 refine rT results149 ?_
 exact ⟨rfl, by simp⟩
theorem c100 {x y : BA} : CtD PP 100 #[.string x, .string y] H [] fun v H' O' => O' = [] ∧ v = .int .i64 (cmpS x y) := by
 refine cB func100 ntmps100 fun I hD hI h6 => ?_
 refine g7b ?_
 intros
 refine sq rfl (fS hD rfl call149 rfl c149 ?_)
 rintro v3 rfl
 refine g5a ?_
 intros
 refine sq rfl (fS hD rfl call149 rfl c149 ?_)
 rintro v5 rfl
 refine g16d ?_
 intros
 refine g7b ?_
 intros
 refine cN ?_ ?_ <;> intro h4
 refine g4a ?_
 intros
 refine rT results100 ?_
 exact ⟨rfl, by simp_all [cmpS]⟩
 refine g8b ?_
 intros
 refine cN ?_ ?_ <;> intro h5
 refine g4a ?_
 intros
 refine rT results100 ?_
 exact ⟨rfl, by simp_all [cmpS]⟩
 refine g5a ?_
 intros
 refine rT results100 ?_
 exact ⟨rfl, by simp_all [cmpS]⟩
theorem c58 (hl : Sl rStr H xs A n c) (hk : Sl rStr H ys B m d) : CtD PP 58 #[.slice A n c, .slice B m d] H [] fun v H' O' => O' = [] ∧ v = .int .i64 (cmpW xs ys) := by
 have hn := hl.2.2.1
 have hm := hk.2.2.1
 refine cB func58 ntmps58 fun I hD hI d0 => ?_
 refine g12c ?_
 intros
 refine lp0 (fun D E H' O m' => ∃ (i : Nat), H = H' ∧ (i ≤ n) ∧ (i ≤ m) ∧ (cmpW xs ys = cmpW (xs.drop i) (ys.drop i)) ∧ m' = n - i ∧ O = [] ∧ E = (11, .int .i64 (i : Int)) :: D) [0, 1, 9, 10] [] ⟨0, rfl, Nat.zero_le _, Nat.zero_le _, rfl, rfl, rfl, rfl⟩ ?_
 rintro _ _ _ _ ⟨i, rfl, hi, c0, hp, rfl, rfl, rfl⟩ _ h8
 refine g5b ?_
 intros
 refine cD ?_ ?_ <;> intro b4
 refine g6b ?_
 intros
 obtain ⟨b9, h4⟩ := eX hl i
 obtain ⟨c1, o4, b7, b6⟩ := hl.atS h4
 refine g12b ?_
 intros
 refine g1 ?_
 refine cD ?_ ?_ <;> intro h7
 refine g4a ?_
 intros
 refine rT results58 ?_
 exact ⟨rfl, congrArg (Value.int .i64) (hp.trans (cmpW_right h4 (by have := hk.len; omega))).symm⟩
 refine g5a ?_
 intros
 obtain ⟨d2, h5⟩ := eX hk i
 obtain ⟨d1, o5, b8, h9⟩ := hk.atS h5
 refine g8a ?_
 intros
 refine sq rfl (fS hD rfl call100 rfl c100 ?_)
 rintro v0 rfl
 refine g7a ?_
 intros
 refine cN ?_ ?_ <;> intro h6
 refine g5a ?_
 intros
 refine rT results58 ?_
 exact ⟨rfl, congrArg (Value.int .i64) (cmpW_ne hp h4 h5 (by simpa using h6)).symm⟩
 refine g4 ?_
 exact nK h8 ⟨i + 1, rfl, oM, oM, (cmpW_eq hp h4 h5 (by simpa using h6)), rfl, rfl, rfl⟩
 refine g10b ?_
 intros
 refine cD ?_ ?_ <;> intro b5
 refine g4a ?_
 intros
 refine rT results58 ?_
 exact ⟨rfl, congrArg (Value.int .i64) (hp.trans (cmpW_left (by have := hl.len; omega) (by have := hk.len; omega))).symm⟩
 refine g5a ?_
 intros
 refine rT results58 ?_
 exact ⟨rfl, congrArg (Value.int .i64) (hp.trans (cmpW_both (by have := hl.len; omega) (by have := hk.len; omega))).symm⟩
theorem c24 (hl : Sl rStr H xs A n c) (hk : Sl rStr H ys B m d) : CtD PP 24 #[.slice A n c, .slice B m d] H [] fun v H' O' => O' = [] ∧ v = .int .i64 (cmpW xs ys) := by
 refine cB func24 ntmps24 fun I hD hI h4 => ?_
 refine g8b ?_
 intros
 refine sq rfl (fS hD rfl call58 rfl (c58 hl hk) ?_)
 rintro v3 rfl
 refine g2 ?_
 refine rT results24 ?_
 exact ⟨rfl, rfl⟩
theorem c57 {s : BA} : Ct PP 57 #[.string s] H [] fun v H' O' => O' = [] ∧ v = .bool (!isName s) := by
 refine cB func57 ntmps57 fun I hD hI h4 => ?_
 refine g7b ?_
 intros
 refine sq rfl (fS hD rfl call51 rfl c51 ?_)
 rintro v3 rfl
 refine g3 ?_
 refine rT results57 ?_
 exact ⟨rfl, rfl⟩
theorem c23 (hl : Sl rStr H xs A n c) : Ct PP 23 #[.slice A n c] H [] fun v H' O' => O' = [] ∧ v = .bool (xs.all isName) := by
 refine cB func23 ntmps23 fun I hD hI h4 => ?_
 refine g7b ?_
 intros
 refine sq rfl (fS hD rfl call7 rfl (c7 (p := fun s => !isName s) (caps := []) hl hl.2.2.1 call57 (fun x hx => c57)) ?_)
 rintro v3 rfl
 refine g3 ?_
 refine rT results23 ?_
 exact ⟨rfl, by rw [all_any]⟩
end
def okV (v : Variant) : Bool := decide (v.acts.length ≤ 200) && v.acts.all isName && decide (1 ≤ v.count ∧ v.count ≤ 1048576)
def ascV : List Variant → Bool
 | [] => true
 | [_] => true
 | x :: y :: r => decide (cmpW x.acts y.acts < 0) && ascV (y :: r)
def validVs (l : List Variant) : Bool := decide (l.length ≤ 300) && l.all okV && ascV l
theorem okV_big {v : Variant} (h : 200 < v.acts.length) : okV v = false := by
 unfold okV; rw [show decide (v.acts.length ≤ 200) = false from decide_eq_false oM]; rfl
theorem ascV_iff {l : List Variant} : ascV l = true ↔ ∀ (j : Nat) (x y : Variant), l[j]? = some x → l[j + 1]? = some y → cmpW x.acts y.acts < 0 := by
 induction l with
 | nil => simp [ascV]
 | cons a r ih =>
  cases r with
  | nil => simp [ascV]
  | cons b r =>
   simp only [ascV, Bool.and_eq_true, decide_eq_true_eq, ih]
   constructor
   ·rintro ⟨h1, h2⟩ j x y hx hy
    cases j with
    | zero => simp at hx hy; subst hx hy; exact h1
    | succ j => exact h2 j x y (by simpa using hx) (by simpa using hy)
   ·intro h
    exact ⟨h 0 a b rfl rfl, fun j x y hx hy => h (j + 1) x y (by simpa using hx) (by simpa using hy)⟩
theorem validVs_not {l : List Variant} {i : Nat} (hx : l[i]? = some x) (h : okV x = false) : validVs l = false := by
 have : l.all okV = false := List.all_eq_false.2 ⟨x, mG hx, by rw [h]; simp⟩
 unfold validVs; rw [this]; simp
theorem validVs_asc {l : List Variant} {i : Nat} (hx : l[i]? = some x) (hy : l[i + 1]? = some y) (h : ¬ cmpW x.acts y.acts < 0) : validVs l = false := by
 have : ascV l = false := by
  rw [Bool.eq_false_iff]
  intro h2
  exact h (ascV_iff.1 h2 i x y hx hy)
 unfold validVs; rw [this]; simp
theorem validVs_long {l : List Variant} (h : 300 < l.length) : validVs l = false := by
 unfold validVs; rw [show decide (l.length ≤ 300) = false from decide_eq_false oM]; rfl
theorem validVs_of {l : List Variant} (h1 : l.length ≤ 300) (h2 : ∀ (j : Nat) (x : Variant), l[j]? = some x → okV x = true) (h3 : ∀ (j : Nat) (x y : Variant), l[j]? = some x → l[j + 1]? = some y → cmpW x.acts y.acts < 0) : validVs l = true := by
 unfold validVs
 have e2 : l.all okV = true := List.all_eq_true.2 fun x hx => by obtain ⟨i, hi⟩ := List.getElem?_of_mem hx; exact h2 i x hi
 rw [e2, ascV_iff.2 h3, decide_eq_true h1]; rfl
theorem asc_succ {l : List Variant} {i : Nat} (h : ∀ (j : Nat) (x y : Variant), j + 1 < i → l[j]? = some x → l[j + 1]? = some y → cmpW x.acts y.acts < 0) (h2 : ∀ x y : Variant, 0 < i → l[i - 1]? = some x → l[i]? = some y → cmpW x.acts y.acts < 0) :
  ∀ (j : Nat) (x y : Variant), j + 1 < i + 1 → l[j]? = some x → l[j + 1]? = some y → cmpW x.acts y.acts < 0 := by
 intro j x y hj hx hy
 rcases Nat.lt_or_ge (j + 1) i with h4 | h4
 ·exact h j x y h4 hx hy
 ·obtain rfl : i = j + 1 := by omega
  exact h2 x y oM (by simpa using hx) hy
def bigV (v : Variant) : Bool := decide (200 < v.acts.length) || v.acts.any fun s => decide (100 < s.size)
def rightB (t : Tree) : Bool :=
 if t.op = 1 then decide (t.l.length = 0) && isName t.act
 else if t.op = 2 then decide (t.l.length = 0) && decide (t.act = ⟨#[]⟩)
 else if t.op = 3 ∨ t.op = 4 ∨ t.op = 5 then decide (1 ≤ t.l.length) && decide (t.act = ⟨#[]⟩)
 else if t.op = 6 then decide (t.l.length = 2) && decide (t.act = ⟨#[]⟩)
 else false
mutual
def meas : Tree → Int → Int → Option Int
 | .mk op act l, most, depth => if most < 1 ∨ 60 < depth ∨ rightB (.mk op act l) = false then none else measL l most depth 1
def measL : List Tree → Int → Int → Int → Option Int
 | [], _, _, n => some n
 | x :: r, most, depth, n => match meas x (most - n) (depth + 1) with
  | none => none
  | some m => measL r most depth (n + m)
end
def validT (t : Tree) : Bool := (meas t 400 1).isSome
theorem size_mem {l : List Tree} {x : Tree} (h : x ∈ l) : x.size ≤ sizeL l := by
 induction l with
 | nil => cases h
 | cons y r ih =>
  rw [sizeL]
  rcases List.mem_cons.1 h with rfl | h
  ·omega
  ·have := ih h; omega
theorem Tree.size_l (t : Tree) : t.size = 1 + sizeL t.l := by cases t; rfl
theorem tree_ind {p : Tree → Prop} (h : ∀ t, (∀ x ∈ t.l, p x) → p t) (t : Tree) : p t := by
 have k0 : ∀ (k : Nat) (t : Tree), t.size ≤ k → p t := by
  intro k
  induction k with
  | zero => intro t ht; rw [Tree.size_l] at ht; omega
  | succ k ih =>
   intro t ht
   refine h t fun x hx => ih x ?_
   have := size_mem hx
   rw [Tree.size_l] at ht
   omega
 exact k0 _ t (Nat.le_refl _)
theorem meas_eq (t : Tree) (most depth : Int) : meas t most depth = if most < 1 ∨ 60 < depth ∨ rightB t = false then none else measL t.l most depth 1 := by cases t; rw [meas]; rfl
theorem meas_bad {t : Tree} {most depth : Int} (h : most < 1 ∨ 60 < depth ∨ rightB t = false) : meas t most depth = none := by rw [meas_eq, if_pos h]
theorem meas_go {t : Tree} {most depth : Int} (h1 : ¬ most < 1) (h2 : ¬ 60 < depth) (h3 : rightB t = true) : meas t most depth = measL t.l most depth 1 := by rw [meas_eq, if_neg]; simp [h1, h2, h3]
theorem measL_next {l : List Tree} {depth : Int} {i : Nat} (hx : l[i]? = some x) : measL (l.drop i) most depth n = match meas x (most - n) (depth + 1) with | none => none | some m => measL (l.drop (i + 1)) most depth (n + m) := by
 obtain ⟨h, rfl⟩ := gE hx
 rw [List.drop_eq_getElem_cons h, measL]
theorem measL_end {l : List Tree} {depth : Int} {i : Nat} (h : l.length ≤ i) : measL (l.drop i) most depth n = some n := by rw [List.drop_of_length_le h, measL]
theorem meas_le : ∀ (t : Tree) {most depth n : Int}, meas t most depth = some n → 1 ≤ n ∧ n ≤ most := by
 refine tree_ind fun t ih => ?_
 intro most depth n h
 rw [meas_eq] at h
 split at h
 ·cases h
 ·rename_i hc
  have k0 : ∀ (l : List Tree) (k : Int), (∀ x ∈ l, x ∈ t.l) → 1 ≤ k → k ≤ most → measL l most depth k = some n → 1 ≤ n ∧ n ≤ most := by
   intro l
   induction l with
   | nil => intro k _ h1 h2 h3; rw [measL] at h3; cases h3; exact ⟨h1, h2⟩
   | cons x r ihl =>
    intro k hm h1 h2 h3
    rw [measL] at h3
    cases hx : meas x (most - k) (depth + 1) with
    | none => rw [hx] at h3; cases h3
    | some m =>
     rw [hx] at h3
     have := ih x (hm x (by simp)) hx
     exact ihl (k + m) (fun y hy => hm y (by simp [hy])) oM oM h3
  exact k0 t.l 1 (fun x hx => hx) oM oM h
def pairO (o : Option Int) : Value := .tuple #[.int .i64 (o.getD 0), .bool o.isSome]
section
open Go.Proofs.Tryz
attribute [local irreducible] TK Yl OpK AnyT wpList Code.wp
theorem c8 {s : BA} : Ct PP 8 #[.string s] H [] fun v H' O' => O' = [] ∧ v = .bool (decide (100 < s.size)) := by
 refine cB func8 ntmps8 fun I hD hI h4 => ?_
 refine g11b ?_
 intros
 refine rT results8 ?_
 exact ⟨rfl, byAll (by simp; omega)⟩
theorem c6 {x : Variant} (hl : Sl rStr H x.acts A n c) : Ct PP 6 #[.agg #[.slice A n c, .int .i64 x.count]] H [] fun v H' O' => O' = [] ∧ v = .bool (bigV x) := by
 refine cB func6 ntmps6 fun I hD hI h4 => ?_
 refine g2a ?_
 intros
 refine bG fun b2 => ?_
 refine g9a ?_
 intros
 refine sD 7 ?_ ?_ <;> intro h5
 refine g6 ?_
 refine kP [] ?_
 refine rT results6 ?_
 exact ⟨rfl, byAll (by have := hl.len; simp_all [bigV]; first | omega | exact Or.inl oM | exact fun h => absurd h oM)⟩
 refine g2 ?_
 refine sqY rfl rfl rfl rfl (fS hD rfl call7 rfl (c7 (p := fun s => decide (100 < s.size)) (caps := []) hl hl.2.2.1 call8 (fun x hx => c8)) ?_)
 rintro v5 rfl
 refine g3 ?_
 refine kP [] ?_
 refine rT results6 ?_
 exact ⟨rfl, byAll (by have := hl.len; simp_all [bigV]; first | omega | exact Or.inl oM | exact fun h => absurd h oM)⟩
theorem c9 {l : List Variant} (hl : Sl rVariant H l A n c) : Ct PP 9 #[.slice A n c] H [] fun v H' O' => O' = [] ∧ v = .bool (validVs l) := by
 have hn := hl.2.2.1
 refine cB func9 ntmps9 fun I hD hI e2 => ?_
 refine g11c ?_
 intros
 refine cD ?_ ?_ <;> intro e0
 refine g4a ?_
 intros
 refine rT results9 ?_
 exact ⟨rfl, congrArg Value.bool (validVs_long (by have := hl.len; omega)).symm⟩
 refine g9b ?_
 intros
 refine lp0 (fun D E H' O m => ∃ (i : Nat), H = H' ∧ (i ≤ n) ∧ (∀ (j : Nat) (x : Variant), j < i → l[j]? = some x → okV x = true) ∧ (∀ (j : Nat) (x y : Variant), j + 1 < i → l[j]? = some x → l[j + 1]? = some y → cmpW x.acts y.acts < 0) ∧ m = n - i ∧ O = [] ∧ E = (10, .int .i64 (i : Int)) :: D) [0, 8, 9] [] ⟨0, rfl, Nat.zero_le _, upto_zero, (fun j _ _ hj => absurd hj oM), rfl, rfl, rfl⟩ ?_
 rintro _ _ _ _ ⟨i, rfl, hi, hp, hq, rfl, rfl, rfl⟩ _ h7
 refine g5b ?_
 intros
 refine cD ?_ ?_ <;> intro b8
 refine g6b ?_
 intros
 obtain ⟨b6, h4⟩ := eX hl i
 obtain ⟨e3, o5, d0, d5, h8, b9⟩ := hl.at_ h4
 obtain ⟨A0, n0, c29, rfl, h5⟩ := h8
 refine g2 ?_
 refine aL fun d9 => ?_
 refine g1 ?_
 refine sG 0 ?_
 refine g2a ?_
 intros
 refine ts 32 fun _ => ?_
 refine tj 0 ?_
 refine g4 ?_
 refine sD 19 ?_ ?_ <;> intro d1
 refine tjN 5 ?_
 refine g18 ?_
 refine g18a ?_
 intros
 refine g1 ?_
 refine kP [] ?_
 refine rT results9 ?_
 exact ⟨rfl, congrArg Value.bool (validVs_not h4 (by have := h5.len; simp only [okV, Bool.and_eq_false_iff, decide_eq_false_iff_not]; simp_all; try omega)).symm⟩
 refine tjY 5 ?_
 refine g1 ?_
 refine oY 7 rfl kR rfl rfl rfl rfl (fS hD rfl call23 rfl (c23 h5) ?_)
 rintro v1 rfl
 refine g1 ?_
 refine tjY 8 ?_
 refine g2 ?_
 refine sB 25 ?_ ?_ <;> intro c1
 refine tjN 11 ?_
 refine g18 ?_
 refine g12a ?_
 intros
 refine g1 ?_
 refine kP [] ?_
 refine rT results9 ?_
 exact ⟨rfl, congrArg Value.bool (validVs_not h4 (by have := h5.len; simp only [okV, Bool.and_eq_false_iff, decide_eq_false_iff_not]; simp_all; try omega)).symm⟩
 refine tjY 11 ?_
 refine g4 ?_
 refine sD 30 ?_ ?_ <;> intro d2
 refine tjN 16 ?_
 refine g18 ?_
 refine g8a ?_
 intros
 refine kP [] ?_
 refine rT results9 ?_
 exact ⟨rfl, congrArg Value.bool (validVs_not h4 (by have := h5.len; simp only [okV, Bool.and_eq_false_iff, decide_eq_false_iff_not]; simp_all; try omega)).symm⟩
 refine tjY 16 ?_
 refine g4 ?_
 refine sD 35 ?_ ?_ <;> intro d3
 refine tjN 21 ?_
 refine g18a ?_
 intros
 refine g3 ?_
 refine kP [] ?_
 refine rT results9 ?_
 exact ⟨rfl, congrArg Value.bool (validVs_not h4 (by have := h5.len; simp only [okV, Bool.and_eq_false_iff, decide_eq_false_iff_not]; simp_all; try omega)).symm⟩
 refine tjY 21 ?_
 refine g2 ?_
 refine sD 38 ?_ ?_ <;> intro b7
 refine tjY 24 ?_
 refine g2 ?_
 obtain ⟨d8, h6⟩ := Sl.ex hl (i := ((i : Int) - 1 : Int).toNat) oM
 obtain ⟨e1, o4, c0, d6, b5, d7⟩ := hl.at_ h6
 obtain ⟨A1, n1, c54, rfl, h9⟩ := b5
 refine g6 ?_
 refine sqY rfl rfl rfl rfl (TK.callS (fun _ => trivial) rfl rfl (ent call24 rfl) (c24 h9 h5) ?_)
 rintro v0 rfl
 refine g4 ?_
 refine cD ?_ ?_ <;> intro d4
 refine g4a ?_
 intros
 refine kP [] ?_
 refine rT results9 ?_
 exact ⟨rfl, congrArg Value.bool (validVs_asc (i := i - 1) (by rw [show i - 1 = ((i : Int) - 1).toNat by omega]; exact h6) (by rw [show i - 1 + 1 = i by omega]; exact h4) oM).symm⟩
 refine g4 ?_
 have b4 : okV b6 = true := by have := h5.len; simp only [okV, Bool.and_eq_true, decide_eq_true_eq]; simp_all; try omega
 exact nK h7 ⟨i + 1, rfl, oM, (upto_succ hp h4 b4), (asc_succ hq (fun a b _ h1 h2 => by rw [show i - 1 = ((i : Int) - 1).toNat by omega, h6] at h1; rw [h4] at h2; cases h1; cases h2; omega)), rfl, rfl, rfl⟩
 refine tjN 24 ?_
 refine g18 ?_
 have b4 : okV b6 = true := by have := h5.len; simp only [okV, Bool.and_eq_true, decide_eq_true_eq]; simp_all; try omega
 exact nK h7 ⟨i + 1, rfl, oM, (upto_succ hp h4 b4), (asc_succ hq (fun a b h0 => absurd h0 oM)), rfl, rfl, rfl⟩
 refine g5a ?_
 intros
 refine rT results9 ?_
 exact ⟨rfl, congrArg Value.bool (validVs_of (by have := hl.len; omega) (upto_all hp (by rw [hl.len]; omega)) (fun j x y hx hy => hq j x y (by have := (gE hy).1; have := hl.len; omega) hx hy)).symm⟩
theorem c116 {t : Tree} (hl : Sl rTree H t.l A n c) : Ct PP 116 #[.agg #[.int .i64 t.op, .string t.act, .slice A n c]] H [] fun v H' O' => O' = [] ∧ v = .bool (rightB t) := by
 refine cB func116 ntmps116 fun I hD hI c1 => ?_
 refine g2a ?_
 intros
 refine bG fun b2 => ?_
 refine g15c ?_
 intros
 refine g6a ?_
 intros
 refine cD ?_ ?_ <;> intro c0
 refine g5a ?_
 intros
 refine sD 13 ?_ ?_ <;> intro d0
 refine g2 ?_
 refine sqY rfl rfl rfl rfl (fS hD rfl call51 rfl c51 ?_)
 rintro v0 rfl
 refine g3 ?_
 refine kP [] ?_
 refine rT results116 ?_
 exact ⟨rfl, byAll (by have := hl.len; simp_all [rightB]; try omega)⟩
 refine g6 ?_
 refine kP [] ?_
 refine rT results116 ?_
 exact ⟨rfl, byAll (by have := hl.len; simp_all [rightB]; try omega)⟩
 refine g5a ?_
 intros
 refine cD ?_ ?_ <;> intro h7
 refine g5a ?_
 intros
 refine sD 22 ?_ ?_ <;> intro b5
 refine g6 ?_
 refine kP [] ?_
 refine rT results116 ?_
 exact ⟨rfl, byAll (by have := hl.len; simp_all [rightB]; try omega)⟩
 refine g6 ?_
 refine kP [] ?_
 refine rT results116 ?_
 exact ⟨rfl, byAll (by have := hl.len; simp_all [rightB]; try omega)⟩
 refine g6b ?_
 intros
 refine cD ?_ ?_ <;> intro h6
 refine g1 ?_
 refine cD ?_ ?_ <;> intro h8
 refine g5a ?_
 intros
 refine sD 33 ?_ ?_ <;> intro h4
 refine g6 ?_
 refine kP [] ?_
 refine rT results116 ?_
 exact ⟨rfl, byAll (by have := hl.len; simp_all [rightB]; try omega)⟩
 refine g6 ?_
 refine kP [] ?_
 refine rT results116 ?_
 exact ⟨rfl, byAll (by have := hl.len; simp_all [rightB]; try omega)⟩
 ·exfalso; first | omega | contradiction
 refine g5a ?_
 intros
 refine cD ?_ ?_ <;> intro b8
 refine g1 ?_
 refine cD ?_ ?_ <;> intro h5
 refine g5a ?_
 intros
 refine sD 33 ?_ ?_ <;> intro b6
 refine g6 ?_
 refine kP [] ?_
 refine rT results116 ?_
 exact ⟨rfl, byAll (by have := hl.len; simp_all [rightB]; try omega)⟩
 refine g6 ?_
 refine kP [] ?_
 refine rT results116 ?_
 exact ⟨rfl, byAll (by have := hl.len; simp_all [rightB]; try omega)⟩
 ·exfalso; first | omega | contradiction
 refine g4 ?_
 refine cD ?_ ?_ <;> intro b7
 refine g5a ?_
 intros
 refine sD 33 ?_ ?_ <;> intro h9
 refine g6 ?_
 refine kP [] ?_
 refine rT results116 ?_
 exact ⟨rfl, byAll (by have := hl.len; simp_all [rightB]; try omega)⟩
 refine g6 ?_
 refine kP [] ?_
 refine rT results116 ?_
 exact ⟨rfl, byAll (by have := hl.len; simp_all [rightB]; try omega)⟩
 refine g5a ?_
 intros
 refine cD ?_ ?_ <;> intro b9
 refine g5a ?_
 intros
 refine sD 42 ?_ ?_ <;> intro b4
 refine g6 ?_
 refine kP [] ?_
 refine rT results116 ?_
 exact ⟨rfl, byAll (by have := hl.len; simp_all [rightB]; try omega)⟩
 refine g6 ?_
 refine kP [] ?_
 refine rT results116 ?_
 exact ⟨rfl, byAll (by have := hl.len; simp_all [rightB]; try omega)⟩
 refine g5a ?_
 intros
 refine kP [] ?_
 refine rT results116 ?_
 exact ⟨rfl, byAll (by have := hl.len; simp_all [rightB]; try omega)⟩
theorem c69 : ∀ (t : Tree) {A : OA} {n c : Nat} {most depth : Int} (hl : Sl rTree H t.l A n c) (h0 : most ≤ 400) (h1 : 0 ≤ most) (h2 : 0 ≤ depth ∧ depth ≤ 61), Ct PP 69 #[.agg #[.int .i64 t.op, .string t.act, .slice A n c], .int .i64 most, .int .i64 depth] H [] fun v H' O' => O' = [] ∧ v =  pairO (meas t most depth) := by
 refine tree_ind fun t ih => ?_
 intro A n c most depth hl h0 h1 h2
 have hn := hl.2.2.1
 refine cB func69 ntmps69 fun I hD hI d2 => ?_
 refine g2a ?_
 intros
 refine bG fun b2 => ?_
 refine g9b ?_
 intros
 refine sD 15 ?_ ?_ <;> intro b8
 refine g12a ?_
 intros
 refine g3 ?_
 refine kP [] ?_
 refine r2 results69 ?_
 exact ⟨rfl, congrArg pairO (meas_bad (by simp_all)).symm⟩
 refine g4 ?_
 refine sD 19 ?_ ?_ <;> intro b9
 refine g11a ?_
 intros
 refine kP [] ?_
 refine r2 results69 ?_
 exact ⟨rfl, congrArg pairO (meas_bad (by simp_all)).symm⟩
 refine g1 ?_
 refine sqY rfl rfl rfl rfl (fS hD rfl call116 rfl (c116 hl) ?_)
 rintro v9 rfl
 refine g3 ?_
 refine cN ?_ ?_ <;> intro b6
 refine g5a ?_
 intros
 refine kP [] ?_
 refine r2 results69 ?_
 exact ⟨rfl, congrArg pairO (meas_bad (by simp_all)).symm⟩
 refine g14c ?_
 intros
 refine lp1 (fun D f E H' O m => ∃ (i : Nat) (k : Int), H = H' ∧ (i ≤ n) ∧ (1 ≤ k) ∧ (k ≤ most) ∧ (meas t most depth = measL (t.l.drop i) most depth k) ∧ m = n - i ∧ O = [f] ∧ E = (8, .int .i64 k) :: (27, .int .i64 (i : Int)) :: D) [1, 2, 25, 26] [0] ⟨0, 1, rfl, Nat.zero_le _, oM, oM, (meas_go oM oM (by simp_all)), rfl, rfl, rfl⟩ ?_
 rintro _ _ _ _ ⟨i, k, rfl, hi, d1, d0, hm, rfl, rfl, rfl⟩ _ h7
 refine g5b ?_
 intros
 refine cD ?_ ?_ <;> intro h9
 refine g5b ?_
 intros
 obtain ⟨b4, h4⟩ := eX hl i
 obtain ⟨d3, o4, c0, b7, h6, b5⟩ := hl.at_ h4
 obtain ⟨A0, n0, c36, rfl, h8⟩ := rTree_dest h6
 refine g2 ?_
 refine aL fun c1 => ?_
 refine sG 0 ?_
 refine g9a ?_
 intros
 refine sq rfl (fS hD rfl call69 rfl (ih b4 (mG h4) h8 oM oM oM) ?_)
 rintro v0 rfl
 refine g12b ?_
 intros
 refine cN ?_ ?_ <;> intro h5
 refine g5a ?_
 intros
 refine kP [] ?_
 refine r2 results69 ?_
 have e := Option.not_isSome_iff_eq_none.1 (by simpa using h5)
 exact ⟨rfl, congrArg pairO (show none = _ by rw [hm, measL_next h4, e])⟩
 refine g4 ?_
 obtain ⟨m, hmm⟩ := Option.isSome_iff_exists.1 (by simpa using h5)
 have hle := meas_le b4 hmm
 rw [hmm]
 refine q (yAdd rfl rfl (by simp only [Option.getD_some]; omega) (by simp only [Option.getD_some]; omega)) rfl rfl rfl ?_
 refine g5 ?_
 exact nK h7 ⟨i + 1, k + m, rfl, oM, oM, oM, (by rw [hm, measL_next h4, hmm]), rfl, rfl, rfl⟩
 refine g7a ?_
 intros
 refine kP [] ?_
 refine r2 results69 ?_
 exact ⟨rfl, congrArg pairO (show some k = _ by rw [hm, measL_end (by have := hl.len; omega)])⟩
theorem c29 {t : Tree} (hl : Sl rTree H t.l A n c) : Ct PP 29 #[.agg #[.int .i64 t.op, .string t.act, .slice A n c]] H [] fun v H' O' => O' = [] ∧ v = .bool (validT t) := by
 refine cB func29 ntmps29 fun I hD hI h4 => ?_
 refine g2a ?_
 intros
 refine bG fun b2 => ?_
 refine g5a ?_
 intros
 refine sq rfl (fS hD rfl call69 rfl (c69 t hl oM oM oM) ?_)
 rintro v4 rfl
 refine g11a ?_
 intros
 refine kP [] ?_
 refine rT results29 ?_
 exact ⟨rfl, rfl⟩
end
end Go.Proofs.YtookcfeogbeooaaGreatDoor
