/-
The law. What the row's reading gives: the variants, in sealed memory; the table of powers. Whatever log there is, the tree that is discovered has its activities and its words: of any variants the function TopDiscoveredAny returns true, and the variants read as they did.
Conditions: those that each theorem states.
-/
import Derived.Test.YtookcfeogbeooaaGreatDoorM26
import Derived.Test.YtookcfeogbeooaaGreatDoorRows
import Derived.ProofKit
import Derived.LaidMore
import Derived.OpenShut
import Derived.Stop.Joined
import Derived.Deep.Strs
import Derived.Lib.LaidTab
import Derived.SevenTiedAt
import Derived.Test.YtookcfeogbeooaaGreatDoorTie
import Derived.Test.YtookcfeogbeooaaGreatDoorCards
set_option linter.all false
set_option maxRecDepth 100000
set_option maxHeartbeats 8000000
set_option autoImplicit true
set_option relaxedAutoImplicit true
namespace Go.Proofs.YtookcfeogbeooaaGreatDoor
open Go Go.Proofs
section
open Go.Proofs.Tryz
attribute [local irreducible] TK Yl OpK AnyT wpList Code.wp
theorem fromT_cases {t : Tree} (h : validT t = true) : (fromT t).2 = 5 ∨ (fromT t).2 = 0 ∧ (fromT t).1 = netOf t ∧ validN (fromT t).1 = true := by
 unfold fromT
 rw [if_pos h]
 unfold finN
 by_cases hv : validN (netOf t) = true
 ·rw [if_pos hv]; exact .inr ⟨rfl, rfl, hv⟩
 ·rw [if_neg hv]; exact .inl rfl
theorem c3 (hT : TabH H) {l : List Variant} (hl : Sl rVariant H l A n c) : Ct PP 3 #[.slice A n c] H [] fun v H' O' => O' = [] ∧ v = .bool true := by
 have r6 := hl.len
 have t1 := hl.2.2.1
 refine cB func3 ntmps3 fun I hD hI u0 => ?_
 refine g5b ?_
 intros
 refine g2a ?_
 intros
 refine sq rfl (fS hD rfl call4 rfl c4 ?_)
 rintro v4 rfl
 refine g15c ?_
 intros
 refine g1 ?_
 refine lp0 (fun D E H' O m => ∃ (i : Nat) (tt : Int), H = H' ∧ (i ≤ n) ∧ m = n - i ∧ O = [] ∧ E = (3, .int .i64 tt) :: (23, .int .i64 (i : Int)) :: D) [0, 21, 22] [] ⟨0, 0, rfl, Nat.zero_le _, rfl, rfl, rfl⟩ ?_
 rintro _ _ _ _ ⟨i, tt, rfl, hi, rfl, rfl, rfl⟩ _ k7
 refine g5b ?_
 intros
 refine cD ?_ ?_ <;> intro r3
 refine g5b ?_
 intros
 obtain ⟨t5, k3⟩ := eX hl i
 obtain ⟨u1, s8, n5, r7, k6, r4⟩ := hl.at_ k3
 obtain ⟨A1, r5, c29, rfl, o9⟩ := k6
 refine g2 ?_
 refine aL fun s5 => ?_
 refine sG 0 ?_
 refine g12 ?_
 exact nK k7 ⟨i + 1, IntKind.i64.wrap (tt + (r5 : Int)), rfl, oM, rfl, rfl, rfl⟩
 refine g8b ?_
 intros
 refine sD 36 ?_ ?_ <;> intro r0
 refine g18a ?_
 intros
 refine rT results3 ?_
 exact ⟨rfl, rfl⟩
 refine g4 ?_
 refine sD 40 ?_ ?_ <;> intro o5
 refine g12a ?_
 intros
 refine g2 ?_
 refine rT results3 ?_
 exact ⟨rfl, rfl⟩
 refine g1 ?_
 refine sqY rfl rfl rfl rfl (fS hD rfl call5 rfl (c5 (p := bigV) (caps := []) hl oM call6 (fun x hx cs hc => by obtain ⟨_, _, _, rfl, h⟩ := hc; exact c6 h)) ?_)
 rintro v6 rfl
 refine g2 ?_
 refine sB 44 ?_ ?_ <;> intro r1
 refine g10a ?_
 intros
 refine rT results3 ?_
 exact ⟨rfl, rfl⟩
 refine g1 ?_
 refine sqY rfl rfl rfl rfl (fS hD rfl call9 rfl (c9 hl) ?_)
 rintro v8 rfl
 refine g3 ?_
 refine cN ?_ ?_ <;> intro k9
 refine g4a ?_
 intros
 refine rT results3 ?_
 exact ⟨rfl, rfl⟩
 have hv : validVs l = true := by simpa using k9
 refine g4a ?_
 intros
 refine sq rfl (fP hD rfl call10 rfl (c10 hl hv) ?_)
 rintro t9 H5 ⟨C, kc, cc, ys, t3, rfl, b4, l2⟩ e9
 have ⟨hl, hT⟩ := mo2 e9 hl hT
 refine g12b ?_
 intros
 refine cN ?_ ?_ <;> intro e6
 refine g6a ?_
 intros
 refine rT results3 ?_
 exact ⟨rfl, congrArg Value.bool (decide_eq_true (l2.elim (fun h => h.1) fun h => absurd h.1 (by simpa using e6)))⟩
 obtain ⟨_, r8, o4, i9⟩ := l2.resolve_left (by rintro ⟨rfl, _⟩; simp at e6)
 refine g4a ?_
 intros
 refine sq rfl (fP hD rfl call11 rfl (c11 hl hv) ?_)
 rintro t6 H7 ⟨o, a, At, nt, ct, t2, rfl, l7⟩ i4
 have ⟨hl, b4, hT⟩ := mo3 i4 hl b4 hT
 refine g3 ?_
 refine aL fun d9 => ?_
 refine sG 0 ?_
 refine g8b ?_
 intros
 refine cN ?_ ?_ <;> intro e1
 have h5 := l7.resolve_right (by rintro ⟨rfl, _⟩; simp at e1)
 refine g5a ?_
 intros
 refine sD 67 ?_ ?_ <;> intro j9
 refine g5 ?_
 refine sD 72 ?_ ?_ <;> intro k2
 refine g7 ?_
 refine kP [] ?_
 refine rT results3 ?_
 exact ⟨rfl, congrArg Value.bool (decide_eq_true (by have := h5.2.2; omega))⟩
 exact absurd h5.2.1 k2
 exact absurd h5.1 j9
 obtain ⟨_, lt, h9, j3, j0⟩ := l7.resolve_left (by rintro ⟨rfl, _⟩; simp at e1)
 have k1 := validT_ok j3
 have t8 := validT_size j3
 have n6 : ∀ s ∈ leafs (Tree.mk o a lt), s ∈ ys := fun s hs => (i9 s).2 ((j0.leaf s).1 hs)
 refine g5b ?_
 intros
 refine sq rfl (fP hD rfl call13 rfl (c13 _ (Tree.mk o a lt) _ _ (Nat.lt_succ_self _) oM (rTree_mk (t := (Tree.mk o a lt)) h9)) ?_)
 rintro v7 H6 ⟨Am, nm, cm, y0, rfl, j2, s0, n7, s4⟩ i6
 have ⟨hl, b4, h9, hT⟩ := mo4 i6 hl b4 h9 hT
 have n4 : y0 = ys := SSet.ext s0 r8 fun s => (n7 s).trans ((j0.leaf s).trans (i9 s).symm)
 refine g1 ?_
 refine sq rfl (fS hD rfl call12 rfl (c12 j2 b4 (by have := j2.2.2.1; omega)) ?_)
 rintro t4 rfl
 rw [decide_eq_true n4]
 refine g7a ?_
 intros
 refine sq rfl (fP hD rfl call14 rfl (c14 (t := (Tree.mk o a lt)) h9) ?_)
 rintro v9 H1 ⟨cs, rfl, hN⟩ e8
 have ⟨hl, b4, h9, j2, hT⟩ := mo5 e8 hl b4 h9 j2 hT
 have h7 := fromT_cases j3
 generalize fromT (Tree.mk o a lt) = fx at hN h7 ⊢
 obtain ⟨nx, e7⟩ := fx
 dsimp only at h7 hN
 obtain ⟨An, nn, cn, rfl, b6⟩ := hN
 refine g3 ?_
 refine aL fun e0 => ?_
 refine sG 0 ?_
 refine g3a ?_
 intros
 refine TK.seq fun K2 j7 => ?_
 have e2 : TK 172 I K2 [(0, .slice A n c), (7, .int .i64 e7), (8, .pointer (ad d9)), (9, .pointer (ad e0)), (102, .bool false)] H1 [.blk e0 44 [.int .i64 nx.places, .slice An nn cn, .int .i64 nx.source, .int .i64 nx.sink], .blk d9 37 [.int .i64 o, .string a, .slice At nt ct]] := by
  refine j7 _ _ _ ?_
  refine g10b ?_
  intros
  refine lp2 (fun D f f1 E H O m => ∃ (j : Nat), Ghost.le H1 H ∧ (j ≤ n) ∧ m = n - j ∧ O = [f, f1] ∧ E = (105, .int .i64 (j : Int)) :: D) [7, 8, 9, 103, 104] [0, 1] ⟨0, Ghost.le.refl _, Nat.zero_le _, rfl, rfl, rfl⟩ ?_
  rintro _ H3 _ _ ⟨j, h8, hj, rfl, rfl, rfl⟩ _ b9
  have ⟨hl, b6, h9, hT, b4⟩ := mo5 h8 hl b6 h9 hT b4
  refine g5b ?_
  intros
  refine cD ?_ ?_ <;> intro n2
  refine g6b ?_
  intros
  obtain ⟨l0, f9⟩ := eX hl j
  obtain ⟨s2, s7, n8, r9, j5, o6⟩ := hl.at_ f9
  obtain ⟨A0, n0, c102, rfl, h4⟩ := j5
  refine g2 ?_
  refine aL fun b8 => ?_
  refine g1 ?_
  refine sG 0 ?_
  refine g2a ?_
  intros
  refine TK.seq fun K1 i8 => ?_
  have k8 := mG f9
  have j4 := (validVs_iff.1 hv).2.1 _ k8
  unfold okV at j4
  simp only [Bool.and_eq_true, decide_eq_true_eq] at j4
  have t7 := h4.len
  have d1 := j0.lang _ k8
  have d3 : ∀ (bz : Bool), TK 172 I K1 [(7, .int .i64 e7), (8, .pointer (ad d9)), (9, .pointer (ad e0)), (11, .pointer (ad b8)), (103, .slice A n c), (104, .int .i64 (n : Int)), (105, .int .i64 (j : Int)), (116, .bool bz)] H3 [.blk b8 26 [.slice A0 n0 c102, .int .i64 l0.count], .blk e0 44 [.int .i64 nx.places, .slice An nn cn, .int .i64 nx.source, .int .i64 nx.sink], .blk d9 37 [.int .i64 o, .string a, .slice At nt ct]] := by
   intro bz
   refine i8 _ _ _ ?_
   refine cN ?_ ?_ <;> intro l6
   refine g4 ?_
   exact nK b9 ⟨j + 1, h8, oM, rfl, rfl, rfl⟩
   refine g6a ?_
   intros
   refine sq rfl (fP hD rfl call16 rfl (c16 (t := (Tree.mk o a lt)) hT j3 o4 n6 h9 h4 oM (fun s hs => (j0.leaf s).2 ⟨_, k8, hs⟩) d1) ?_)
   rintro v3 H0 ⟨s3, n9, rfl, l5⟩ h6
   have ⟨hl, h9, h4, b6, hT, b4⟩ := mo6 h6 hl h9 h4 b6 hT b4
   refine g7a ?_
   intros
   refine TK.seq fun K0 f8 => ?_
   have d4 : TK 172 I K0 [(7, .int .i64 e7), (8, .pointer (ad d9)), (9, .pointer (ad e0)), (11, .pointer (ad b8)), (103, .slice A n c), (104, .int .i64 (n : Int)), (105, .int .i64 (j : Int)), (137, .bool false)] H0 [.blk b8 26 [.slice A0 n0 c102, .int .i64 l0.count], .blk e0 44 [.int .i64 nx.places, .slice An nn cn, .int .i64 nx.source, .int .i64 nx.sink], .blk d9 37 [.int .i64 o, .string a, .slice At nt ct]] := by
    refine f8 _ _ _ ?_
    refine g8b ?_
    intros
    refine cN ?_ ?_ <;> intro e3
    refine g4 ?_
    exact nK b9 ⟨j + 1, (h8.trans h6), oM, rfl, rfl, rfl⟩
    obtain ⟨_, l9, j1⟩ := h7.resolve_left (by rintro rfl; simp at e3)
    refine g6a ?_
    intros
    refine sq rfl (fP hD rfl call17 rfl (c17 (t := (Tree.mk o a lt)) l9 k1 b6 j1 h4 j4.1.2 j4.1.1 (by have e : nx = netOf (Tree.mk o a lt) := l9; rw [e] at j1 ⊢; exact net_run k1 j1 d1)) ?_)
    rintro v5 H4 ⟨s9, R0, rn, rc, s6, rfl, l8⟩ b5
    have ⟨hl, b6, h4, h9, hT, b4⟩ := mo6 b5 hl b6 h4 h9 hT b4
    refine g12b ?_
    intros
    refine g2 ?_
    refine cN ?_ ?_ <;> intro d2
    have j8 := l8.resolve_right (by rintro ⟨rfl, _⟩; simp at d2)
    refine g6b ?_
    intros
    refine cN ?_ ?_ <;> intro d6
    simp at d6
    exact absurd j8 d6
    refine g5 ?_
    exact nK b9 ⟨j + 1, ((h8.trans h6).trans b5), oM, rfl, rfl, rfl⟩
    obtain ⟨_, rfl, run, d7, d8, o8, e4⟩ := l8.resolve_left (by rintro rfl; simp at d2)
    refine g5a ?_
    intros
    refine sq rfl (fP hD rfl call18 rfl (c18 b6 j1 d7 d8 o8) ?_)
    rintro v1 H2 ⟨Aw, kw, cw, rfl, l3⟩ b7
    have ⟨hl, b6, h4, d7, h9, hT, b4⟩ := mo7 b7 hl b6 h4 d7 h9 hT b4
    refine g12a ?_
    intros
    refine g3 ?_
    refine sB 164 ?_ ?_ <;> intro e5
    simp at e5
    refine g3 ?_
    refine sqY rfl rfl rfl rfl (fS hD rfl call12 rfl (c12 l3 h4 (by have := l3.2.2.1; omega)) ?_)
    rintro v0 rfl
    rw [decide_eq_true e4]
    refine g8 ?_
    exact nK b9 ⟨j + 1, (((h8.trans h6).trans b5).trans b7), oM, rfl, rfl, rfl⟩
   refine g4 ?_
   refine sB 126 ?_ ?_ <;> intro c0
   have j6 := (l5.resolve_right (by rintro ⟨rfl, _⟩; simp at c0))
   refine g4 ?_
   refine sB 130 ?_ ?_ <;> intro d5
   simp at d5
   exact absurd j6 d5
   refine g3 ?_
   refine sD 133 ?_ ?_ <;> intro n1
   omega
   refine g4 ?_
   exact jN (d4)
   have k0 : n9 = 0 := by simpa using c0
   obtain ⟨_, rfl⟩ := l5.resolve_left oM
   refine g7 ?_
   refine sD 133 ?_ ?_ <;> intro i5
   refine g4 ?_
   exact jN (d4)
   exact absurd k0 i5
  refine g4 ?_
  refine sD 112 ?_ ?_ <;> intro l1
  refine g1 ?_
  refine qY (yMod rfl rfl oM oM) rfl rfl rfl rfl rfl rfl ?_
  refine g2 ?_
  exact jN (d3 (!decide (((j : Int) % 10) = 0)))
  refine g4 ?_
  exact jN (d3 false)
  refine g5a ?_
  intros
  refine kP [] ?_
  refine rT results3 ?_
  exact ⟨rfl, rfl⟩
 refine g4 ?_
 refine sB 90 ?_ ?_ <;> intro d0
 have o7 := (h7.resolve_right (by rintro ⟨rfl, _⟩; simp at d0))
 refine g4 ?_
 refine sB 94 ?_ ?_ <;> intro c1
 simp at c1
 exact absurd o7 c1
 refine g3 ?_
 refine sD 97 ?_ ?_ <;> intro l4
 omega
 refine g5 ?_
 exact jN (e2)
 have n3 : e7 = 0 := by simpa using d0
 obtain ⟨_, k4, k5⟩ := h7.resolve_left oM
 refine g7 ?_
 refine sD 97 ?_ ?_ <;> intro i7
 refine g1 ?_
 refine sqY rfl rfl rfl rfl (fS hD rfl call15 rfl (c15 (t := (Tree.mk o a lt)) k4 k1 b6 k5) ?_)
 rintro v2 rfl
 refine g3 ?_
 exact jN (e2)
 exact absurd n3 i7
end
section
open Go.ChangeShapes Go.WideShapes Go.ChangeAt Go.RowKit Go.Deep
def ghW (W : World) : Ghost := fun b => W.heap[b]?
theorem ghW_st (W : World) : St (ghW W) [] W := ⟨fun b o h => h, by simp, by simp [fps], by simp [fps]⟩
section
variable {α : Type} {r : Rep α} {W : World}
theorem sl_of {a : Addr} {len cap : Nat} (hk : 0 < r.k) (hl : len ≤ cap) (hm : len ≤ 140737488355328) (X : Nat → α) (h : ∀ i, i < len → ∃ cs, W.cells? 0 (a.add (i * r.k)) r.k = some cs ∧ r.rel (ghW W) (X i) cs) : Sl r (ghW W) ((List.range len).map X) (some a) len cap := by
 refine ⟨by simp, hl, hm, (fun h => by cases h), fun hn => ?_⟩
 have cell : ∀ i, i < len → ∀ j, j < r.k → ∃ cs, r.rel (ghW W) (X i) cs ∧ cs.length = r.k ∧ ∀ j, j < r.k → W.cell? (a.add (i * r.k + j)) = cs[j]? := fun i hi j hj => by
  obtain ⟨cs, h1, h2⟩ := h i hi
  obtain ⟨_, h3, h4⟩ := World.cells?_some h1
  exact ⟨cs, h2, h3, fun j hj => by rw [← h4 j hj, add_add]⟩
 obtain ⟨c0, _, h9, h0⟩ := cell 0 hn 0 hk
 have h5 := h0 0 hk
 rw [Nat.zero_mul, Nat.zero_add, List.getElem?_eq_getElem oM] at h5
 have a0 : a.add 0 = a := by unfold Addr.add; simp
 rw [a0] at h5
 unfold World.cell? at h5
 obtain ⟨b, o, sp⟩ := a
 cases hb : W.heap[b]? with
 | none => simp [hb] at h5
 | some ob =>
  cases ob with
  | map es k => simp [hb] at h5
  | cells arr e fr =>
   simp only [hb] at h5
   split at h5
   ·cases h5
   ·rename_i h6
    have h6 : sp = none := by simpa using h6
    subst h6
    refine ⟨b, o, rfl, arr, e, fr, hb, fun i x hx => ?_⟩
    have hi : i < len := by have := (gE hx).1; simpa using this
    obtain ⟨cs, h1, h2, h3⟩ := cell i hi 0 hk
    have h7 : X i = x := by simpa [hi] using hx
    refine ⟨cs, h7 ▸ h1, fun j v hj => ?_⟩
    have h8 : j < r.k := by have := (gE hj).1; omega
    have h4 := h3 j h8
    rw [hj, addr_add] at h4
    unfold World.cell? at h4
    simp only [hb] at h4
    rw [show o + i * r.k + j = o + (i * r.k + j) by omega]
    simpa using h4
  | _ => simp [hb] at h5
end
section
variable {H : Type} {enc : TypeId × Value → H} {W : World} {spare : Nat → Bool} {held : Bool} {fuel : Nat} {cs : LV} {x : DataW H × List MemPlace}
def Fits (l : List Nat) : Prop := ∀ n ∈ l, n ≤ reachBytes
theorem strs_sl (h : DataW.trod enc PP W 0 spare held fuel 24 cs = some x) (hw : Fits (DataW.weights PP 24 x.1)) : ∃ (ss : LB) (A : OA) (n c : Nat), cs = [.slice A n c] ∧ Sl rStr (ghW W) ss A n c := by
 rcases open_strs Tryz.underlying24 Tryz.underlying9 (by kernel_rfl) h with ⟨rfl, _⟩ | ⟨a, len, cap, m, Sx, rfl, _, hl, _, hm, rfl, hc⟩
 ·exact ⟨[], _, _, _, rfl, Sl.nil _ _⟩
 ·have hlm : len ≤ m := by rw [hm]; split <;> omega
  have hb : PP.bytesOf 9 = 16 := by kernel_rfl
  have h4 := hw ((len + (m - len)) * 16) (by simp [DataW.weights, Tryz.underlying24, hb])
  have hr : reachBytes = 140737488351232 := rfl
  refine ⟨(List.range len).map Sx, _, _, _, rfl, sl_of (r := rStr) dC hl oM Sx fun i hi => ⟨[.string (Sx i)], ?_, rfl⟩⟩
  have := (hc i oM).1
  show W.cells? 0 (a.add (i * 1)) 1 = _
  rw [Nat.mul_one]
  unfold World.cells?
  have e : (a.add i).add 0 = a.add i := by unfold Addr.add; simp
  simp [List.range, List.range.loop, e, this]
theorem variant_rel (h : DataW.trod enc PP W 0 spare held fuel 26 cs = some x) (hw : Fits (DataW.weights PP 26 x.1)) : ∃ v : Variant, rVariant.rel (ghW W) v cs := by
 obtain ⟨y0, y1, n, rfl, hl, h0, h1⟩ := trod_struct2 Tryz.underlying26 h
 have h5 : PP.cellsOf 26 = 2 := by kernel_rfl
 have h4 : PP.cellsOf 24 = 1 := by kernel_rfl
 have h6 : PP.cellsOf 3 = 1 := by kernel_rfl
 rw [h5] at hl
 simp only [h4, h6] at h0 h1
 match cs, hl with
 | [c0, c1], _ =>
  obtain ⟨k, e1, _, _⟩ := DataW.trod_int Tryz.underlying3 h1
  obtain ⟨ss, A, n', c', e0, hs⟩ := strs_sl h0 (fun m hm => hw m (by simp only [DataW.weights, Tryz.underlying26, DataW.weightsEach]; exact List.mem_append_left _ hm))
  simp at e0 e1
  subst e0 e1
  exact ⟨⟨ss, k⟩, A, n', c', rfl, hs⟩
theorem weightsAll_mem {e : TypeId} {d : DataW H} : ∀ {l : List (DataW H)}, d ∈ l → ∀ m ∈ DataW.weights P e d, m ∈ DataW.weightsAll P e l
 | y :: l, hd, m, hm => by
  rw [DataW.weightsAll, List.mem_append]
  rcases List.mem_cons.1 hd with rfl | hd
  ·exact .inl hm
  ·exact .inr (weightsAll_mem hd m hm)
instance : Inhabited Variant := ⟨⟨[], 0⟩⟩
theorem variants_sl (h : DataW.trod enc PP W 0 spare held fuel 22 cs = some x) (hw : Fits (DataW.weights PP 22 x.1)) : ∃ (l : List Variant) (A : OA) (n c : Nat), cs = [.slice A n c] ∧ Sl rVariant (ghW W) l A n c := by
 rcases open_slice Tryz.underlying22 h with ⟨rfl, _⟩ | ⟨a, len, cap, m, n, D, Pl, rfl, _, hl, _, hm, rfl, hc⟩
 ·exact ⟨[], _, _, _, rfl, Sl.nil _ _⟩
 ·have hlm : len ≤ m := by rw [hm]; split <;> omega
  have hb : PP.bytesOf 26 = 32 := by kernel_rfl
  have h4 : PP.cellsOf 26 = 2 := by kernel_rfl
  have hr : reachBytes = 140737488351232 := rfl
  have h5 : ∀ q ∈ (len + (m - len)) * 32 :: (DataW.weightsAll PP 26 ((List.range len).map D) ++ DataW.weightsAll PP 26 ((List.range (m - len)).map fun j => D (len + j))), q ≤ reachBytes := fun q hq => hw q (by simpa [DataW.weights, Tryz.underlying22, hb] using hq)
  have h6 := h5 _ (List.mem_cons_self ..)
  have e0 : ∀ i, i < len → ∃ v : Variant, ∃ cs, W.cells? 0 (a.add (i * 2)) 2 = some cs ∧ rVariant.rel (ghW W) v cs := fun i hi => by
   obtain ⟨c0, h1, h2⟩ := hc i oM
   rw [h4] at h1
   obtain ⟨v, hv⟩ := variant_rel h2 (fun q hq => h5 q (List.mem_cons_of_mem _ (List.mem_append_left _ (weightsAll_mem (List.mem_map.2 ⟨i, List.mem_range.2 hi, rfl⟩) q hq))))
   exact ⟨v, c0, h1, hv⟩
  obtain ⟨X, hX⟩ := choose_lt (α := Variant) (p := fun i v => ∃ cs, W.cells? 0 (a.add (i * 2)) 2 = some cs ∧ rVariant.rel (ghW W) v cs) e0
  exact ⟨(List.range len).map X, _, _, _, rfl, sl_of (r := rVariant) dC hl oM X hX⟩
end
end
section
open Go.ChangeShapes Go.WideShapes Go.ChangeAt Go.RowKit Go.Lib
theorem own : ownKnob Tryz.prog.godebug = none := by kernel_rfl
theorem laidOut : laidOutB Tryz.prog = true := by kernel_rfl
abbrev laid3 : List (String × DataW Unit) := [("math/bits.deBruijn32tab", Rows.laid_math_bits_deBruijn32tab), ("math/bits.deBruijn64tab", Rows.laid_math_bits_deBruijn64tab), ("internal/strconv.uint64pow10", Rows.laid_internal_strconv_uint64pow10)]
theorem gPow : Tryz.prog.globalNamed "internal/strconv.uint64pow10" = some 1 := by kernel_rfl
theorem tPow : (Tryz.prog.globals[1]?).map (·.type) = some 350 := by kernel_rfl
theorem door_met (os : Os) (args : Array Value) : laidMetH Tryz.prog laid3 ((World.doorLaid Tryz.prog 400 os).forCall (fun _ _ => 0) ⟨#[], args, []⟩).memory :=
 laidMetH_of_parts3 (fuel := 8) (laidMet_of_run' 8 (by kernel_rfl) (by kernel_rfl)) (by kernel_rfl) (by kernel_rfl)
theorem tab_of_laid (h : laidMetH Tryz.prog laid3 W) : TabH (ghW W) := by
 rw [MakeChecks.laidMetH_plain _ _ _ (by kernel_rfl)] at h
 obtain ⟨ps, ⟨_, _, _, _, _, _, _, _, _, _, ⟨_, _, _, _, _, _, _, _, _, _, ⟨g, t, cs, f, p, q, hg, ht, hv, hd, _, _⟩, _⟩, _⟩, _, _⟩ := h
 obtain rfl := Option.some.inj (gPow.symm.trans hg)
 obtain rfl := Option.some.inj (tPow.symm.trans ht)
 have h4 := cells_of_tab (zs := pow10Tab) (k := .u64) Tryz.underlying350 Tryz.underlying203 (by kernel_rfl) (by kernel_rfl) hd
 unfold World.var? at hv
 rw [gPow] at hv
 simp only [Option.bind_some] at hv
 cases hb : W.heap[1]? with
 | none => simp [hb] at hv
 | some ob =>
  cases ob with
  | cells arr e fr =>
   simp only [hb, Option.some.injEq] at hv
   subst hv
   exact ⟨e, fr, by show W.heap[1]? = _; rw [hb, ← h4]⟩
  | _ => simp [hb] at hv
theorem keptBut_below {W : World} (h : Below W.heap.size W W') (may : MemPlace → Prop) : W.keptBut W' may := by
 refine ⟨h.os, h.output, fun i hi => ?_⟩
 rw [h.block i hi]
 cases hb : W.heap[i]? with
 | none => simp
 | some o => cases o <;> simp
set_option maxRecDepth 100000 in
theorem lifted (os : Os) (started : os.Started) (H : Type) (enc : TypeId × Value → H) :
  ReturnsInHanded {} Tryz.checked os 3 .any (fun w args => (Rows.topDiscoveredAnySpec.pre enc Tryz.prog Tryz.f3 [] false w args ∧ laidMetH Tryz.prog laid3 w) ∧ sizedMet enc Tryz.prog Tryz.f3 (OpenSpec.ofChange Rows.topDiscoveredAnySpec) false w args)
   (Rows.topDiscoveredAnySpec.post enc Tryz.prog Tryz.f3 false true false false) := by
 refine returnsInHanded_of_change_and (C := Tryz.checked) (X := fun w _ => laidMetH Tryz.prog laid3 w) (fun _ _ _ hh h => h.of_heap hh) own started (by kernel_rfl) Tryz.func3
  (ChangeSpec.witness_shaped (enc := enc) (C := Tryz.checked) (os := os) (X := fun w _ => laidMetH Tryz.prog laid3 w) false (World.doorLaid Tryz.prog 400 os) #[.slice none 0 0] 8 rfl (World.shaped_of_RefB (by kernel_rfl) (by kernel_rfl)) (by kernel_rfl) (by kernel_rfl) (by kernel_rfl) (door_met os _)) ?_
 intro W b4 args ds gs b6 h4 hW _ b5 hL _
 have h5 : ∀ (j : Nat) t v, Tryz.f3.params[j]? = some t → args[j]? = some v → Value.okWide Tryz.prog W .any b4 t v := h4
 have b7 : (DataW.weightsEach Tryz.prog (Tryz.f3.params.toList ++ Rows.topDiscoveredAnySpec.plain.varTypes Tryz.prog) (ds ++ gs)).all (· ≤ reachBytes) = true := b5
 have h8 := hW
 obtain ⟨p, q, b8, hV, rfl, d2, d1⟩ := hW
 have hA : DataW.TrodAll enc Tryz.prog W 0 (fun _ => true) true Tryz.f3.params.toList args.toList ds p := b8
 rw [Tryz.params3] at hA h5 b7
 obtain ⟨v0, d0, rfl, rfl, h0⟩ := trodAll_one hA
 obtain ⟨rfl, rfl⟩ := trodVars_none hV
 clear b8 h4
 simp only [List.append_nil] at h8
 have h9 : Fits (DataW.weights PP 22 d0) := fun n hn => by
  have := List.all_eq_true.1 b7 n (by
   show n ∈ DataW.weightsEach Tryz.prog (22 :: _) (d0 :: _)
   rw [DataW.weightsEach]; exact List.mem_append_left _ hn)
  simpa using this
 obtain ⟨A0, n0, c0, rfl⟩ := okWide_slice Tryz.underlying22 (h5 0 22 v0 rfl rfl)
 obtain ⟨f8, hf⟩ := h0
 obtain ⟨l, A, n, c, c1, hl⟩ := variants_sl hf h9
 have he : A0 = A ∧ n0 = n ∧ c0 = c := by simpa [Value.cells] using c1
 obtain ⟨rfl, rfl, rfl⟩ := he
 refine (c3 (tab_of_laid hL) hl W (ghW_st W)).mono ?_
 rintro e W' ⟨v, H', O', rfl, ⟨rfl, rfl⟩, h6⟩
 have h7 : Below W.heap.size W W' := ⟨h6.os, h6.tape, h6.output, h6.size, fun k hk => h6.old k hk (by simp [fps])⟩
 have b9 : ∀ x ∈ p, x.block < W.heap.size := fun x hx => by simpa using h8.lt x hx
 refine ⟨_, rfl, ⟨[d0], [], p, [], p, [], h8, trodAll_mk1 (shut_bool Tryz.underlying4 _), ?_, rfl, keptBut_below h7 _, fun h => by cases h⟩⟩
 exact trodAll_mk1 (Below.trod laidOut (by kernel_rfl) (of_decide_eq_true (by kernel_rfl)) ⟨f8, hf⟩ h7 b9)
end
end Go.Proofs.YtookcfeogbeooaaGreatDoor
