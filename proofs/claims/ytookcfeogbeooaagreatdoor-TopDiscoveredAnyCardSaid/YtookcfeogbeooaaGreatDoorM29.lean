/-
Whatever log there is, the tree that is discovered has its activities and its words: of any variants the function TopDiscoveredAny returns true, and the variants read as they did; the card, tied to the program's text.
Conditions: those that each theorem states.
-/
import Derived.Test.YtookcfeogbeooaaGreatDoorM28
set_option linter.all false
set_option maxRecDepth 100000
set_option maxHeartbeats 8000000
set_option autoImplicit true
set_option relaxedAutoImplicit true
namespace Go.Proofs.YtookcfeogbeooaaGreatDoor
open Go Go.Proofs
theorem andT {a b : Bool} (x : a = true) (y : b = true) : (a && b) = true := by rw [x, y]; rfl
theorem jf_all : joinedFacts Tryz.pinned.checked.prog 3 Tryz.f3 Rows.topDiscoveredAnySpec Rows.topDiscoveredAnyRow = true := by
 unfold joinedFacts
 exact (andT (andT (andT (andT (andT (andT (andT (andT (andT (andT (andT (andT (andT (andT (andT (andT (andT (andT (andT (andT (andT (andT (andT (andT (andT (andT (andT (andT (andT (andT (andT (by kernel_rfl) jf_a2) jf_a3) (by kernel_rfl)) (by kernel_rfl)) (by kernel_rfl)) (by kernel_rfl)) (by kernel_rfl)) (by kernel_rfl)) jf_c1) jf_c2) jf_c3) jf_c4) (by kernel_rfl)) (by kernel_rfl)) (by kernel_rfl)) (by kernel_rfl)) (by kernel_rfl)) (by kernel_rfl)) (by kernel_rfl)) (by kernel_rfl)) (by kernel_rfl)) (by kernel_rfl)) (by kernel_rfl)) jf_g3) jf_g4) (by kernel_rfl)) (by kernel_rfl)) (by kernel_rfl)) (by kernel_rfl)) (by kernel_rfl)) (by kernel_rfl))
theorem topDiscoveredAny_said : Rows.TopDiscoveredAnySaid :=
 OpenClaim.holds_of_wide 3 Tryz.f3 rfl rfl rfl rfl rfl rfl rfl ⟨rfl, rfl, rfl, rfl, rfl⟩ rfl rfl rfl rfl rfl (by kernel_rfl) Tryz.func3 jf_all
  (of_decide_eq_true (by kernel_rfl)) (by unfold Func.isWrapper; first | (rw [if_pos (by decide +kernel)]; kernel_rfl) | (rw [if_neg (by decide +kernel)]; exact ⟨rfl, rfl⟩))
  (fun os s0 H e0 _ => lifted os s0 H e0)
theorem topDiscoveredAny_card : Rows.TopDiscoveredAnyCardSaid :=
 Claim7.holds_tied_plain_at .later [] [.data, .data, .data] true (true, "d6cac701e118d0bebf497fe9d3263a0b6d44c2920f95e277318ad3107fe52031") false
  topDiscoveredAny_said (fun _ h => by cases h) (by kernel_rfl) (fun _ h => by cases h) topDiscoveredAny_row_tie rfl ⟨rfl, rfl⟩ (by kernel_rfl) rfl
  (fun f fn hf h5 => by
   obtain rfl : f = 3 := Option.some.inj ((show Tryz.prog.funcNamed "casebook/casebooktop.TopDiscoveredAny" = some 3 by kernel_rfl).symm.trans hf) |>.symm
   obtain rfl : fn = Tryz.f3 := (Option.some.inj (Tryz.func3.symm.trans h5)).symm
   exact ⟨by kernel_rfl, fun j t ht => by
    rw [Tryz.params3] at ht
    have hm : t ∈ [22] := by simpa using Array.mem_of_getElem? ht
    have h4 : ([22].all fun u => !Tryz.prog.wantsStandIn u) = true := by kernel_rfl
    exact (show Tryz.prog.wantsStandIn t = false by simpa using List.all_eq_true.1 h4 t hm)⟩)
  jf_go
#print axioms topDiscoveredAny_card
end Go.Proofs.YtookcfeogbeooaaGreatDoor
