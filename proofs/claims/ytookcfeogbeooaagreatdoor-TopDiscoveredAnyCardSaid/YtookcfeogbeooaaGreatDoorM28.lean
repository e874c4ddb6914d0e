/-
The closed facts of the row, part by part (at once they want more than 10 GB).
Conditions: those that each theorem states.
-/
import Derived.Test.YtookcfeogbeooaaGreatDoorM27
set_option linter.all false
set_option maxRecDepth 100000
set_option maxHeartbeats 8000000
set_option autoImplicit true
set_option relaxedAutoImplicit true
namespace Go.Proofs.YtookcfeogbeooaaGreatDoor
open Go Go.Proofs
theorem jf_a2 : laidOutB Tryz.pinned.checked.prog = true := by kernel_rfl
theorem jf_a3 : mapsRowed Tryz.pinned.checked.prog = true := by kernel_rfl
theorem jf_c1 : (Rows.topDiscoveredAnyRow.inPlace == Tryz.pinned.checked.prog.inPlace 3) = true := by kernel_rfl
theorem jf_c2 : (Rows.topDiscoveredAnyRow.unfollowed == Tryz.pinned.checked.prog.unfollowed 3) = true := by kernel_rfl
theorem jf_c3 : (Rows.topDiscoveredAnyRow.recurses == Tryz.pinned.checked.prog.recurses 3) = true := by kernel_rfl
theorem jf_c4 : (Rows.topDiscoveredAnyRow.named == Tryz.pinned.checked.prog.varsNamed 3) = true := by kernel_rfl
theorem jf_g3 : Tryz.pinned.checked.prog.stopsHeard = true := by kernel_rfl
theorem jf_g4 : Tryz.pinned.checked.prog.mayEnter = true := by kernel_rfl
theorem jf_go : false = OpenClaim.goesBy Rows.topDiscoveredAnyRow Tryz.pinned.checked.prog := by kernel_rfl
end Go.Proofs.YtookcfeogbeooaaGreatDoor
