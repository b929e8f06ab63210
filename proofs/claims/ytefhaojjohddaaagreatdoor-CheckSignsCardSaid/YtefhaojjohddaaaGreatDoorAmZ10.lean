/- Chapter 10's alive returns true. -/
import Derived.Test.YtefhaojjohddaaaGreatDoorAmY10t1
import Derived.Test.YtefhaojjohddaaaGreatDoorAmY10t2
import Derived.Test.YtefhaojjohddaaaGreatDoorAmY10t3
import Derived.Test.YtefhaojjohddaaaGreatDoorAmY10t4
import Derived.Test.YtefhaojjohddaaaGreatDoorAmY10t5
namespace Go.Proofs.YtefhaojjohddaaaGreatDoor.AM
open Go Go.RowKit
noncomputable section
theorem fcs_ok : ∀ x, x ∈ [ft1_4, ft1_5, ft2_5, ft2_6, ft3_5, ft3_6, ft4_5, ft4_6, ft5_4, ft5_5] → FactOk Tryz.prog 1 x := by
  intro x hx
  simp only [List.mem_cons, List.not_mem_nil, or_false] at hx
  rcases hx with rfl | rfl | rfl | rfl | rfl | rfl | rfl | rfl | rfl | rfl
  · exact ft1_4_ok
  · exact ft1_5_ok
  · exact ft2_5_ok
  · exact ft2_6_ok
  · exact ft3_5_ok
  · exact ft3_6_ok
  · exact ft4_5_ok
  · exact ft4_6_ok
  · exact ft5_4_ok
  · exact ft5_5_ok
theorem alive10 : CFactOk Tryz.prog 1 ⟨14, [], g0, .bool true⟩ := cfact_ok (ru_ok (factCall_ok fcs_ok)) (by kernel_rfl)
end
end Go.Proofs.YtefhaojjohddaaaGreatDoor.AM
