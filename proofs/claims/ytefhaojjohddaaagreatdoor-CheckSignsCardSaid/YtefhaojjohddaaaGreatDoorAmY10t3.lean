/- A program of chapter 10's alive, reckoned. -/
import Derived.Test.YtefhaojjohddaaaGreatDoorAmY10
namespace Go.Proofs.YtefhaojjohddaaaGreatDoor.AM
open Go Go.RowKit
noncomputable section
theorem ft3_0_ok : FactOk Tryz.prog 1 ft3_0 := fact_ok (ru_ok tb_ok) (by kernel_rfl)
theorem ft3_1_ok : FactOk Tryz.prog 1 ft3_1 := fact_ok (ru_ok tb_ok) (by kernel_rfl)
theorem ft3_2_ok : FactOk Tryz.prog 1 ft3_2 := fact_ok (ru_ok tb_ok) (by kernel_rfl)
theorem ft3_3_ok : FactOk Tryz.prog 1 ft3_3 := fact_ok (ru_ok tb_ok) (by kernel_rfl)
theorem ft3_4_ok : FactOk Tryz.prog 1 ft3_4 := fact_ok (ru_ok tb_ok) (by kernel_rfl)
theorem t3_all : ∀ x, x ∈ [ft3_0, ft3_1, ft3_2, ft3_3, ft3_4] → FactOk Tryz.prog 1 x := by
  intro x hx
  simp only [List.mem_cons, List.not_mem_nil, or_false] at hx
  rcases hx with rfl | rfl | rfl | rfl | rfl
  · exact ft3_0_ok
  · exact ft3_1_ok
  · exact ft3_2_ok
  · exact ft3_3_ok
  · exact ft3_4_ok
theorem ft3_5_ok : FactOk Tryz.prog 1 ft3_5 := fact_ok (ru_ok (orCall_ok tb_ok (factCall_ok t3_all))) (by kernel_rfl)
theorem ft3_6_ok : FactOk Tryz.prog 1 ft3_6 := fact_ok (ru_ok tb_ok) (by kernel_rfl)
end
end Go.Proofs.YtefhaojjohddaaaGreatDoor.AM
