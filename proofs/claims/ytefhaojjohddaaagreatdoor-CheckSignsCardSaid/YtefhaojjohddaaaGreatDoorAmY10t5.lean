/- A program of chapter 10's alive, reckoned. -/
import Derived.Test.YtefhaojjohddaaaGreatDoorAmY10
namespace Go.Proofs.YtefhaojjohddaaaGreatDoor.AM
open Go Go.RowKit
noncomputable section
theorem ft5_0_ok : FactOk Tryz.prog 1 ft5_0 := fact_ok (ru_ok tb_ok) (by kernel_rfl)
theorem ft5_1_ok : FactOk Tryz.prog 1 ft5_1 := fact_ok (ru_ok tb_ok) (by kernel_rfl)
theorem ft5_2_ok : FactOk Tryz.prog 1 ft5_2 := fact_ok (ru_ok tb_ok) (by kernel_rfl)
theorem ft5_3_ok : FactOk Tryz.prog 1 ft5_3 := fact_ok (ru_ok tb_ok) (by kernel_rfl)
theorem t5_all : ∀ x, x ∈ [ft5_0, ft5_1, ft5_2, ft5_3] → FactOk Tryz.prog 1 x := by
  intro x hx
  simp only [List.mem_cons, List.not_mem_nil, or_false] at hx
  rcases hx with rfl | rfl | rfl | rfl
  · exact ft5_0_ok
  · exact ft5_1_ok
  · exact ft5_2_ok
  · exact ft5_3_ok
theorem ft5_4_ok : FactOk Tryz.prog 1 ft5_4 := fact_ok (ru_ok (orCall_ok tb_ok (factCall_ok t5_all))) (by kernel_rfl)
theorem ft5_5_ok : FactOk Tryz.prog 1 ft5_5 := fact_ok (ru_ok tb_ok) (by kernel_rfl)
end
end Go.Proofs.YtefhaojjohddaaaGreatDoor.AM
