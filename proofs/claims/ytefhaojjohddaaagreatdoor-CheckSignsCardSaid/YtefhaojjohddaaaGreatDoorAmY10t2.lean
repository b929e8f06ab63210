/- A program of chapter 10's alive, reckoned. -/
import Derived.Test.YtefhaojjohddaaaGreatDoorAmY10
namespace Go.Proofs.YtefhaojjohddaaaGreatDoor.AM
open Go Go.RowKit
noncomputable section
theorem ft2_0_ok : FactOk Tryz.prog 1 ft2_0 := fact_ok (ru_ok tb_ok) (by kernel_rfl)
theorem ft2_1_ok : FactOk Tryz.prog 1 ft2_1 := fact_ok (ru_ok tb_ok) (by kernel_rfl)
theorem ft2_2_ok : FactOk Tryz.prog 1 ft2_2 := fact_ok (ru_ok tb_ok) (by kernel_rfl)
theorem ft2_3_ok : FactOk Tryz.prog 1 ft2_3 := fact_ok (ru_ok tb_ok) (by kernel_rfl)
theorem ft2_4_ok : FactOk Tryz.prog 1 ft2_4 := fact_ok (ru_ok tb_ok) (by kernel_rfl)
theorem t2_all : ∀ x, x ∈ [ft2_0, ft2_1, ft2_2, ft2_3, ft2_4] → FactOk Tryz.prog 1 x := by
  intro x hx
  simp only [List.mem_cons, List.not_mem_nil, or_false] at hx
  rcases hx with rfl | rfl | rfl | rfl | rfl
  · exact ft2_0_ok
  · exact ft2_1_ok
  · exact ft2_2_ok
  · exact ft2_3_ok
  · exact ft2_4_ok
theorem ft2_5_ok : FactOk Tryz.prog 1 ft2_5 := fact_ok (ru_ok (orCall_ok tb_ok (factCall_ok t2_all))) (by kernel_rfl)
theorem ft2_6_ok : FactOk Tryz.prog 1 ft2_6 := fact_ok (ru_ok tb_ok) (by kernel_rfl)
end
end Go.Proofs.YtefhaojjohddaaaGreatDoor.AM
