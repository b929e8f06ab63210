/- A program of chapter 10's alive, reckoned. -/
import Derived.Test.YtefhaojjohddaaaGreatDoorAmY10
namespace Go.Proofs.YtefhaojjohddaaaGreatDoor.AM
open Go Go.RowKit
noncomputable section
theorem ft1_0_ok : FactOk Tryz.prog 1 ft1_0 := fact_ok (ru_ok tb_ok) (by kernel_rfl)
theorem ft1_1_ok : FactOk Tryz.prog 1 ft1_1 := fact_ok (ru_ok tb_ok) (by kernel_rfl)
theorem ft1_2_ok : FactOk Tryz.prog 1 ft1_2 := fact_ok (ru_ok tb_ok) (by kernel_rfl)
theorem ft1_3_ok : FactOk Tryz.prog 1 ft1_3 := fact_ok (ru_ok tb_ok) (by kernel_rfl)
theorem t1_all : ∀ x, x ∈ [ft1_0, ft1_1, ft1_2, ft1_3] → FactOk Tryz.prog 1 x := by
  intro x hx
  simp only [List.mem_cons, List.not_mem_nil, or_false] at hx
  rcases hx with rfl | rfl | rfl | rfl
  · exact ft1_0_ok
  · exact ft1_1_ok
  · exact ft1_2_ok
  · exact ft1_3_ok
theorem ft1_4_ok : FactOk Tryz.prog 1 ft1_4 := fact_ok (ru_ok (orCall_ok tb_ok (factCall_ok t1_all))) (by kernel_rfl)
theorem ft1_5_ok : FactOk Tryz.prog 1 ft1_5 := fact_ok (ru_ok tb_ok) (by kernel_rfl)
end
end Go.Proofs.YtefhaojjohddaaaGreatDoor.AM
