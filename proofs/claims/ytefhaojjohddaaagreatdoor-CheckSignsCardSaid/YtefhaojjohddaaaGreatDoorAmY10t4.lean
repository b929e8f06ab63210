/- A program of chapter 10's alive, reckoned. -/
import Derived.Test.YtefhaojjohddaaaGreatDoorAmY10
namespace Go.Proofs.YtefhaojjohddaaaGreatDoor.AM
open Go Go.RowKit
noncomputable section
theorem ft4_0_ok : FactOk Tryz.prog 1 ft4_0 := fact_ok (ru_ok tb_ok) (by kernel_rfl)
theorem ft4_1_ok : FactOk Tryz.prog 1 ft4_1 := fact_ok (ru_ok tb_ok) (by kernel_rfl)
theorem ft4_2_ok : FactOk Tryz.prog 1 ft4_2 := fact_ok (ru_ok tb_ok) (by kernel_rfl)
theorem ft4_3_ok : FactOk Tryz.prog 1 ft4_3 := fact_ok (ru_ok tb_ok) (by kernel_rfl)
theorem ft4_4_ok : FactOk Tryz.prog 1 ft4_4 := fact_ok (ru_ok tb_ok) (by kernel_rfl)
theorem t4_all : ∀ x, x ∈ [ft4_0, ft4_1, ft4_2, ft4_3, ft4_4] → FactOk Tryz.prog 1 x := by
  intro x hx
  simp only [List.mem_cons, List.not_mem_nil, or_false] at hx
  rcases hx with rfl | rfl | rfl | rfl | rfl
  · exact ft4_0_ok
  · exact ft4_1_ok
  · exact ft4_2_ok
  · exact ft4_3_ok
  · exact ft4_4_ok
theorem ft4_5_ok : FactOk Tryz.prog 1 ft4_5 := fact_ok (ru_ok (orCall_ok tb_ok (factCall_ok t4_all))) (by kernel_rfl)
theorem ft4_6_ok : FactOk Tryz.prog 1 ft4_6 := fact_ok (ru_ok tb_ok) (by kernel_rfl)
end
end Go.Proofs.YtefhaojjohddaaaGreatDoor.AM
