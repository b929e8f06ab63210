/- Reserved names, reckoned. -/
import Derived.Test.YtefhaojjohddaaaGreatDoorAmX10
namespace Go.Proofs.YtefhaojjohddaaaGreatDoor.AM
open Go Go.RowKit
noncomputable section
theorem r166_x_ok : CFactOk Tryz.prog 1 r166_x := cfact_ok (ru_ok nof_ok) (by kernel_rfl)
theorem r160_y_ok : CFactOk Tryz.prog 1 r160_y := cfact_ok (ru_ok nof_ok) (by kernel_rfl)
theorem r166_let_ok : CFactOk Tryz.prog 1 r166_let := cfact_ok (ru_ok nof_ok) (by kernel_rfl)
theorem r160_b_ok : CFactOk Tryz.prog 1 r160_b := cfact_ok (ru_ok nof_ok) (by kernel_rfl)
theorem r166_out_ok : CFactOk Tryz.prog 1 r166_out := cfact_ok (ru_ok nof_ok) (by kernel_rfl)
theorem r160_len_ok : CFactOk Tryz.prog 1 r160_len := cfact_ok (ru_ok nof_ok) (by kernel_rfl)
end
end Go.Proofs.YtefhaojjohddaaaGreatDoor.AM
