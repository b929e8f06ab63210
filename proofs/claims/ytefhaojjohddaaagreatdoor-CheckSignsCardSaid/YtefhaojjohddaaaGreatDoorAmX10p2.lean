/- Reserved names, reckoned. -/
import Derived.Test.YtefhaojjohddaaaGreatDoorAmX10
namespace Go.Proofs.YtefhaojjohddaaaGreatDoor.AM
open Go Go.RowKit
noncomputable section
theorem r160_x_ok : CFactOk Tryz.prog 1 r160_x := cfact_ok (ru_ok nof_ok) (by kernel_rfl)
theorem r166_from_ok : CFactOk Tryz.prog 1 r166_from := cfact_ok (ru_ok nof_ok) (by kernel_rfl)
theorem r160_let_ok : CFactOk Tryz.prog 1 r160_let := cfact_ok (ru_ok nof_ok) (by kernel_rfl)
theorem r166_if_ok : CFactOk Tryz.prog 1 r166_if := cfact_ok (ru_ok nof_ok) (by kernel_rfl)
theorem r160_out_ok : CFactOk Tryz.prog 1 r160_out := cfact_ok (ru_ok nof_ok) (by kernel_rfl)
theorem r166_to_ok : CFactOk Tryz.prog 1 r166_to := cfact_ok (ru_ok nof_ok) (by kernel_rfl)
end
end Go.Proofs.YtefhaojjohddaaaGreatDoor.AM
