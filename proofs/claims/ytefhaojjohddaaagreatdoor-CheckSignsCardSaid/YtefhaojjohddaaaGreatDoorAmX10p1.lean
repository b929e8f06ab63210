/- Reserved names, reckoned. -/
import Derived.Test.YtefhaojjohddaaaGreatDoorAmX10
namespace Go.Proofs.YtefhaojjohddaaaGreatDoor.AM
open Go Go.RowKit
noncomputable section
theorem r166_in_ok : CFactOk Tryz.prog 1 r166_in := cfact_ok (ru_ok nof_ok) (by kernel_rfl)
theorem r160_from_ok : CFactOk Tryz.prog 1 r160_from := cfact_ok (ru_ok nof_ok) (by kernel_rfl)
theorem r166_num_ok : CFactOk Tryz.prog 1 r166_num := cfact_ok (ru_ok nof_ok) (by kernel_rfl)
theorem r160_if_ok : CFactOk Tryz.prog 1 r160_if := cfact_ok (ru_ok nof_ok) (by kernel_rfl)
theorem r166_bit_ok : CFactOk Tryz.prog 1 r166_bit := cfact_ok (ru_ok nof_ok) (by kernel_rfl)
theorem r160_to_ok : CFactOk Tryz.prog 1 r160_to := cfact_ok (ru_ok nof_ok) (by kernel_rfl)
end
end Go.Proofs.YtefhaojjohddaaaGreatDoor.AM
