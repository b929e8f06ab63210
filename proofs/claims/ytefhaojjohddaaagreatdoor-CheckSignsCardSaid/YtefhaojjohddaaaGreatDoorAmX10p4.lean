/- Reserved names, reckoned. -/
import Derived.Test.YtefhaojjohddaaaGreatDoorAmX10
namespace Go.Proofs.YtefhaojjohddaaaGreatDoor.AM
open Go Go.RowKit
noncomputable section
theorem r160_word_ok : CFactOk Tryz.prog 1 r160_word := cfact_ok (ru_ok nof_ok) (by kernel_rfl)
theorem r166_y_ok : CFactOk Tryz.prog 1 r166_y := cfact_ok (ru_ok nof_ok) (by kernel_rfl)
theorem r160_secret_ok : CFactOk Tryz.prog 1 r160_secret := cfact_ok (ru_ok nof_ok) (by kernel_rfl)
theorem r166_b_ok : CFactOk Tryz.prog 1 r166_b := cfact_ok (ru_ok nof_ok) (by kernel_rfl)
theorem r160_all_ok : CFactOk Tryz.prog 1 r160_all := cfact_ok (ru_ok nof_ok) (by kernel_rfl)
theorem r166_len_ok : CFactOk Tryz.prog 1 r166_len := cfact_ok (ru_ok nof_ok) (by kernel_rfl)
end
end Go.Proofs.YtefhaojjohddaaaGreatDoor.AM
