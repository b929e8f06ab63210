/- Reserved names, reckoned. -/
import Derived.Test.YtefhaojjohddaaaGreatDoorAmX10
namespace Go.Proofs.YtefhaojjohddaaaGreatDoor.AM
open Go Go.RowKit
noncomputable section
theorem r160_in_ok : CFactOk Tryz.prog 1 r160_in := cfact_ok (ru_ok nof_ok) (by kernel_rfl)
theorem r166_word_ok : CFactOk Tryz.prog 1 r166_word := cfact_ok (ru_ok nof_ok) (by kernel_rfl)
theorem r160_num_ok : CFactOk Tryz.prog 1 r160_num := cfact_ok (ru_ok nof_ok) (by kernel_rfl)
theorem r166_secret_ok : CFactOk Tryz.prog 1 r166_secret := cfact_ok (ru_ok nof_ok) (by kernel_rfl)
theorem r160_bit_ok : CFactOk Tryz.prog 1 r160_bit := cfact_ok (ru_ok nof_ok) (by kernel_rfl)
theorem r166_all_ok : CFactOk Tryz.prog 1 r166_all := cfact_ok (ru_ok nof_ok) (by kernel_rfl)
end
end Go.Proofs.YtefhaojjohddaaaGreatDoor.AM
