/- Reserved names: what is to be known of them. -/
import Derived.Test.YtefhaojjohddaaaGreatDoorAmW10
namespace Go.Proofs.YtefhaojjohddaaaGreatDoor.AM
open Go Go.RowKit
noncomputable section
/-- strings.asciiSpace. -/
def asc : List Value := [.int .u8 0, .int .u8 0, .int .u8 0, .int .u8 0, .int .u8 0, .int .u8 0, .int .u8 0, .int .u8 0, .int .u8 0, .int .u8 1, .int .u8 1, .int .u8 1, .int .u8 1, .int .u8 1, .int .u8 0, .int .u8 0, .int .u8 0, .int .u8 0, .int .u8 0, .int .u8 0, .int .u8 0, .int .u8 0, .int .u8 0, .int .u8 0, .int .u8 0, .int .u8 0, .int .u8 0, .int .u8 0, .int .u8 0, .int .u8 0, .int .u8 0, .int .u8 0, .int .u8 1, .int .u8 0, .int .u8 0, .int .u8 0, .int .u8 0, .int .u8 0, .int .u8 0, .int .u8 0, .int .u8 0, .int .u8 0, .int .u8 0, .int .u8 0, .int .u8 0, .int .u8 0, .int .u8 0, .int .u8 0, .int .u8 0, .int .u8 0, .int .u8 0, .int .u8 0, .int .u8 0, .int .u8 0, .int .u8 0, .int .u8 0, .int .u8 0, .int .u8 0, .int .u8 0, .int .u8 0, .int .u8 0, .int .u8 0, .int .u8 0, .int .u8 0, .int .u8 0, .int .u8 0, .int .u8 0, .int .u8 0, .int .u8 0, .int .u8 0, .int .u8 0, .int .u8 0, .int .u8 0, .int .u8 0, .int .u8 0, .int .u8 0, .int .u8 0, .int .u8 0, .int .u8 0, .int .u8 0, .int .u8 0, .int .u8 0, .int .u8 0, .int .u8 0, .int .u8 0, .int .u8 0, .int .u8 0, .int .u8 0, .int .u8 0, .int .u8 0, .int .u8 0, .int .u8 0, .int .u8 0, .int .u8 0, .int .u8 0, .int .u8 0, .int .u8 0, .int .u8 0, .int .u8 0, .int .u8 0, .int .u8 0, .int .u8 0, .int .u8 0, .int .u8 0, .int .u8 0, .int .u8 0, .int .u8 0, .int .u8 0, .int .u8 0, .int .u8 0, .int .u8 0, .int .u8 0, .int .u8 0, .int .u8 0, .int .u8 0, .int .u8 0, .int .u8 0, .int .u8 0, .int .u8 0, .int .u8 0, .int .u8 0, .int .u8 0, .int .u8 0, .int .u8 0, .int .u8 0, .int .u8 0, .int .u8 0, .int .u8 0, .int .u8 0, .int .u8 0, .int .u8 0, .int .u8 0, .int .u8 0, .int .u8 0, .int .u8 0, .int .u8 0, .int .u8 0, .int .u8 0, .int .u8 0, .int .u8 0, .int .u8 0, .int .u8 0, .int .u8 0, .int .u8 0, .int .u8 0, .int .u8 0, .int .u8 0, .int .u8 0, .int .u8 0, .int .u8 0, .int .u8 0, .int .u8 0, .int .u8 0, .int .u8 0, .int .u8 0, .int .u8 0, .int .u8 0, .int .u8 0, .int .u8 0, .int .u8 0, .int .u8 0, .int .u8 0, .int .u8 0, .int .u8 0, .int .u8 0, .int .u8 0, .int .u8 0, .int .u8 0, .int .u8 0, .int .u8 0, .int .u8 0, .int .u8 0, .int .u8 0, .int .u8 0, .int .u8 0, .int .u8 0, .int .u8 0, .int .u8 0, .int .u8 0, .int .u8 0, .int .u8 0, .int .u8 0, .int .u8 0, .int .u8 0, .int .u8 0, .int .u8 0, .int .u8 0, .int .u8 0, .int .u8 0, .int .u8 0, .int .u8 0, .int .u8 0, .int .u8 0, .int .u8 0, .int .u8 0, .int .u8 0, .int .u8 0, .int .u8 0, .int .u8 0, .int .u8 0, .int .u8 0, .int .u8 0, .int .u8 0, .int .u8 0, .int .u8 0, .int .u8 0, .int .u8 0, .int .u8 0, .int .u8 0, .int .u8 0, .int .u8 0, .int .u8 0, .int .u8 0, .int .u8 0, .int .u8 0, .int .u8 0, .int .u8 0, .int .u8 0, .int .u8 0, .int .u8 0, .int .u8 0, .int .u8 0, .int .u8 0, .int .u8 0, .int .u8 0, .int .u8 0, .int .u8 0, .int .u8 0, .int .u8 0, .int .u8 0, .int .u8 0, .int .u8 0, .int .u8 0, .int .u8 0, .int .u8 0, .int .u8 0, .int .u8 0, .int .u8 0, .int .u8 0, .int .u8 0, .int .u8 0, .int .u8 0, .int .u8 0, .int .u8 0, .int .u8 0, .int .u8 0, .int .u8 0, .int .u8 0, .int .u8 0, .int .u8 0, .int .u8 0, .int .u8 0, .int .u8 0, .int .u8 0, .int .u8 0, .int .u8 0]
def g0 : List (Nat × Ent) := [(0, .cells false false asc 183)]
def st (s : List UInt8) : Value := .string ⟨⟨s⟩⟩
def nof : CallF := fun _ _ _ _ => none
theorem nof_ok {P : Program} {G : Nat} : CallOk P G nof := fun f args h next r h' next' hr => by cases hr
def ru (t : CallF) : CallF := run Tryz.prog 165 1 10000 t 60
theorem ru_ok {t : CallF} (T : CallOk Tryz.prog 1 t) : CallOk Tryz.prog 1 (ru t) := run_ok fns10 mixed10 10000 T 60
def r160_in : CFact := ⟨160, [st [105, 110]], g0, .bool true⟩
def r166_in : CFact := ⟨166, [st [105, 110]], g0, .bool true⟩
def r160_x : CFact := ⟨160, [st [120]], g0, .bool false⟩
def r166_x : CFact := ⟨166, [st [120]], g0, .bool false⟩
def r160_word : CFact := ⟨160, [st [119, 111, 114, 100]], g0, .bool true⟩
def r166_word : CFact := ⟨166, [st [119, 111, 114, 100]], g0, .bool true⟩
def r160_from : CFact := ⟨160, [st [102, 114, 111, 109]], g0, .bool true⟩
def r166_from : CFact := ⟨166, [st [102, 114, 111, 109]], g0, .bool true⟩
def r160_y : CFact := ⟨160, [st [121]], g0, .bool false⟩
def r166_y : CFact := ⟨166, [st [121]], g0, .bool false⟩
def r160_num : CFact := ⟨160, [st [110, 117, 109]], g0, .bool true⟩
def r166_num : CFact := ⟨166, [st [110, 117, 109]], g0, .bool true⟩
def r160_let : CFact := ⟨160, [st [108, 101, 116]], g0, .bool true⟩
def r166_let : CFact := ⟨166, [st [108, 101, 116]], g0, .bool true⟩
def r160_secret : CFact := ⟨160, [st [115, 101, 99, 114, 101, 116]], g0, .bool false⟩
def r166_secret : CFact := ⟨166, [st [115, 101, 99, 114, 101, 116]], g0, .bool false⟩
def r160_if : CFact := ⟨160, [st [105, 102]], g0, .bool true⟩
def r166_if : CFact := ⟨166, [st [105, 102]], g0, .bool true⟩
def r160_b : CFact := ⟨160, [st [98]], g0, .bool false⟩
def r166_b : CFact := ⟨166, [st [98]], g0, .bool false⟩
def r160_bit : CFact := ⟨160, [st [98, 105, 116]], g0, .bool true⟩
def r166_bit : CFact := ⟨166, [st [98, 105, 116]], g0, .bool true⟩
def r160_out : CFact := ⟨160, [st [111, 117, 116]], g0, .bool true⟩
def r166_out : CFact := ⟨166, [st [111, 117, 116]], g0, .bool true⟩
def r160_all : CFact := ⟨160, [st [97, 108, 108]], g0, .bool true⟩
def r166_all : CFact := ⟨166, [st [97, 108, 108]], g0, .bool true⟩
def r160_to : CFact := ⟨160, [st [116, 111]], g0, .bool true⟩
def r166_to : CFact := ⟨166, [st [116, 111]], g0, .bool true⟩
def r160_len : CFact := ⟨160, [st [108, 101, 110]], g0, .bool false⟩
def r166_len : CFact := ⟨166, [st [108, 101, 110]], g0, .bool false⟩
end
end Go.Proofs.YtefhaojjohddaaaGreatDoor.AM
