/- What Go functions of the program compute, as plain Lean functions, and that the machine comes to just these answers (written by a program for this seat). -/
import Derived.Test.YtjjnfobeeflnhaaJx0
import Derived.Test.YtjjnfobeeflnhaaJx2
namespace Go.Proofs.Ytjjnfobeeflnhaa.J
open Go.RowKit Go.Proofs.YtjjnfobeeflnhaaW.PrintWords Go.Proofs.YtjjnfobeeflnhaaW.PrintLast Go.Proofs.YtjjnfobeeflnhaaW.PrintMore
attribute [local go_sem] max2_int min2_int max_two min_two max_three min_three max_four min_four   -- for this text's walks alone
set_option linter.unusedVariables false
set_option linter.unusedSimpArgs false

/-! ### slices_ContainsFunc_uint64_uint64: function 121 -/
set_option maxHeartbeats 8000000 in
theorem slices_ContainsFunc_uint64_uint64.any_calls (d : List Int → Bool) (fid : FuncId) (L : Array Value) (hE : ∀ args w, (callFunc fid args).run Try.prog w = .ok (.enter fid args) w) (A0 : Option Addr) (c0 : Nat) (l0 : List (List Int)) (w : World)
    (hD : ∀ (A : Option Addr) (c : Nat) (l : List Int) (W : World), Below w.heap.size w W → Kd.C (Kd.int .u64) W A l.length l → l.length ≤ c → Calls Try.prog fid (#[.slice A l.length c] ++ L) W fun e w' => e = .returned (.bool (d l)) ∧ Drawn0 W w')
    (hr0 : Kd.C (Kd.slice 22 (Kd.int .u64)) w A0 l0.length l0) (hc0 : l0.length ≤ c0) :
    Calls Try.prog 121 #[.slice A0 l0.length c0, .func (.func fid) #[] L] w fun e w' => e = .returned (.bool (l0.any d)) ∧ Drawn0 w w' := by
  have K := Aside0.mk (slices_IndexFunc_uint64_uint64.any_calls d fid L hE A0 c0 l0 w hD hr0 hc0)
  clear hD hE hr0 hc0
  go_enter Try.func121, Try.ntmps121
  go_wp2_with (go_at_call 160; refine K.out.mono ?_; rintro e w' ⟨i, rfl, hi, ⟨nd, rfl⟩⟩; have HI := Aside0.mk hi; clear hi)
  rw [HI.out]
  go_ret
  exact ⟨rfl, ⟨_, rfl⟩⟩

end Go.Proofs.Ytjjnfobeeflnhaa.J
