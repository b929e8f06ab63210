/- What Go functions of the program compute, as plain Lean functions, and that the machine comes to just these answers (written by a program for this seat). -/
import Derived.Test.YtjjnfobeeflnhaaJx0
import Derived.Test.YtjjnfobeeflnhaaJx9
import Derived.Test.YtjjnfobeeflnhaaJx15
namespace Go.Proofs.Ytjjnfobeeflnhaa.J
open Go.RowKit Go.Proofs.YtjjnfobeeflnhaaW.PrintWords Go.Proofs.YtjjnfobeeflnhaaW.PrintLast Go.Proofs.YtjjnfobeeflnhaaW.PrintMore
attribute [local go_sem] max2_int min2_int max_two min_two max_three min_three max_four min_four   -- for this text's walks alone
set_option linter.unusedVariables false
set_option linter.unusedSimpArgs false

/-! ### poly_Plus: function 143 -/
def poly_Plus.f (k : Nat) (a0 : Int) (l1 l2 : List Int) : Option (List Int) := poly_each.f k field_Plus.f a0 l1 l2
theorem poly_Plus.mono (a0 : Int) (l1 l2 : List Int) (k : Nat) : LeO (poly_Plus.f k a0 l1 l2) (poly_Plus.f (k + 1) a0 l1 l2) := poly_each.mono _ _ _ _ _
set_option maxHeartbeats 8000000 in
set_option maxRecDepth 100000 in
theorem poly_Plus.calls (k : Nat) (a0 : Int) (A1 : Option Addr) (c1 : Nat) (l1 : List Int) (A2 : Option Addr) (c2 : Nat) (l2 : List Int) (r : List Int) (w : World) (hr1 : Kd.C (Kd.int .u64) w A1 l1.length l1) (hc1 : l1.length ≤ c1) (hr2 : Kd.C (Kd.int .u64) w A2 l2.length l2) (hc2 : l2.length ≤ c2) (h : poly_Plus.f k a0 l1 l2 = some r) :
    Calls Try.prog 143 #[.int .u64 a0, .slice A1 l1.length c1, .slice A2 l2.length c2] w fun e w' => ∃ v0_ : Value, e = .returned (v0_) ∧ Kd.R (Kd.int .u64) 22 w' w.heap.size (fun _ => True) v0_ r ∧ Below w.heap.size w w' := by
  have K := Aside0.mk (poly_each.calls k field_Plus.f 147 (fun args w => enters_ Try.func147 (by kernel_rfl) rfl args w) (fun a b c r w h => field_Plus.calls a b c r w h) a0 A1 c1 l1 A2 c2 l2 r w hr1 hc1 hr2 hc2 h)
  clear hr1 hr2 hc1 hc2 h
  go_enter Try.func143, Try.ntmps143
  go_wp2_with (go_at_call 164; refine K.out.mono ?_; rintro e w' ⟨v, rfl, hR, hB⟩; have HR := Aside0.mk hR; have HB := Aside0.mk hB; clear hR hB)
  go_ret
  exact ⟨_, rfl, HR.out, HB.out⟩
/-- The sum of two lists of coefficients, without noughts at its end. -/
def plusI (p : Int) (f g : List Int) : List Int := zipI (fun a b => (field_Plus.f p a b).getD 0) f g
theorem plusI_spec (a0 : Int) (f g : List Int) (hn : max f.length g.length < 17592186044416) (k : Nat) (hk : 2 * max f.length g.length + 1 < k) : poly_Plus.f k a0 f g = some (plusI a0 f g) := by
  refine each_spec _ a0 f g _ (fun x y => ?_) hn k hk
  unfold field_Plus.f
  split <;> rfl

end Go.Proofs.Ytjjnfobeeflnhaa.J
