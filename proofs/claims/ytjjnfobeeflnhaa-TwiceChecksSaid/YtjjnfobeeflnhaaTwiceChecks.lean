/- The statement TwiceChecks as plain Lean: what it computes is true for every input within the bounds that any argument has. -/
import Derived.Test.YtjjnfobeeflnhaaChecks
import Derived.Test.YtjjnfobeeflnhaaJx19
import Derived.Test.YtjjnfobeeflnhaaJx20
namespace Go.Proofs.Ytjjnfobeeflnhaa.L
open Go.RowKit Go.Proofs.YtjjnfobeeflnhaaW.PrintWords Go.Proofs.Ytjjnfobeeflnhaa.J
set_option linter.unusedVariables false

theorem alive07 : Ev (fun k => juntolaw07_alive.f k) true := Ev.of juntolaw07_alive.mono (k := 40) (by decide +kernel)

theorem twiceChecks (x0_0 : Int) (x0_1 : Int) (x0_2 : Int) (x1 : List (List Int)) (w0_0 : (Lit.int .u64 x0_0).wf = true) (w0_1 : (Lit.int .i64 x0_1).wf = true) (w0_2 : (Lit.int .i64 x0_2).wf = true)
    (w1 : x1.length ≤ maxLen ∧ x1.length * 24 ≤ 140737488351232 ∧ ∀ x1' ∈ x1, x1'.length ≤ maxLen ∧ x1'.length * 8 ≤ 140737488351232 ∧ ∀ x1'' ∈ x1', (Lit.int .u64 x1'').wf = true) :
    ∃ k, juntolaw07_TwiceChecks.f k x0_0 x0_1 x0_2 x1 = some true := by
  suffices h : Ev (fun k => juntolaw07_TwiceChecks.f k x0_0 x0_1 x0_2 x1) true from h.rounds
  unfold juntolaw07_TwiceChecks.f
  refine Ev.bind (twice_check x0_0 x0_1 x0_2 x1 (fun f hf => (w1.2.2 f hf).1)) (Ev.bind (ref_check x0_0 x0_1 x0_2 x1 w1.1 (fun f hf => (w1.2.2 f hf).1)) ?_)
  simp only [if_true]
  have hz : ∃ z, twice_Size.f x0_2 = some z ∧ juntoref07_Size.f x0_2 = some z := by
    unfold twice_Size.f juntoref07_Size.f
    split
    · exact ⟨_, rfl, rfl⟩
    · split <;> exact ⟨_, rfl, rfl⟩
  obtain ⟨z, h1, h2⟩ := hz
  simp only [h1, h2, Option.bind_some, if_true]
  exact Ev.bind alive07 (Ev.now _)

end Go.Proofs.Ytjjnfobeeflnhaa.L
