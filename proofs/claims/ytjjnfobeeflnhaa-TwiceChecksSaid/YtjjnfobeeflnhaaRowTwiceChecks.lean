/- The row of TwiceChecks: for every input the call returns true and changes nothing; no conditions. Out of the contract of the function and the plain law. -/
import Derived.Test.YtjjnfobeeflnhaaRows
import Derived.Test.YtjjnfobeeflnhaaJx20
import Derived.Test.YtjjnfobeeflnhaaOp
import Derived.Test.YtjjnfobeeflnhaaFacts
import Derived.Test.YtjjnfobeeflnhaaTwiceChecks
import Derived.WalkKit
import Derived.ProofKit
import Derived.OpenShut
import Derived.ShutString
import Derived.ChangeOld
import Derived.Below
import Derived.SizedLaws
namespace Go.Proofs.Ytjjnfobeeflnhaa.twiceChecks
open Go.ChangeShapes Go.WideShapes Go.ChangeAt Go.RowKit Go.Proofs.YtjjnfobeeflnhaaW.PrintWords Go.Proofs.Ytjjnfobeeflnhaa.J Go.Proofs.Ytjjnfobeeflnhaa.Op
set_option linter.unusedVariables false
theorem own : ownKnob Try.prog.godebug = none := by kernel_rfl
theorem laidOut : laidOutB Try.prog = true := by kernel_rfl
set_option maxRecDepth 100000 in
theorem op0 : Opens Try.prog (Kd.pair (Kd.int .u64) (Kd.pair (Kd.int .i64) (Kd.int .i64))) 24 (fun x => (fun n => (Lit.int .u64 n).wf = true) x.1 ∧ (fun x => (fun n => (Lit.int .i64 n).wf = true) x.1 ∧ (fun n => (Lit.int .i64 n).wf = true) x.2) x.2) := (op_agg Try.underlying24 (opL_cons (by kernel_rfl) (by kernel_rfl) (op_int Try.underlying22) (by kernel_rfl) (opL_cons (by kernel_rfl) (by kernel_rfl) (op_int Try.underlying3) (by kernel_rfl) (opL_one (by kernel_rfl) (by kernel_rfl) (op_int Try.underlying3)))))
set_option maxRecDepth 100000 in
theorem op1 : Opens Try.prog (Kd.slice 31 (Kd.slice 22 (Kd.int .u64))) 25 (fun l => l.length ≤ maxLen ∧ l.length * 24 ≤ 140737488351232 ∧ ∀ a ∈ l, (fun l => l.length ≤ maxLen ∧ l.length * 8 ≤ 140737488351232 ∧ ∀ a ∈ l, (fun n => (Lit.int .u64 n).wf = true) a) a) := (op_slice Try.underlying25 (by kernel_rfl) (by kernel_rfl) (op_slice Try.underlying31 (by kernel_rfl) (by kernel_rfl) (op_int Try.underlying22)))
set_option maxRecDepth 100000 in
theorem lifted (os : Os) (started : os.Started) (H : Type) (enc : TypeId × Value → H) :
    ReturnsInHanded {} Try.checked os 3 .any (Rows.twiceChecksSpec.pre6 enc Try.prog Try.f3 Rows.twiceChecksRow.domain false) (Rows.twiceChecksSpec.post enc Try.prog Try.f3 false true false false) := by
  refine returnsInHanded_of_change_sized (C := Try.checked) own started (by kernel_rfl) Try.func3
    (ChangeSpec.witness6 (enc := enc) (C := Try.checked) false ⟨#[], #[.agg #[.int .u64 0, .int .i64 0, .int .i64 0], .slice none 0 0], []⟩ 8 (by kernel_rfl) (by kernel_rfl) (by kernel_rfl) (by kernel_rfl)) ?_
  intro W base args ds gs before hval0 hW hcnd hsz0 _
  have hsz : (DataW.weightsEach Try.prog (Try.f3.params.toList ++ Rows.twiceChecksSpec.plain.varTypes Try.prog) (ds ++ gs)).all (· ≤ reachBytes) = true := hsz0
  have hval : ∀ (j : Nat) t v, Try.f3.params[j]? = some t → args[j]? = some v → Value.okWide Try.prog W .any base t v := hval0
  have hW' := hW
  obtain ⟨p, q, hA0, hV, rfl, hfz, hnd⟩ := hW
  have hA : DataW.TrodAll enc Try.prog W 0 (fun _ => true) true Try.f3.params.toList args.toList ds p := hA0
  rw [Try.params3] at hA hval hsz
  obtain ⟨v0, vs0, d0, ds0, p0, q0, hargs, rfl, rfl, h0, r0⟩ := trodAll_cons hA
  obtain ⟨v1, vs1, d1, ds1, p1, q1, rfl, rfl, rfl, h1, r1⟩ := trodAll_cons r0
  obtain ⟨rfl, rfl, rfl⟩ := trodAll_nil r1
  obtain rfl : args = #[v0, v1] := by cases args; simp_all
  obtain ⟨rfl, rfl⟩ := trodVars_none hV
  have k0 := h0
  have lt0 : ∀ x ∈ p0, x.block < W.heap.size := by obtain ⟨m, hm⟩ := k0; exact DataW.trod_lt m _ _ _ hm
  obtain ⟨cs0, rfl, hn0⟩ := okWide_agg Try.underlying24 (hval 0 24 v0 rfl rfl)
  obtain ⟨⟨x0_0, x0_1, x0_2⟩, K0, ⟨w0_0, w0_1, w0_2⟩⟩ := arg op0 (by show cs0.toList.length = _; rw [Array.length_toList, hn0]; kernel_rfl) h0 hsz (j := 0) rfl rfl
  obtain ⟨g0_0, rg0_0, qg0_0, l0_0, M0_0⟩ := K0
  have l0_0' : g0_0 = [Value.int .u64 x0_0] := l0_0
  obtain ⟨g0_1, rg0_1, qg0_1, l0_1, M0_1⟩ := M0_0
  have l0_1' : g0_1 = [Value.int .i64 x0_1] := l0_1
  have M0_1' : rg0_1 = [Value.int .i64 x0_2] := M0_1
  obtain rfl : cs0 = #[.int .u64 x0_0, .int .i64 x0_1, .int .i64 x0_2] := by
    apply Array.toList_inj.1
    have z0 : cs0.toList = _ := qg0_0
    rw [z0, l0_0', qg0_1, l0_1', M0_1']
    rfl
  have k1 := h1
  have lt1 : ∀ x ∈ p1, x.block < W.heap.size := by obtain ⟨m, hm⟩ := k1; exact DataW.trod_lt m _ _ _ hm
  obtain ⟨a1, len1, cap1, rfl⟩ := okWide_slice Try.underlying25 (hval 1 25 v1 rfl rfl)
  obtain ⟨x1, ⟨A1, c1, e1, hc1, hr1⟩, w1⟩ := arg op1 rfl h1 hsz (j := 1) rfl rfl
  have e1' : [Value.slice a1 len1 cap1] = [Value.slice A1 x1.length c1] := e1
  obtain ⟨rfl, rfl, rfl⟩ : a1 = A1 ∧ len1 = x1.length ∧ cap1 = c1 := by simpa using e1'
  clear hA0 hval0 hsz0 hsz
  obtain ⟨k, h⟩ := L.twiceChecks x0_0 x0_1 x0_2 x1 w0_0 w0_1 w0_2 w1
  refine (juntolaw07_TwiceChecks.calls k x0_0 x0_1 x0_2 _ _ x1 true W hr1 hc1 h).mono fun e W' ⟨he, bel⟩ => ?_
  subst he
  exact ⟨_, rfl, _, _, _, [], _, [], hW', trodAll_mk1 (shut_bool Try.underlying4 _), (trodAll_cons_mk (Below.trod laidOut (by kernel_rfl) (of_decide_eq_true (by kernel_rfl)) k0 bel lt0) (trodAll_cons_mk (Below.trod laidOut (by kernel_rfl) (of_decide_eq_true (by kernel_rfl)) k1 bel lt1) trodAll_mk0)), rfl, bel.frame _, fun h => by cases h⟩
set_option maxRecDepth 100000 in
theorem closed : joinedFacts Try.pinned.checked.prog 3 Try.f3 Rows.twiceChecksSpec Rows.twiceChecksRow = true := by
  unfold joinedFacts
  repeat' with_reducible refine Bool.and_eq_true_iff.2 ⟨?_, ?_⟩
  all_goals first
    | with_reducible exact Facts.enters
    | (rw [Facts.final]; kernel_rfl)
    | (rw [Facts.made]; kernel_rfl)
    | kernel_rfl
theorem over : Rows.twiceChecksRow.holds Try.pinned (OpenSpec.ofChange Rows.twiceChecksSpec) :=
  OpenClaim.holds_of_wide 3 Try.f3 rfl rfl rfl rfl rfl rfl rfl ⟨rfl, rfl, rfl, rfl, rfl⟩ rfl rfl rfl rfl rfl (by kernel_rfl) Try.func3 closed
    (of_decide_eq_true (by kernel_rfl)) (by unfold Func.isWrapper; first | (rw [if_pos (by decide +kernel)]; kernel_rfl) | (rw [if_neg (by decide +kernel)]; exact ⟨rfl, rfl⟩))
    (fun os started H enc _ => lifted os started H enc)
theorem proved : Rows.TwiceChecksSaid := over
#print axioms proved
end Go.Proofs.Ytjjnfobeeflnhaa.twiceChecks
namespace Go.Proofs.Ytjjnfobeeflnhaa
/-- The row, under a short name, for the claim. -/
theorem twiceChecks_holds : Rows.TwiceChecksSaid := twiceChecks.proved
end Go.Proofs.Ytjjnfobeeflnhaa
