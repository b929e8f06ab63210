/- Part 6 of the proof of PolyWeights: what the functions compute as plain Lean functions, that the machine comes to just these answers, and that the answer is true; no conditions. -/
import Derived.Test.YtjjnfobeeflnhaaPolyWeightsZ0
import Derived.Test.YtjjnfobeeflnhaaPolyWeightsZ1
import Derived.Test.YtjjnfobeeflnhaaPolyWeightsZ2
import Derived.Test.YtjjnfobeeflnhaaPolyWeightsZ3
import Derived.Test.YtjjnfobeeflnhaaPolyWeightsZ4
import Derived.Test.YtjjnfobeeflnhaaPolyWeightsZ5
import Derived.Test.YtjjnfobeeflnhaaRows
import Derived.WalkKit
import Derived.ProofKit
import Derived.OpenShut
import Derived.ShutString
import Derived.ChangeOld
import Derived.Below
import Derived.SizedLaws
/- The statement PolyWeights as plain Lean. -/
namespace Go.Proofs.Ytjjnfobeeflnhaa.L
open Go.RowKit Go.Proofs.YtjjnfobeeflnhaaW.PrintWords Go.Proofs.Ytjjnfobeeflnhaa.J
set_option linter.unusedVariables false
set_option linter.unusedSimpArgs false

theorem weigh_j2 (p : Int) (xs : List Int) (tx : Int) (r : List Int) (e E : Int) (hE : E ≠ 0) (h : Ev (fun k => juntolaw02_PolyWeights.j4 k p xs tx r e E) true) : Ev (fun k => juntolaw02_PolyWeights.j2 k p xs tx r e E) true := by
  refine Ev.step (f := fun k => juntolaw02_PolyWeights.j3 k p xs tx r e E false) (fun k => ?_) (Ev.step (f := fun k => juntolaw02_PolyWeights.j4 k p xs tx r e E) (fun k => ?_) h)
  · simp only [juntolaw02_PolyWeights.j2, hE, if_false]
  · simp only [juntolaw02_PolyWeights.j3, Bool.false_eq_true, if_false]
theorem weigh_j1 (p : Int) (xs : List Int) (tx : Int) (r : List Int) (e E : Int) (hE : E ≠ 0) (h : Ev (fun k => juntolaw02_PolyWeights.j4 k p xs tx r e E) true) : Ev (fun k => juntolaw02_PolyWeights.j1 k p xs tx r e E) true := by
  refine Ev.step (f := fun k => juntolaw02_PolyWeights.j2 k p xs tx r e E) (fun k => ?_) (weigh_j2 p xs tx r e E hE h)
  simp only [juntolaw02_PolyWeights.j1, hE, if_false]
theorem weigh_bad (p : Int) (xs : List Int) (tx e : Int) (he : e ≠ 0) : Ev (fun k => juntolaw02_PolyWeights.j4 k p xs tx [] e e) true := by
  refine Ev.step (f := fun k => (juntolaw02_is.f k [] e [] e).bind fun t => if t = true then (juntolaw02_alive.f k).bind fun u => some u else some false) (fun k => ?_) (Ev.bind (is02_bad e he) ?_)
  · simp only [juntolaw02_PolyWeights.j4, he, if_false]
  · simp only [if_true]
    exact Ev.bind alive02 (Ev.now _)
/-- What the law's tests come to. -/
theorem weigh_tail (p : Int) (xs : List Int) (tx : Int) (r : List Int) (e : Int) (hx : xs.length ≤ maxLen ∧ xs.length * 8 ≤ 140737488351232)
    (h : Ev (fun k => juntolaw02_PolyWeights.j4 k p xs tx r e (if okV p [xs, [tx]] = 0 then (if xs.Nodup then 0 else 6) else okV p [xs, [tx]])) true) :
    Ev (fun k => (juntoref02_Right.f k p ([] : List (List Int))).bind fun t => if t = 0 then juntolaw02_PolyWeights.j0 k p xs tx r e t (decide ((xs.length : Int) > 201)) else juntolaw02_PolyWeights.j0 k p xs tx r e t false) true := by
  refine Ev.bind (ref_right p [] (by simp) (by simp)) ?_
  rw [okV_two] at h
  unfold okV at h ⊢
  by_cases hp : isP p = true
  · simp only [hp, if_true, isV_one, show isV p [] = 0 from rfl] at h ⊢
    unfold withinV at h
    by_cases hb : (xs.length : Int) > 201
    · simp only [hb, if_true, decide_true, show ¬ ((3 : Int) = 0) by decide, if_false] at h ⊢
      refine Ev.step (f := fun k => juntolaw02_PolyWeights.j1 k p xs tx r e 3) (fun k => ?_) (weigh_j1 p xs tx r e 3 (by decide) h)
      simp only [juntolaw02_PolyWeights.j0, if_true]
    · simp only [hb, if_false, decide_false] at h ⊢
      refine Ev.step (f := fun k => juntolaw02_PolyWeights.j1 k p xs tx r e 0) (fun k => ?_) ?_
      · simp only [juntolaw02_PolyWeights.j0, Bool.false_eq_true, if_false]
      have w2 : belowV p [tx] = if tx < p then 0 else 2 := by unfold belowV; simp
      refine Ev.step (f := fun k => (juntoref01_Within.f k p xs).bind fun t => (juntoref01_Within.f k p [tx]).bind fun u => (juntolaw02_then.f t u).bind fun v => juntolaw02_PolyWeights.j2 k p xs tx r e v) (fun k => ?_) (Ev.bind (ref_within p xs hx.1) (Ev.bind (ref_within p [tx] (by simp [maxLen])) ?_))
      · simp only [juntolaw02_PolyWeights.j1, if_true]
      rw [w2]
      unfold juntolaw02_then.f
      by_cases h0 : belowV p xs = 0
      · simp only [h0, if_true] at h ⊢
        refine Ev.bind (Ev.now _) ?_
        by_cases h1 : tx < p
        · simp only [h1, if_true] at h ⊢
          refine Ev.step (f := fun k => (juntoref02_Twice.f k xs).bind fun t => juntolaw02_PolyWeights.j3 k p xs tx r e 0 t) (fun k => ?_) (Ev.bind (twice_at xs (by omega)) ?_)
          · simp only [juntolaw02_PolyWeights.j2, if_true]
          by_cases hn : xs.Nodup
          · simp only [hn, if_true, decide_true, Bool.not_true] at h ⊢
            refine Ev.step (f := fun k => juntolaw02_PolyWeights.j4 k p xs tx r e 0) (fun k => ?_) h
            simp only [juntolaw02_PolyWeights.j3, Bool.false_eq_true, if_false]
          · simp only [hn, if_false, decide_false, Bool.not_false] at h ⊢
            refine Ev.step (f := fun k => juntolaw02_PolyWeights.j4 k p xs tx r e 6) (fun k => ?_) h
            simp only [juntolaw02_PolyWeights.j3, if_true]
        · simp only [h1, if_false, show ¬ ((2 : Int) = 0) by decide] at h ⊢
          exact weigh_j2 p xs tx r e 2 (by decide) h
      · simp only [h0, if_false] at h ⊢
        exact Ev.bind (Ev.now _) (weigh_j2 p xs tx r e _ h0 h)
  · simp only [hp, if_false, Bool.false_eq_true, show ¬ ((2 : Int) = 0) by decide] at h ⊢
    refine Ev.step (f := fun k => juntolaw02_PolyWeights.j1 k p xs tx r e 2) (fun k => ?_) (weigh_j1 p xs tx r e 2 (by decide) h)
    simp only [juntolaw02_PolyWeights.j0, Bool.false_eq_true, if_false]

theorem polyWeights (x0 : Int) (x1 : List Int) (x2 : Int) (w0 : (Lit.int .u64 x0).wf = true) (w1 : x1.length ≤ maxLen ∧ x1.length * 8 ≤ 140737488351232 ∧ ∀ x1' ∈ x1, (Lit.int .u64 x1').wf = true) (w2 : (Lit.int .u64 x2).wf = true) : ∃ k, juntolaw02_PolyWeights.f k x0 x1 x2 = some true := by
  suffices h : Ev (fun k => juntolaw02_PolyWeights.f k x0 x1 x2) true from h.rounds
  have hu : ∀ c ∈ x1, 0 ≤ c := fun c hc => (u64_wf (w1.2.2 c hc)).1
  have hv := (u64_wf w2).1
  have w1' := w1.2.1
  unfold juntolaw02_PolyWeights.f
  by_cases h0 : okV x0 [x1, [x2]] = 0
  · by_cases hn : x1.Nodup
    · have h00 := h0
      rw [okV_two] at h00
      have hk1 : okV x0 [x1] = 0 := by
        by_cases h : okV x0 [x1] = 0
        · exact h
        · rw [if_neg h] at h00; exact h00
      have hk2 : x2 < x0 := by
        rw [if_pos hk1] at h00
        by_cases h : x2 < x0
        · exact h
        · rw [if_neg h] at h00; cases h00
      obtain ⟨q, hz, f, rfl, rfl, h2, hq, hp, hf⟩ := row_of hk1 hu
      obtain ⟨z, rfl⟩ := nI_of (q := q) hv hk2
      have prog : Ev (fun k => poly_Weights.f k (q : Int) (oI f) (nI z)) (oI (Fld.mk f.length (wt (Fld.co f) z f.length)), 0) := by
        unfold poly_Weights.f
        refine Ev.bind (poly_ok _ _ (by simp) (one_len _ _ w1.1)) ?_
        simp only [h0, if_true]
        refine Ev.bind (unlike_at _ (by omega)) ?_
        simp only [hn, decide_true, if_true]
        exact Ev.bind (share_rows h2 hq f (by omega) z) (Ev.now _)
      refine Ev.bind prog (weigh_tail _ _ _ _ _ ⟨w1.1, w1'⟩ ?_)
      rw [if_pos h0, if_pos hn]
      refine Ev.step (f := fun k => (juntoref02_Weights.f k (q : Int) (oI f) (nI z)).bind fun t => (juntolaw02_is.f k (oI (Fld.mk f.length (wt (Fld.co f) z f.length))) 0 t 0).bind fun u => some u) (fun k => ?_) (Ev.bind (weights_rows h2 hq f (by omega) z) (Ev.bind (is02_same _ (by rw [oI_length, Fld.mk_length]; simp only [maxLen]; omega)) (Ev.now _)))
      simp only [juntolaw02_PolyWeights.j4, if_true]
    · have prog : Ev (fun k => poly_Weights.f k x0 x1 x2) ([], 6) := by
        unfold poly_Weights.f
        refine Ev.bind (poly_ok _ _ (by simp) (one_len _ _ w1.1)) ?_
        simp only [h0, if_true]
        refine Ev.bind (unlike_at _ (by omega)) ?_
        simp only [hn, decide_false, Bool.false_eq_true, if_false]
        exact Ev.now _
      refine Ev.bind prog (weigh_tail _ _ _ _ _ ⟨w1.1, w1'⟩ ?_)
      rw [if_pos h0, if_neg hn]
      exact weigh_bad _ _ _ 6 (by decide)
  · have prog : Ev (fun k => poly_Weights.f k x0 x1 x2) ([], okV x0 [x1, [x2]]) := by
      unfold poly_Weights.f
      refine Ev.bind (poly_ok _ _ (by simp) (one_len _ _ w1.1)) ?_
      simp only [h0, if_false]
      exact Ev.now _
    refine Ev.bind prog (weigh_tail _ _ _ _ _ ⟨w1.1, w1'⟩ ?_)
    rw [if_neg h0]
    exact weigh_bad _ _ _ _ h0

end Go.Proofs.Ytjjnfobeeflnhaa.L

/- The row of PolyWeights: for every input the call returns true and changes nothing; no conditions. Out of the contract of the function and the plain law. -/
namespace Go.Proofs.Ytjjnfobeeflnhaa.polyWeights
open Go.ChangeShapes Go.WideShapes Go.ChangeAt Go.RowKit Go.Proofs.YtjjnfobeeflnhaaW.PrintWords Go.Proofs.Ytjjnfobeeflnhaa.J Go.Proofs.Ytjjnfobeeflnhaa.Op
set_option linter.unusedVariables false
theorem own : ownKnob Try.prog.godebug = none := by kernel_rfl
theorem laidOut : laidOutB Try.prog = true := by kernel_rfl
set_option maxRecDepth 100000 in
theorem op0 : Opens Try.prog (Kd.int .u64) 22 (fun n => (Lit.int .u64 n).wf = true) := (op_int Try.underlying22)
set_option maxRecDepth 100000 in
theorem op1 : Opens Try.prog (Kd.slice 22 (Kd.int .u64)) 31 (fun l => l.length ≤ maxLen ∧ l.length * 8 ≤ 140737488351232 ∧ ∀ a ∈ l, (fun n => (Lit.int .u64 n).wf = true) a) := (op_slice Try.underlying31 (by kernel_rfl) (by kernel_rfl) (op_int Try.underlying22))
set_option maxRecDepth 100000 in
theorem op2 : Opens Try.prog (Kd.int .u64) 22 (fun n => (Lit.int .u64 n).wf = true) := (op_int Try.underlying22)
set_option maxRecDepth 100000 in
theorem lifted (os : Os) (started : os.Started) (H : Type) (enc : TypeId × Value → H) :
    ReturnsInHanded {} Try.checked os 22 .any (Rows.polyWeightsSpec.pre6 enc Try.prog Try.f22 Rows.polyWeightsRow.domain false) (Rows.polyWeightsSpec.post enc Try.prog Try.f22 false true false false) := by
  refine returnsInHanded_of_change_sized (C := Try.checked) own started (by kernel_rfl) Try.func22
    (ChangeSpec.witness6 (enc := enc) (C := Try.checked) false ⟨#[], #[.int .u64 0, .slice none 0 0, .int .u64 0], []⟩ 8 (by kernel_rfl) (by kernel_rfl) (by kernel_rfl) (by kernel_rfl)) ?_
  intro W base args ds gs before hval0 hW hcnd hsz0 _
  have hsz : (DataW.weightsEach Try.prog (Try.f22.params.toList ++ Rows.polyWeightsSpec.plain.varTypes Try.prog) (ds ++ gs)).all (· ≤ reachBytes) = true := hsz0
  have hval : ∀ (j : Nat) t v, Try.f22.params[j]? = some t → args[j]? = some v → Value.okWide Try.prog W .any base t v := hval0
  have hW' := hW
  obtain ⟨p, q, hA0, hV, rfl, hfz, hnd⟩ := hW
  have hA : DataW.TrodAll enc Try.prog W 0 (fun _ => true) true Try.f22.params.toList args.toList ds p := hA0
  rw [Try.params22] at hA hval hsz
  obtain ⟨v0, vs0, d0, ds0, p0, q0, hargs, rfl, rfl, h0, r0⟩ := trodAll_cons hA
  obtain ⟨v1, vs1, d1, ds1, p1, q1, rfl, rfl, rfl, h1, r1⟩ := trodAll_cons r0
  obtain ⟨v2, vs2, d2, ds2, p2, q2, rfl, rfl, rfl, h2, r2⟩ := trodAll_cons r1
  obtain ⟨rfl, rfl, rfl⟩ := trodAll_nil r2
  obtain rfl : args = #[v0, v1, v2] := by cases args; simp_all
  obtain ⟨rfl, rfl⟩ := trodVars_none hV
  have k0 := h0
  have lt0 : ∀ x ∈ p0, x.block < W.heap.size := by obtain ⟨m, hm⟩ := k0; exact DataW.trod_lt m _ _ _ hm
  obtain ⟨x0, rfl⟩ := okWide_int Try.underlying22 (hval 0 22 v0 rfl rfl)
  obtain ⟨y0, e0, w0⟩ := arg op0 rfl h0 hsz (j := 0) rfl rfl
  have e0' : [Value.int .u64 x0] = [Value.int .u64 y0] := e0
  obtain rfl : x0 = y0 := by simpa using e0'
  have k1 := h1
  have lt1 : ∀ x ∈ p1, x.block < W.heap.size := by obtain ⟨m, hm⟩ := k1; exact DataW.trod_lt m _ _ _ hm
  obtain ⟨a1, len1, cap1, rfl⟩ := okWide_slice Try.underlying31 (hval 1 31 v1 rfl rfl)
  obtain ⟨x1, ⟨A1, c1, e1, hc1, hr1⟩, w1⟩ := arg op1 rfl h1 hsz (j := 1) rfl rfl
  have e1' : [Value.slice a1 len1 cap1] = [Value.slice A1 x1.length c1] := e1
  obtain ⟨rfl, rfl, rfl⟩ : a1 = A1 ∧ len1 = x1.length ∧ cap1 = c1 := by simpa using e1'
  have k2 := h2
  have lt2 : ∀ x ∈ p2, x.block < W.heap.size := by obtain ⟨m, hm⟩ := k2; exact DataW.trod_lt m _ _ _ hm
  obtain ⟨x2, rfl⟩ := okWide_int Try.underlying22 (hval 2 22 v2 rfl rfl)
  obtain ⟨y2, e2, w2⟩ := arg op2 rfl h2 hsz (j := 2) rfl rfl
  have e2' : [Value.int .u64 x2] = [Value.int .u64 y2] := e2
  obtain rfl : x2 = y2 := by simpa using e2'
  clear hA0 hval0 hsz0 hsz
  obtain ⟨k, h⟩ := L.polyWeights x0 x1 x2 w0 w1 w2
  refine (juntolaw02_PolyWeights.calls k x0 _ _ x1 x2 true W hr1 hc1 h).mono fun e W' ⟨he, bel⟩ => ?_
  subst he
  exact ⟨_, rfl, _, _, _, [], _, [], hW', trodAll_mk1 (shut_bool Try.underlying4 _), (trodAll_cons_mk (Below.trod laidOut (by kernel_rfl) (of_decide_eq_true (by kernel_rfl)) k0 bel lt0) (trodAll_cons_mk (Below.trod laidOut (by kernel_rfl) (of_decide_eq_true (by kernel_rfl)) k1 bel lt1) (trodAll_cons_mk (Below.trod laidOut (by kernel_rfl) (of_decide_eq_true (by kernel_rfl)) k2 bel lt2) trodAll_mk0))), rfl, bel.frame _, fun h => by cases h⟩
set_option maxRecDepth 100000 in
theorem closed : joinedFacts Try.pinned.checked.prog 22 Try.f22 Rows.polyWeightsSpec Rows.polyWeightsRow = true := by
  unfold joinedFacts
  repeat' with_reducible refine Bool.and_eq_true_iff.2 ⟨?_, ?_⟩
  all_goals first
    | with_reducible exact Facts.enters
    | (rw [Facts.final]; kernel_rfl)
    | (rw [Facts.made]; kernel_rfl)
    | kernel_rfl
theorem over : Rows.polyWeightsRow.holds Try.pinned (OpenSpec.ofChange Rows.polyWeightsSpec) :=
  OpenClaim.holds_of_wide 22 Try.f22 rfl rfl rfl rfl rfl rfl rfl ⟨rfl, rfl, rfl, rfl, rfl⟩ rfl rfl rfl rfl rfl (by kernel_rfl) Try.func22 closed
    (of_decide_eq_true (by kernel_rfl)) (by unfold Func.isWrapper; first | (rw [if_pos (by decide +kernel)]; kernel_rfl) | (rw [if_neg (by decide +kernel)]; exact ⟨rfl, rfl⟩))
    (fun os started H enc _ => lifted os started H enc)
theorem proved : Rows.PolyWeightsSaid := over
#print axioms proved
end Go.Proofs.Ytjjnfobeeflnhaa.polyWeights
namespace Go.Proofs.Ytjjnfobeeflnhaa
/-- The row, under a short name, for the claim. -/
theorem polyWeights_holds : Rows.PolyWeightsSaid := polyWeights.proved
end Go.Proofs.Ytjjnfobeeflnhaa
