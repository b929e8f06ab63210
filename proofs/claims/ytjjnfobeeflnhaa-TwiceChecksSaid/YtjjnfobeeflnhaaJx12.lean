/- What Go functions of the program compute, as plain Lean functions, and that the machine comes to just these answers (written by a program for this seat). -/
import Derived.Test.YtjjnfobeeflnhaaJx0
import Derived.Test.YtjjnfobeeflnhaaJx2
import Derived.Test.YtjjnfobeeflnhaaJx5
import Derived.Test.YtjjnfobeeflnhaaJx11
namespace Go.Proofs.Ytjjnfobeeflnhaa.J
open Go.RowKit Go.Proofs.YtjjnfobeeflnhaaW.PrintWords Go.Proofs.YtjjnfobeeflnhaaW.PrintLast Go.Proofs.YtjjnfobeeflnhaaW.PrintMore
attribute [local go_sem] max2_int min2_int max_two min_two max_three min_three max_four min_four   -- for this text's walks alone
set_option linter.unusedVariables false
set_option linter.unusedSimpArgs false

/-! ### twice_at: function 129 -/
def twice_at.f (k : Nat) (a0 a1 a2 : Int) (l1 : List (List Int)) (x : Int) (fl : Option (List Int)) : Option (Int × Int) :=
  (twice_Check.f k a0 a1 a2 l1).bind fun e => if e = 0 then (if a0 ≤ x then some (0, 2) else fl.bind fun m => (poly_At.f a0 m x).bind fun v => some (v, 0)) else some (0, e)
theorem twice_at.mono (a0 a1 a2 : Int) (l1 : List (List Int)) (x : Int) (fl : Option (List Int)) (k : Nat) : LeO (twice_at.f k a0 a1 a2 l1 x fl) (twice_at.f (k + 1) a0 a1 a2 l1 x fl) := by
  unfold twice_at.f
  exact LeO.bind (twice_Check.mono _ _ _ _ _) fun e => LeO.refl _
theorem twice_at.box {w w1 : World} {a b c : Value} {t : TypeId} (hb : Below (w.alloc (.cells #[a, b, c] t)).heap.size (w.alloc (.cells #[a, b, c] t)) w1) : Below w.heap.size w w1 ∧ w1.cell? ⟨w.heap.size, 0, none⟩ = some a := by
  have hbx : w1.heap[w.heap.size]? = some (.cells #[a, b, c] t (0, 0)) := (hb.block _ (by simp)).trans (by show (w.heap.push _)[w.heap.size]? = _; simp)
  exact ⟨below_step (below_alloc (Below.refl _ _) _) hb, (blk_cell hbx 0).trans rfl⟩
set_option maxHeartbeats 8000000 in
set_option maxRecDepth 100000 in
theorem twice_at.any_calls (k : Nat) (a0 a1 a2 : Int) (A1 : Option Addr) (c1 : Nat) (l1 : List (List Int)) (x : Int) (fl : Option (List Int)) (fid : FuncId) (L : Array Value) (hE : ∀ args w, (callFunc fid args).run Try.prog w = .ok (.enter fid args) w) (r1 r2 : Int) (w : World)
    (hO : ∀ m, fl = some m → ∀ W, Below w.heap.size w W → Calls Try.prog fid (#[] ++ L) W fun e w' => ∃ A c, e = .returned (.slice A m.length c) ∧ m.length ≤ c ∧ Kd.C (Kd.int .u64) w' A m.length m ∧ Below W.heap.size W w')
    (hr1 : Kd.C (Kd.slice 22 (Kd.int .u64)) w A1 l1.length l1) (hc1 : l1.length ≤ c1) (h : twice_at.f k a0 a1 a2 l1 x fl = some (r1, r2)) :
    Calls Try.prog 129 #[.agg #[.int .u64 a0, .int .i64 a1, .int .i64 a2], .slice A1 l1.length c1, .int .u64 x, .func (.func fid) #[] L] w fun e w' => e = .returned (.tuple #[.int .u64 r1, .int .i64 r2]) ∧ Below w.heap.size w w' := by
  have HR := Aside0.mk hr1
  have HC := Aside0.mk hc1
  have HE := Aside0.mk hE
  have HO := Aside0.mk hO
  clear hr1 hc1 hE hO
  unfold twice_at.f at h
  replace h := Option.bind_eq_some_iff.mp h
  obtain ⟨e0, he0, h⟩ := h
  have HCK := Aside0.mk he0
  clear he0
  have hu := Try.underlying24
  by_cases h0 : e0 = 0
  · subst h0
    rw [if_pos rfl] at h
    by_cases h1 : a0 ≤ x
    · rw [if_pos h1] at h
      simp only [Option.some.injEq, Prod.mk.injEq] at h
      obtain ⟨rfl, rfl⟩ := h
      have t1 : decide (a0 ≤ x) = true := decide_eq_true h1
      clear h1
      go_enter Try.func129, Try.ntmps129
      go_wp2_with (go_at_call 36; refine (twice_Check.calls k a0 a1 a2 A1 c1 l1 0 _ (Kd.C_alloc HR.out _) HC.out HCK.out).mono ?_; rintro e w1 ⟨rfl, hb⟩; obtain ⟨hB, d0⟩ := twice_at.box hb; have HB := Aside0.mk hB; clear hb hB)
      go_ret2
      exact ⟨rfl, HB.out⟩
    · rw [if_neg h1] at h
      have t1 : decide (a0 ≤ x) = false := decide_eq_false h1
      clear h1
      obtain ⟨m, hm, h⟩ := Option.bind_eq_some_iff.mp h
      obtain ⟨v, hv, h⟩ := Option.bind_eq_some_iff.mp h
      simp only [Option.some.injEq, Prod.mk.injEq] at h
      obtain ⟨rfl, rfl⟩ := h
      have HOM := Aside0.mk (HO.out m hm)
      have HV := Aside0.mk hv
      clear hm hv HO
      have hmx : Try.prog.follows .mixedOrders = true := by kernel_rfl
      go_enter Try.func129, Try.ntmps129
      go_wp2_with (go_at_call 36; refine (twice_Check.calls k a0 a1 a2 A1 c1 l1 0 _ (Kd.C_alloc HR.out _) HC.out HCK.out).mono ?_; rintro e w1 ⟨rfl, hb⟩; obtain ⟨hB, d0⟩ := twice_at.box hb; have HB := Aside0.mk hB; clear hb hB)
      have hlt := World.block_lt_of_cell? _ _ d0
      refine start_ (n := 8) (S := fun w' => w'.cell? ⟨w.heap.size, 0, none⟩ = some (.int .u64 a0)) (ds := []) #[false, false, false, false, false, false, false, false] hmx rfl rfl d0 (fun hHeld => ?_)
      refine pure_ (i := 0) (N := (some 21)) (v := ?_) (a' := ?_) #[true, false, false, false, false, false, false, false] rfl rfl (by kernel_rfl) (fun _ _ _ h => h) (Or.inl ⟨by rfl, ?_⟩) ?_ ?_
      rotate_left
      · intro w'
        go_simp
        with_reducible rfl
      rotate_left
      · simp only [Act.put, List.setIfInBounds_toArray, List.set_cons_zero, List.set_cons_succ, i64_w, i32_w]
        rfl
      refine take_ (i := 1) (N := (some 22)) (v := ?_) (a' := ?_) #[true, true, false, false, false, false, false, false] rfl rfl (by kernel_rfl) (fun _ _ _ h => h) (Or.inl ⟨by rfl, ?_⟩) hHeld ?_ ?_
      rotate_left
      · rintro w' s0
        go_simp
        with_reducible rfl
      rotate_left
      · simp only [Act.put, List.setIfInBounds_toArray, List.set_cons_zero, List.set_cons_succ, i64_w, i32_w]
        rfl
      refine pure_ (i := 2) (N := (some 23)) (v := ?_) (a' := ?_) #[true, true, true, false, false, false, false, false] rfl rfl (by kernel_rfl) (fun _ _ _ h => h) (Or.inl ⟨by rfl, ?_⟩) ?_ ?_
      rotate_left
      · intro w'
        go_simp
        with_reducible rfl
      rotate_left
      · simp only [Act.put, List.setIfInBounds_toArray, List.set_cons_zero, List.set_cons_succ, i64_w, i32_w]
        rfl
      refine pure_ (i := 4) (N := (some 25)) (v := ?_) (a' := ?_) #[true, true, true, false, true, false, false, false] rfl rfl (by kernel_rfl) (fun _ _ _ h => h) (Or.inl ⟨by rfl, ?_⟩) ?_ ?_
      rotate_left
      · intro w'
        go_simp
        with_reducible rfl
      rotate_left
      · simp only [Act.put, List.setIfInBounds_toArray, List.set_cons_zero, List.set_cons_succ, i64_w, i32_w]
        rfl
      refine one_ (i := 3) (N := (some 24)) #[true, true, true, true, true, false, false, false] rfl rfl (by kernel_rfl) (by decide) (fun K hK => ?_)
      refine slices_IndexFunc_uint64_uint64.goesT_ HE.out #[] (by rfl) rfl rfl rfl (by (try simp only [List.map_toArray, List.map_cons, List.map_nil]); first | done | rfl) ?_
      with_reducible refine (HOM.out _ (below_drew HB.out)).mono ?_
      rintro e w2 ⟨Am, cm, rfl, hcm, hCm, hb2⟩
      refine ⟨_, rfl, ?_⟩
      have e0 := (hb2.cell (p := ⟨w.heap.size, 0, none⟩) hlt).trans d0
      have HB2 := Aside0.mk (below_step (below_drew HB.out) hb2)
      refine hK.out _ _ e0 (fun hHeld => ?_)
      clear hK K
      refine norm_ (a' := ?_) ?_ ?_
      rotate_left
      · show Act.put _ (some 24) _ = _
        simp only [Act.put, List.setIfInBounds_toArray, List.set_cons_zero, List.set_cons_succ, i64_w, i32_w]
        rfl
      refine one_ (i := 5) (N := (some 26)) #[true, true, true, true, true, true, false, false] rfl rfl (by kernel_rfl) (by decide) (fun K hK => ?_)
      refine goes_ Try.func134 (by kernel_rfl) rfl #[.int .u64 a0, .slice Am m.length cm, .int .u64 x] (by rfl) rfl rfl (by (try simp only [List.map_toArray, List.map_cons, List.map_nil]); first | done | rfl) ?_
      with_reducible refine (poly_At.calls a0 Am cm m x v _ hCm hcm HV.out).mono ?_
      rintro e w3 ⟨rfl, hb3⟩
      refine ⟨_, rfl, ?_⟩
      have hlt2 := Nat.lt_of_lt_of_le hlt hb2.size
      have e1 := (hb3.cell (p := ⟨w.heap.size, 0, none⟩) hlt2).trans e0
      have HB3 := Aside0.mk (below_step HB2.out hb3)
      refine hK.out _ _ e1 (fun hHeld => ?_)
      clear hK K
      refine norm_ (a' := ?_) ?_ ?_
      rotate_left
      · show Act.put _ (some 26) _ = _
        simp only [Act.put, List.setIfInBounds_toArray, List.set_cons_zero, List.set_cons_succ, i64_w, i32_w]
        rfl
      refine pure_ (i := 6) (N := (some 8)) (v := ?_) (a' := ?_) #[true, true, true, true, true, true, true, false] rfl rfl (by kernel_rfl) (fun _ _ _ h => h) (Or.inl ⟨by rfl, ?_⟩) ?_ ?_
      rotate_left
      · intro w'
        go_simp
        with_reducible rfl
      rotate_left
      · simp only [Act.put, List.setIfInBounds_toArray, List.set_cons_zero, List.set_cons_succ, i64_w, i32_w]
        rfl
      refine pure_ (i := 7) (N := (some 9)) (v := ?_) (a' := ?_) #[true, true, true, true, true, true, true, true] rfl rfl (by kernel_rfl) (fun _ _ _ h => h) (Or.inl ⟨by rfl, ?_⟩) ?_ ?_
      rotate_left
      · intro w'
        go_simp
        with_reducible rfl
      rotate_left
      · simp only [Act.put, List.setIfInBounds_toArray, List.set_cons_zero, List.set_cons_succ, i64_w, i32_w]
        rfl
      refine done_ (by kernel_rfl) ?_
      go_wp2
      go_ret2
      exact ⟨rfl, HB3.out⟩
  · rw [if_neg h0] at h
    simp only [Option.some.injEq, Prod.mk.injEq] at h
    obtain ⟨rfl, rfl⟩ := h
    have hb : (e0 == 0) = false := beq_eq_false_iff_ne.mpr h0
    have hb1 : (e0 != 0) = true := bne_iff_ne.mpr h0
    clear h0
    go_enter Try.func129, Try.ntmps129
    go_wp2_with (go_at_call 36; refine (twice_Check.calls k a0 a1 a2 A1 c1 l1 e0 _ (Kd.C_alloc HR.out _) HC.out HCK.out).mono ?_; rintro e w1 ⟨rfl, hb⟩; obtain ⟨hB, d0⟩ := twice_at.box hb; have HB := Aside0.mk hB; clear hb hB)
    go_ret2
    exact ⟨rfl, HB.out⟩

end Go.Proofs.Ytjjnfobeeflnhaa.J
