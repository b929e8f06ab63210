/- What Go functions of the program compute, as plain Lean functions, and that the machine comes to just these answers (written by a program for this seat). -/
import Derived.Test.YtjjnfobeeflnhaaJx0
import Derived.Test.YtjjnfobeeflnhaaJx9
import Derived.Test.YtjjnfobeeflnhaaJx10
import Derived.RangeFuncBox
import Derived.RangeFuncLeaves
import Derived.RangeFuncCalls
import Derived.RangeFuncWrites
import Derived.Shelf.Abstract
import Derived.OwnWalkIn
import Derived.TacticsInMore
import Derived.LoopNIn
import Derived.LoopIn
import Derived.Shelf.RegionOpen
import Derived.Test.YtjjnfobeeflnhaaRnd
namespace Go.Proofs.Ytjjnfobeeflnhaa.J
open Go.RowKit Go.Proofs.YtjjnfobeeflnhaaW.PrintWords Go.Proofs.YtjjnfobeeflnhaaW.PrintLast Go.Proofs.YtjjnfobeeflnhaaW.PrintMore
attribute [local go_sem] max2_int min2_int max_two min_two max_three min_three max_four min_four   -- for this text's walks alone
set_option linter.unusedVariables false
set_option linter.unusedSimpArgs false

/-! ### poly_At: function 134 -/
section
open Go.Shelf
attribute [local go_sem] Oper.semAt_some
def poly_At.step (a0 a2 : Int) (v c : Int) : Option Int := (field_Times.f a0 v a2).bind fun t => field_Plus.f a0 t c
def poly_At.run (a0 a2 : Int) (l : List Int) (v : Option Int) : Option Int := l.foldl (fun acc c => acc.bind fun v => poly_At.step a0 a2 v c) v
def poly_At.f (a0 : Int) (l1 : List Int) (a2 : Int) : Option Int := poly_At.run a0 a2 l1.reverse (some 0)
theorem poly_At.run_none (a0 a2 : Int) (l : List Int) : poly_At.run a0 a2 l none = none := by
  induction l with
  | nil => rfl
  | cons c l ih => exact ih
theorem poly_At.run_snoc (a0 a2 : Int) (l : List Int) (c : Int) (v : Option Int) : poly_At.run a0 a2 (l ++ [c]) v = (poly_At.run a0 a2 l v).bind fun v => poly_At.step a0 a2 v c := by simp [poly_At.run]
theorem poly_At.step_some {a0 : Int} (h : a0 ≠ 0) (a2 v c : Int) : ∃ t u, field_Times.f a0 v a2 = some t ∧ field_Plus.f a0 t c = some u := by
  unfold field_Times.f field_mul.f field_Plus.f
  rw [if_neg h]
  simp only [Option.bind_some]
  refine ⟨Int.tmod (IntKind.u64.wrap (v * a2)) a0, ?_⟩
  by_cases hc : IntKind.u64.wrap (Int.tmod (IntKind.u64.wrap (v * a2)) a0 + c) ≥ a0
  · exact ⟨_, rfl, by rw [if_pos hc]⟩
  · exact ⟨_, rfl, by rw [if_neg hc]⟩
theorem poly_At.ne_zero {a0 a2 r : Int} {l : List Int} (h : poly_At.f a0 l a2 = some r) (hl : 0 < l.length) : a0 ≠ 0 := by
  rintro rfl
  unfold poly_At.f at h
  obtain ⟨c, m, hm⟩ : ∃ c m, l.reverse = c :: m := by
    cases hr : l.reverse with
    | nil => simp at hr; subst hr; simp at hl
    | cons c m => exact ⟨c, m, rfl⟩
  rw [hm] at h
  have : poly_At.run 0 a2 (c :: m) (some 0) = poly_At.run 0 a2 m none := rfl
  rw [this, poly_At.run_none] at h
  cases h
theorem poly_At.boxed_row {A : World} {B : Nat} {t : TypeId} {v : Value} {row : Option Nat} (h : Boxed A B t v) (hr : ∀ r, row = some r → ∃ o : Obj, A.heap[r]? = some o ∧ o.isCells = false) : some B ≠ row := by
  intro e
  obtain ⟨o, ho, hc⟩ := hr B e.symm
  rw [show A.heap[B]? = _ from h] at ho
  cases ho
  simp [Obj.isCells] at hc
set_option maxRecDepth 100000 in
set_option maxHeartbeats 2000000 in
theorem poly_At.calls (a0 : Int) (A1 : Option Addr) (c1 : Nat) (l1 : List Int) (a2 : Int) (r : Int) (w : World) (hr1 : Kd.C (Kd.int .u64) w A1 l1.length l1) (hc1 : l1.length ≤ c1) (h : poly_At.f a0 l1 a2 = some r) :
    Calls Try.prog 134 #[.int .u64 a0, .slice A1 l1.length c1, .int .u64 a2] w fun e w' => e = .returned (.int .u64 r) ∧ Below w.heap.size w w' := by
  have hne := fun hl => poly_At.ne_zero h hl
  have HH := Aside0.mk h
  clear h
  have HR := Aside0.mk hr1
  have hA : ∀ ad, A1 = some ad → 0 < l1.length → ad.block < w.heap.size := by
    rintro ad rfl hl
    obtain ⟨ad', e, h⟩ := Kd.at_int hr1 0 (by omega) (by omega)
    cases e
    have := World.block_lt_of_cell? w _ h
    rw [show (ad.add (Int.toNat 0)).block = ad.block by unfold Addr.add; split <;> rfl] at this
    exact this
  clear hr1
  have HA := Aside0.mk hA
  clear hA
  refine (callsIn_wide (n := 5)).1 ?_
  have h1 : 1 ≤ 5 := by omega
  refine callsIn_of_wp_marks Try.func134 rfl trivial ?_ rfl
  simp only [Try.ntmps134, List.size_toArray, List.length_cons, List.length_nil, Nat.reduceAdd, Nat.reduceSub, Array.replicate_succ, Array.replicate_zero, List.push_toArray, List.append_toArray, List.nil_append, List.cons_append]
  gi_wp2_with (refine ⟨trivial, ?_⟩; gi_at_call 163; refine (slices_Backward_uint64_uint64_163_mk Fence.wide (5 - 1) trivial rfl _ _ _ _).mono ?_; rintro e w' ⟨rfl, rfl⟩)
  have bP := Boxed.new w 22 (.int .u64 a0)
  have bX := Boxed.new (w.alloc (.cells #[.int .u64 a0] 22)) 22 (.int .u64 a2)
  have bV := Boxed.new ((w.alloc (.cells #[.int .u64 a0] 22)).alloc (.cells #[.int .u64 a2] 22)) 22 (.int .u64 0)
  have bS := Boxed.new (((w.alloc (.cells #[.int .u64 a0] 22)).alloc (.cells #[.int .u64 a2] 22)).alloc (.cells #[.int .u64 0] 22)) 31 (.slice A1 l1.length c1)
  simp only [World.size_alloc] at bX bV bS
  have hB0 : Below w.heap.size w ((((w.alloc (.cells #[.int .u64 a0] 22)).alloc (.cells #[.int .u64 a2] 22)).alloc (.cells #[.int .u64 0] 22)).alloc (.cells #[.slice A1 l1.length c1] 31)) := ((((Below.refl _ w).alloc (Nat.le_refl _) _).alloc (by simp) _).alloc (by simp; omega) _).alloc (by simp; omega) _
  refine wpIn_rangeFunc_ownG rfl h1 (gf := 173) (lb := #[.pointer (some ⟨w.heap.size + 1 + 1 + 1, 0, none⟩)]) rfl trivial (enters_of Try.func173 (by kernel_rfl) rfl)
    (slices_Backward_uint64_uint64_163_stops Fence.wide (5 - 1) trivial rfl (by omega) (w.heap.size + 1 + 1 + 1) w.heap.size c1 A1 l1 _ (by simp) (by simp; omega) bS.cell (Kd.C_below HR.out hB0) HA.out) slices_Backward_uint64_uint64_163_Kp_t (slices_Backward_uint64_uint64_163_Kp_b (by simp; omega) (by simp)) (Below.refl _ _) (fun _ => rfl)
    (fun pre W => (Boxed W w.heap.size 22 (.int .u64 a0) ∧ Boxed W (w.heap.size + 1) 22 (.int .u64 a2) ∧ ∃ v, Boxed W (w.heap.size + 1 + 1) 22 (.int .u64 v) ∧ poly_At.run a0 a2 (pre.map (·.2)) (some 0) = some v) ∧ Below w.heap.size w W)
    (fun _ _ _ => False)
    (OwnFrom.and (Own.from (fun s A B row hs hg hr => ?own) _) (ownFrom_below (Nat.le_refl _) (by simp; omega)))
    (fun _ _ _ _ _ hs _ _ => hs)
    ⟨⟨((bP.alloc _).alloc _).alloc _, (bX.alloc _).alloc _, 0, bV.alloc _, rfl⟩, hB0⟩
    (fun x => { tmps := #[.int .u64 a0, .slice A1 l1.length c1, .int .u64 a2, .pointer (some ⟨w.heap.size, 0, none⟩), undef, .pointer (some ⟨w.heap.size + 1, 0, none⟩), .int .u64 0, .pointer (some ⟨w.heap.size + 1 + 1, 0, none⟩), undef, .int .u64 x.2, .slice A1 l1.length c1, .func (.func 173) #[] #[.pointer (some ⟨w.heap.size + 1 + 1 + 1, 0, none⟩)], .int .i64 x.1, .int .u64 x.2, undef, undef, undef, undef, undef, undef, undef, undef], defers := [] }) ?assign ?body ?done ?stop
  case own =>
    obtain ⟨h1, h2, v, h3, h4⟩ := hs
    exact ⟨h1.kept hg (poly_At.boxed_row h1 hr), h2.kept hg (poly_At.boxed_row h2 hr), v, h3.kept hg (poly_At.boxed_row h3 hr), h4⟩
  case assign =>
    intro l x W K hK
    gi_wp2
    exact hK
  case body =>
    rintro l pre x W ⟨⟨h1, h2, v, h3, h4⟩, hB⟩ hlen
    have h0 := hne (by omega)
    obtain ⟨t, u, e1, e2⟩ := poly_At.step_some h0 a2 v x.2
    have E1 := Aside0.mk e1
    have E2 := Aside0.mk e2
    have E4 := Aside0.mk h4
    clear e1 e2 h4 h0 hne hlen
    have hd : 1 ≤ 5 - 1 - 1 := by omega
    have hmx : Try.prog.follows .mixedOrders = true := by kernel_rfl
    have d1 := h1.cell
    have d2 := h2.cell
    have d3 := h3.cell
    have f3 := h3.frozen
    gi_wp2
    refine Go.Proofs.Ytjjnfobeeflnhaa.Rnd.start_round (m := 8) (S := fun w' => w'.cell? ⟨w.heap.size, 0, none⟩ = some (.int .u64 a0) ∧ w'.cell? ⟨w.heap.size + 1, 0, none⟩ = some (.int .u64 a2) ∧ w'.cell? ⟨w.heap.size + 1 + 1, 0, none⟩ = some (.int .u64 v)) (ds := [7]) #[false, false, false, false, false, false, false, false] ?hQ hmx ?hd rfl rfl ⟨d1, d2, d3⟩ (fun hHeld => ?_)
    case hQ => rintro ⟨_, _, h⟩; exact h
    case hd => intro o ho c; simp only [List.mem_cons, List.not_mem_nil, or_false] at ho; rcases ho with rfl | rfl | rfl | rfl | rfl | rfl | rfl | rfl <;> simp
    refine take_ (i := 0) (N := (some 14)) (v := ?_) (a' := ?_) #[true, false, false, false, false, false, false, false] rfl rfl (by kernel_rfl) (fun _ _ _ h => h) (Or.inl ⟨by rfl, ?_⟩) hHeld ?_ ?_
    rotate_left
    · rintro w' ⟨s0, s1, s2⟩
      go_simp
      with_reducible rfl
    rotate_left
    · simp only [Act.put, List.setIfInBounds_toArray, List.set_cons_zero, List.set_cons_succ, i64_w, i32_w]
      rfl
    refine take_ (i := 1) (N := (some 15)) (v := ?_) (a' := ?_) #[true, true, false, false, false, false, false, false] rfl rfl (by kernel_rfl) (fun _ _ _ h => h) (Or.inl ⟨by rfl, ?_⟩) hHeld ?_ ?_
    rotate_left
    · rintro w' ⟨s0, s1, s2⟩
      go_simp
      with_reducible rfl
    rotate_left
    · simp only [Act.put, List.setIfInBounds_toArray, List.set_cons_zero, List.set_cons_succ, i64_w, i32_w]
      rfl
    refine take_ (i := 2) (N := (some 16)) (v := ?_) (a' := ?_) #[true, true, true, false, false, false, false, false] rfl rfl (by kernel_rfl) (fun _ _ _ h => h) (Or.inl ⟨by rfl, ?_⟩) hHeld ?_ ?_
    rotate_left
    · rintro w' ⟨s0, s1, s2⟩
      go_simp
      with_reducible rfl
    rotate_left
    · simp only [Act.put, List.setIfInBounds_toArray, List.set_cons_zero, List.set_cons_succ, i64_w, i32_w]
      rfl
    refine take_ (i := 3) (N := (some 17)) (v := ?_) (a' := ?_) #[true, true, true, true, false, false, false, false] rfl rfl (by kernel_rfl) (fun _ _ _ h => h) (Or.inl ⟨by rfl, ?_⟩) hHeld ?_ ?_
    rotate_left
    · rintro w' ⟨s0, s1, s2⟩
      go_simp
      with_reducible rfl
    rotate_left
    · simp only [Act.put, List.setIfInBounds_toArray, List.set_cons_zero, List.set_cons_succ, i64_w, i32_w]
      rfl
    refine pure_ (i := 5) (N := (some 19)) (v := ?_) (a' := ?_) #[true, true, true, true, false, true, false, false] rfl rfl (by kernel_rfl) (fun _ _ _ h => h) (Or.inl ⟨by rfl, ?_⟩) ?_ ?_
    rotate_left
    · intro w'
      go_simp
      with_reducible rfl
    rotate_left
    · simp only [Act.put, List.setIfInBounds_toArray, List.set_cons_zero, List.set_cons_succ, i64_w, i32_w]
      rfl
    refine one_ (i := 4) (N := (some 18)) #[true, true, true, true, true, true, false, false] rfl rfl (by kernel_rfl) (by decide) (fun K hK => ?_)
    refine goes_ Try.func148 (by kernel_rfl) rfl #[.int .u64 a0, .int .u64 v, .int .u64 a2] (by rfl) rfl rfl (by (try simp only [List.map_toArray, List.map_cons, List.map_nil]); first | done | rfl) ?_
    with_reducible refine (field_Times.calls a0 v a2 t _ E1.out).mono ?_
    rintro e w' ⟨rfl, ⟨nd, rfl⟩⟩
    refine ⟨_, rfl, ?_⟩
    refine hK.out _ _ hHeld (fun hHeld => ?_)
    clear hK K
    refine norm_ (a' := ?_) ?_ ?_
    rotate_left
    · show Act.put _ (some 18) _ = _
      simp only [Act.put, List.setIfInBounds_toArray, List.set_cons_zero, List.set_cons_succ, i64_w, i32_w]
      rfl
    refine one_ (i := 6) (N := (some 20)) #[true, true, true, true, true, true, true, false] rfl rfl (by kernel_rfl) (by decide) (fun K hK => ?_)
    refine goes_ Try.func147 (by kernel_rfl) rfl #[.int .u64 a0, .int .u64 t, .int .u64 x.2] (by rfl) rfl rfl (by (try simp only [List.map_toArray, List.map_cons, List.map_nil]); first | done | rfl) ?_
    with_reducible refine (field_Plus.calls a0 t x.2 u _ E2.out).mono ?_
    rintro e w' ⟨rfl, ⟨nd2, rfl⟩⟩
    refine ⟨_, rfl, ?_⟩
    refine hK.out _ _ hHeld (fun hHeld => ?_)
    clear hK K
    refine norm_ (a' := ?_) ?_ ?_
    rotate_left
    · show Act.put _ (some 20) _ = _
      simp only [Act.put, List.setIfInBounds_toArray, List.set_cons_zero, List.set_cons_succ, i64_w, i32_w]
      rfl
    refine last_ (i := 7) (N := none) #[true, true, true, true, true, true, true, true] rfl rfl (by kernel_rfl) (by decide) (fun K hK => ?_)
    refine skip_ (w1 := ?_) (by rfl) rfl ?_ ?_
    rotate_left
    · go_simp
      rfl
    refine hK.out _ _ ?_
    clear hK K
    refine done_ (by kernel_rfl) ?_
    clear hHeld
    generalize 1 + nd + nd2 = m
    have hw : (W.drewN m).heap = W.heap := rfl
    have hne1 : w.heap.size ≠ w.heap.size + 1 + 1 := by omega
    have hne2 : w.heap.size + 1 ≠ w.heap.size + 1 + 1 := by omega
    have hne3 : w.heap.size + 1 + 1 + 1 ≠ w.heap.size + 1 + 1 := by omega
    refine ⟨((show KeepsOthers W (W.drewN m) from ⟨Nat.le_refl _, fun _ _ h _ => h⟩).trans (KeepsOthers.setCell _ _ _)).from _, ⟨(pw_below_drewN (Below.refl _ _) m).setCell (p := ⟨w.heap.size + 1 + 1, 0, none⟩) (by show w.heap.size ≤ w.heap.size + 1 + 1; omega) _, ?_⟩, ⟨?_, ?_, u, ?_, ?_⟩, ?_⟩
    · exact Below.heap_setCell (W.drewN m) ⟨w.heap.size + 1 + 1, 0, none⟩ _ _ hne3
    · exact (Below.heap_setCell (W.drewN m) ⟨w.heap.size + 1 + 1, 0, none⟩ _ _ hne1).trans h1
    · exact (Below.heap_setCell (W.drewN m) ⟨w.heap.size + 1 + 1, 0, none⟩ _ _ hne2).trans h2
    · exact Boxed.set (W := W.drewN m) (.int .u64 u) h3
    · rw [List.map_append, List.map_cons, List.map_nil, poly_At.run_snoc, E4.out]
      show poly_At.step a0 a2 v x.2 = _
      unfold poly_At.step
      rw [E1.out]; exact E2.out
    · exact (pw_below_drewN hB m).setCell (p := ⟨w.heap.size + 1 + 1, 0, none⟩) (by show w.heap.size ≤ w.heap.size + 1 + 1; omega) _
  case done =>
    rintro D ys W hD rfl ⟨⟨h1, h2, v, h3, h4⟩, hB⟩ hK
    have d3 := h3.cell
    rw [slices_Backward_uint64_uint64_163_seconds] at h4
    have hv : v = r := Option.some.inj (h4.symm.trans HH.out)
    subst hv
    clear h4
    gi_wp2
    refine ⟨by simp, .inl ⟨_, _, rfl, run_takeDeferred hK, ?_⟩⟩
    exact ⟨_, results_tmp rfl _ _ _, rfl, hB.trans (belowK_b (w := w) (Nat.le_refl _) W D _ _ (by simp at hD; omega) hK rfl rfl)⟩
  case stop =>
    rintro D c pre W _ _ h _
    exact h.elim
end

end Go.Proofs.Ytjjnfobeeflnhaa.J
