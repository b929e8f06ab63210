/- Part 4 of the proof of TwiceMoved: what the functions compute as plain Lean functions, that the machine comes to just these answers, and that the answer is true; no conditions. -/
import Derived.Test.YtjjnfobeeflnhaaTwiceMovedZ0
import Derived.Test.YtjjnfobeeflnhaaTwiceMovedZ1
import Derived.Test.YtjjnfobeeflnhaaTwiceMovedZ2
import Derived.Test.YtjjnfobeeflnhaaTwiceMovedZ3
set_option maxHeartbeats 8000000
set_option maxRecDepth 100000
namespace Go.Proofs.Ytjjnfobeeflnhaa.J
open Go.RowKit Go.Proofs.YtjjnfobeeflnhaaW.PrintWords Go.Proofs.YtjjnfobeeflnhaaW.PrintLast Go.Proofs.YtjjnfobeeflnhaaW.PrintMore
attribute [local go_sem] max2_int min2_int max_two min_two max_three min_three max_four min_four   -- for this text's walks alone
set_option linter.unusedVariables false
set_option linter.unusedSimpArgs false
mutual
def qnb.l0 : Nat → Int → List Int → List Int → List Int → Int → Int → Option (List Int × List Int)
 | 0, _, _, _, _, _, _ => none
 | k + 1, x0, x2, x8, x9, x10, x11 => if x11 ≥ 0 then (if 0 ≤ (wrap64 ((wrap64 (x11 + (x2.length : Int))) - 1)) then (if (wrap64 ((wrap64 (x11 + (x2.length : Int))) - 1)) < (x8.length : Int) then ((field_Times.f x0 (rd x8 (wrap64 ((wrap64 (x11 + (x2.length : Int))) - 1))) x10).bind fun t987 => (if 0 ≤ x11 then (if x11 < (x9.length : Int) then (qnb.l1 k x0 x2 x8 (x9.set (x11 : Int).toNat t987) x10 x11 t987 x2 (x2.length : Int) 0) else (none)) else (none))) else (none)) else (none)) else ((qwa.f k x9).bind fun t980 => ((qwa.f k x8).bind fun t983 => (some (t980, t983))))
def qnb.l1 : Nat → Int → List Int → List Int → List Int → Int → Int → Int → List Int → Int → Int → Option (List Int × List Int)
 | 0, _, _, _, _, _, _, _, _, _, _ => none
 | k + 1, x0, x2, x8, x9, x10, x11, x12, x62, x63, x64 => if x64 < x63 then (if 0 ≤ x64 then (if x64 < (x62.length : Int) then (if 0 ≤ (wrap64 (x11 + x64)) then (if (wrap64 (x11 + x64)) < (x8.length : Int) then ((field_Times.f x0 x12 (rd x62 x64)).bind fun t991 => ((field_Minus.f x0 (rd x8 (wrap64 (x11 + x64))) t991).bind fun t992 => (qnb.l1 k x0 x2 (x8.set ((wrap64 (x11 + x64)) : Int).toNat t992) x9 x10 x11 x12 x62 x63 (wrap64 (x64 + 1))))) else (none)) else (none)) else (none)) else (none)) else (qnb.l0 k x0 x2 x8 x9 x10 (wrap64 (x11 - 1)))
end
def qnb.f (k : Nat) (a0 : Int) (l1 : List Int) (l2 : List Int) : Option (List Int × List Int) := (qwa.f k l1).bind fun t969 => ((qwa.f k l2).bind fun t972 => (if (t969.length : Int) < (t972.length : Int) then (some (([] : List Int), t969)) else (if 0 ≤ (wrap64 ((wrap64 ((t969.length : Int) - (t972.length : Int))) + 1)) then (if (wrap64 ((wrap64 ((t969.length : Int) - (t972.length : Int))) + 1) : Int).toNat ≤ 35184372088832 then ((some (List.replicate (wrap64 ((wrap64 ((t969.length : Int) - (t972.length : Int))) + 1) : Int).toNat 0 : List Int)).bind fun y975 => (if 0 ≤ (wrap64 ((t972.length : Int) - 1)) then (if (wrap64 ((t972.length : Int) - 1)) < (t972.length : Int) then ((field_Over.f k a0 (rd t972 (wrap64 ((t972.length : Int) - 1)))).bind fun t979 => (qnb.l0 k a0 t972 t969 y975 t979 (wrap64 ((y975.length : Int) - 1)))) else (none)) else (none))) else (none)) else (none))))
def qnb.T14 : Bool × List (List Nat × List Nat) := (true, [([], []), ([], []), ([], []), ([1, 2], [1, 2]), ([], []), ([], []), ([], []), ([], []), ([6, 7], [6, 7]), ([5, 8], [5, 8]), ([9], [9]), ([], []), ([], []), ([], []), ([11, 12, 13], [11, 12, 13]), ([4, 10, 14, 14], [4, 10, 14]), ([0, 3, 0, 1, 2, 3, 4, 5, 6, 7, 8, 9, 10, 11, 12, 13, 14, 15], [0, 3]), ([16, 15, 15, 0, 1, 2, 3, 4, 5, 6, 7, 8, 9, 10, 11, 12, 13, 14, 15], [15, 16])])
def qnb.B14 : List Nat := [0, 0, 0, 6, 0, 0, 0, 0, 192, 480, 992, 0, 0, 0, 14336, 32752, 65535, 131071]
theorem qnb.tab14 : rtab .any (opsOf Try.f151 14) = qnb.T14 := by kernel_rfl
theorem qnb.bits14 : waitsOk qnb.T14.2 qnb.B14 = true := by kernel_rfl
theorem qnb.calls (k : Nat) (a0 : Int) (A1 : Option Addr) (c1 : Nat) (l1 : List Int) (A2 : Option Addr) (c2 : Nat) (l2 : List Int) (r1 : List Int) (r2 : List Int) (w : World) (hr1 : Kd.C (Kd.int .u64) w A1 l1.length l1) (hc1 : l1.length ≤ c1) (hr2 : Kd.C (Kd.int .u64) w A2 l2.length l2) (hc2 : l2.length ≤ c2) (h : qnb.f k a0 l1 l2 = some (r1, r2)) :
  Calls Try.prog 151 #[.int .u64 a0, .slice A1 l1.length c1, .slice A2 l2.length c2] w fun e w' => ∃ v0_ v1_ : Value, e = .returned (.tuple #[v0_, v1_]) ∧ Kd.R (Kd.int .u64) 22 w' w.heap.size (fun k_ => some k_ ≠ (v1_ : Value).ownBlock) v0_ r1 ∧ Kd.R (Kd.int .u64) 22 w' w.heap.size (fun k_ => some k_ ≠ (v0_ : Value).ownBlock) v1_ r2 ∧ Below w.heap.size w w' := by
 have HR1 := Aside0.mk hr1
 have HC1 := Aside0.mk hc1
 clear hr1 hc1
 have HR2 := Aside0.mk hr2
 have HC2 := Aside0.mk hc2
 clear hr2 hc2
 have HB := Aside0.mk (Below.refl w.heap.size w)
 have H : ((qwa.f k l1).bind fun t969 => ((qwa.f k l2).bind fun t972 => (if (t969.length : Int) < (t972.length : Int) then (some (([] : List Int), t969)) else (if 0 ≤ (wrap64 ((wrap64 ((t969.length : Int) - (t972.length : Int))) + 1)) then (if (wrap64 ((wrap64 ((t969.length : Int) - (t972.length : Int))) + 1) : Int).toNat ≤ 35184372088832 then ((some (List.replicate (wrap64 ((wrap64 ((t969.length : Int) - (t972.length : Int))) + 1) : Int).toNat 0 : List Int)).bind fun y975 => (if 0 ≤ (wrap64 ((t972.length : Int) - 1)) then (if (wrap64 ((t972.length : Int) - 1)) < (t972.length : Int) then ((field_Over.f k a0 (rd t972 (wrap64 ((t972.length : Int) - 1)))).bind fun t979 => (qnb.l0 k a0 t972 t969 y975 t979 (wrap64 ((y975.length : Int) - 1)))) else (none)) else (none))) else (none)) else (none))))) = some (r1, r2) := h
 clear h
 replace H := Option.bind_eq_some_iff.mp H
 obtain ⟨t969, A40, H⟩ := H
 try dsimp only at H
 have A4 := Aside0.mk A40
 clear A40
 replace H := Option.bind_eq_some_iff.mp H
 obtain ⟨t972, A50, H⟩ := H
 try dsimp only at H
 have A5 := Aside0.mk A50
 clear A50
 by_cases c6 : (t969.length : Int) < (t972.length : Int)
 ·rw [if_pos c6] at H
  have c6b0 : decide ((t969.length : Int) < (t972.length : Int)) = true := decide_eq_true c6
  have c6b1 : decide (t969.length < t972.length) = true := decide_eq_true (Int.ofNat_lt.mp c6)
  clear c6
  simp only [Option.some.injEq, Prod.mk.injEq] at H
  obtain ⟨rfl, rfl⟩ := H
  go_enter Try.func151, Try.ntmps151
  go_wp2_with (first | ((with_reducible refine qoa (f := 127) rfl ?_); refine goesL_ (some 16) rfl rfl Try.func127 (by kernel_rfl) rfl #[.slice A1 l1.length c1] rfl (by (try simp only [qM1, qM2, qM3]); first | done | rfl) ?_; (with_reducible refine (qwa.calls k _ _ l1 t969 _ ?side1 ?side2 A4.out).mono ?_); (case side1 => repeat (first | exact HR1.out | (with_reducible first | refine Kd.C_alloc ?_ _ | refine Kd.C_drewN ?_ _ | refine Kd.C_drew ?_))); (case side2 => exact HC1.out); rintro e w7 ⟨v970, rfl, ho0, hb⟩; refine ⟨_, rfl, ?_⟩; have n0_ := Aside0.mk (Kd.R_lower ho0 (qka (by with_reducible repeat first | exact HB.out | apply qca | apply qba | apply qda))); have n1_ := Aside0.mk (qla (by with_reducible repeat first | exact HB.out | apply qca | apply qba | apply qda) hb); clear HB; have HO971 := n0_; have HB := n1_; clear n0_ n1_; (try clear hb); (try clear hb2); (try clear hk); (try clear hi); (try clear ho0)) | ((with_reducible refine qoa (f := 127) rfl ?_); refine goesL_ (some 18) rfl rfl Try.func127 (by kernel_rfl) rfl #[.slice A2 l2.length c2] rfl (by (try simp only [qM1, qM2, qM3]); first | done | rfl) ?_; (with_reducible refine (qwa.calls k _ _ l2 t972 _ ?side1 ?side2 A5.out).mono ?_); (case side1 => repeat (first | exact (Kd.C_below HR2.out HB.out) | (with_reducible first | refine Kd.C_alloc ?_ _ | refine Kd.C_drewN ?_ _ | refine Kd.C_drew ?_))); (case side2 => exact HC2.out); rintro e w8 ⟨v973, rfl, ho0, hb⟩; refine ⟨_, rfl, ?_⟩; have n0_ := Aside0.mk (Kd.R_elder' (by (with_reducible repeat first | apply Kd.qja | apply Kd.qia | apply Kd.R_drew); exact HO971.out) (Kd.R_base ho0) hb); have n1_ := Aside0.mk (Kd.R_lower (Kd.R_new' ho0 (Kd.R_lt (by (with_reducible repeat first | apply Kd.qja | apply Kd.qia | apply Kd.R_drew); exact HO971.out))) (qka (by with_reducible repeat first | exact HB.out | apply qca | apply qba | apply qda))); have n2_ := Aside0.mk (qla (by with_reducible repeat first | exact HB.out | apply qca | apply qba | apply qda) hb); clear HO971; clear HB; have HO971 := n0_; have HO974 := n1_; have HB := n2_; clear n0_ n1_ n2_; (try clear hb); (try clear hb2); (try clear hk); (try clear hi); (try clear ho0); obtain ⟨Ao9, co9, eo9⟩ := Kd.R_slice HO971.out; subst eo9; obtain ⟨Ao10, co10, eo10⟩ := Kd.R_slice HO974.out; subst eo10))
  go_ret2
  exact ⟨_, _, by first | rfl | (simp [errW_none, errW_some] <;> rfl) | (simp [*, errW_none, errW_some] <;> rfl), by first | exact Kd.R_nil _ _ _ _ _ | exact Kd.N_nil _ _ _ _ _ | exact Kd.V_nil _ _ _ _ _ | exact Kd.Q_nil _ _ _ _ _ | exact Kd.S_nil _ _ _ _ _, by (with_reducible repeat first | apply Kd.qja | apply Kd.qia | apply Kd.R_drew); exact Kd.R_mono HO971.out (fun _ hk => (by simp [Value.ownBlock])), by repeat (first | (with_reducible first | exact HB.out | apply qca | apply qba | apply qda) | exact HB.out)⟩
 ·rw [if_neg c6] at H
  have c6b0 : decide ((t969.length : Int) < (t972.length : Int)) = false := decide_eq_false c6
  have c6b1 : decide (t969.length < t972.length) = false := decide_eq_false (fun h => c6 (Int.ofNat_lt.mpr h))
  clear c6
  obtain ⟨ji11, hji11⟩ : ∃ j_ : Int, (wrap64 ((wrap64 ((t969.length : Int) - (t972.length : Int))) + 1)) = j_ := ⟨_, rfl⟩
  replace H : (if 0 ≤ (ji11) then (if (ji11 : Int).toNat ≤ 35184372088832 then ((some (List.replicate (ji11 : Int).toNat 0 : List Int)).bind fun y975 => (if 0 ≤ (wrap64 ((t972.length : Int) - 1)) then (if (wrap64 ((t972.length : Int) - 1)) < (t972.length : Int) then ((field_Over.f k a0 (rd t972 (wrap64 ((t972.length : Int) - 1)))).bind fun t979 => (qnb.l0 k a0 t972 t969 y975 t979 (wrap64 ((y975.length : Int) - 1)))) else (none)) else (none))) else (none)) else (none)) = some (r1, r2) := by first | (rw [hji11] at H; exact H) | (simp only [hji11] at H ⊢; exact H)
  (try rw [hji11] at A4)
  (try rw [hji11] at A5)
  have hji11w : (IntKind.i64.wrap ((wrap64 ((t969.length : Int) - (t972.length : Int))) + 1)) = ji11 := (i64_w _).trans hji11
  by_cases c12 : 0 ≤ (ji11)
  ·rw [if_pos c12] at H
   have c12b0 := eq_true c12
   have c12b1 : decide (0 ≤ (ji11)) = true := decide_eq_true c12
   clear c12
   by_cases c13 : (ji11 : Int).toNat ≤ 35184372088832
   ·rw [if_pos c13] at H
    have c13b0 := eq_true c13
    have c13b1 : decide ((ji11 : Int).toNat ≤ 35184372088832) = true := decide_eq_true c13
    clear c13
    obtain ⟨y975, hy975⟩ : ∃ y_ : List Int, y_ = (List.replicate (ji11 : Int).toNat 0) := ⟨_, rfl⟩
    replace H : (if 0 ≤ (wrap64 ((t972.length : Int) - 1)) then (if (wrap64 ((t972.length : Int) - 1)) < (t972.length : Int) then ((field_Over.f k a0 (rd t972 (wrap64 ((t972.length : Int) - 1)))).bind fun t979 => (qnb.l0 k a0 t972 t969 y975 t979 (wrap64 ((y975.length : Int) - 1)))) else (none)) else (none)) = some (r1, r2) := by first | (rw [hy975]; with_reducible exact H) | (have H2_ := (Option.bind_some _ _).symm.trans H; rw [hy975]; with_reducible exact H2_) | (have H2_ := (Option.bind_some _ _).symm.trans H; with_reducible exact H2_) | with_reducible exact H | (rw [hy975]; exact H) | exact H
    have Ny975 := Aside0.mk hy975
    clear hy975
    obtain ⟨ji14, hji14⟩ : ∃ j_ : Int, (wrap64 ((t972.length : Int) - 1)) = j_ := ⟨_, rfl⟩
    replace H : (if 0 ≤ (ji14) then (if (ji14) < (t972.length : Int) then ((field_Over.f k a0 (rd t972 (ji14))).bind fun t979 => (qnb.l0 k a0 t972 t969 y975 t979 (wrap64 ((y975.length : Int) - 1)))) else (none)) else (none)) = some (r1, r2) := by first | (rw [hji14] at H; exact H) | (simp only [hji14] at H ⊢; exact H)
    (try rw [hji14] at A4)
    (try rw [hji14] at A5)
    have hji14w : (IntKind.i64.wrap ((t972.length : Int) - 1)) = ji14 := (i64_w _).trans hji14
    by_cases c15 : 0 ≤ (ji14)
    ·rw [if_pos c15] at H
     have c15b0 : decide (0 ≤ (ji14)) = true := decide_eq_true c15
     clear c15
     by_cases c16 : (ji14) < (t972.length : Int)
     ·rw [if_pos c16] at H
      have c16b0 : decide ((ji14) < (t972.length : Int)) = true := decide_eq_true c16
      clear c16
      replace H := Option.bind_eq_some_iff.mp H
      obtain ⟨t979, A170, H⟩ := H
      try dsimp only at H
      have A17 := Aside0.mk A170
      clear A170
      have H' := Aside0.mk H
      clear H
      go_enter Try.func151, Try.ntmps151
      go_wp2_with (first | ((with_reducible refine qoa (f := 127) rfl ?_); refine goesL_ (some 16) rfl rfl Try.func127 (by kernel_rfl) rfl #[.slice A1 l1.length c1] rfl (by (try simp only [qM1, qM2, qM3]); first | done | rfl) ?_; (with_reducible refine (qwa.calls k _ _ l1 t969 _ ?side1 ?side2 A4.out).mono ?_); (case side1 => repeat (first | exact HR1.out | (with_reducible first | refine Kd.C_alloc ?_ _ | refine Kd.C_drewN ?_ _ | refine Kd.C_drew ?_))); (case side2 => exact HC1.out); rintro e w18 ⟨v970, rfl, ho0, hb⟩; refine ⟨_, rfl, ?_⟩; have n0_ := Aside0.mk (Kd.R_lower ho0 (qka (by with_reducible repeat first | exact HB.out | apply qca | apply qba | apply qda))); have n1_ := Aside0.mk (qla (by with_reducible repeat first | exact HB.out | apply qca | apply qba | apply qda) hb); clear HB; have HO971 := n0_; have HB := n1_; clear n0_ n1_; (try clear hb); (try clear hb2); (try clear hk); (try clear hi); (try clear ho0)) | ((with_reducible refine qoa (f := 127) rfl ?_); refine goesL_ (some 18) rfl rfl Try.func127 (by kernel_rfl) rfl #[.slice A2 l2.length c2] rfl (by (try simp only [qM1, qM2, qM3]); first | done | rfl) ?_; (with_reducible refine (qwa.calls k _ _ l2 t972 _ ?side1 ?side2 A5.out).mono ?_); (case side1 => repeat (first | exact (Kd.C_below HR2.out HB.out) | (with_reducible first | refine Kd.C_alloc ?_ _ | refine Kd.C_drewN ?_ _ | refine Kd.C_drew ?_))); (case side2 => exact HC2.out); rintro e w19 ⟨v973, rfl, ho0, hb⟩; refine ⟨_, rfl, ?_⟩; have n0_ := Aside0.mk (Kd.R_elder' (by (with_reducible repeat first | apply Kd.qja | apply Kd.qia | apply Kd.R_drew); exact HO971.out) (Kd.R_base ho0) hb); have n1_ := Aside0.mk (Kd.R_lower (Kd.R_new' ho0 (Kd.R_lt (by (with_reducible repeat first | apply Kd.qja | apply Kd.qia | apply Kd.R_drew); exact HO971.out))) (qka (by with_reducible repeat first | exact HB.out | apply qca | apply qba | apply qda))); have n2_ := Aside0.mk (qla (by with_reducible repeat first | exact HB.out | apply qca | apply qba | apply qda) hb); clear HO971; clear HB; have HO971 := n0_; have HO974 := n1_; have HB := n2_; clear n0_ n1_ n2_; (try clear hb); (try clear hb2); (try clear hk); (try clear hi); (try clear ho0); obtain ⟨Ao20, co20, eo20⟩ := Kd.R_slice HO971.out; subst eo20; obtain ⟨Ao21, co21, eo21⟩ := Kd.R_slice HO974.out; subst eo21) | ((with_reducible refine gate_dst (N := 31) rfl ?_); refine Kd.R_make (Kd.int .u64) _ 22 rfl (N := 31) rfl 31 _ _ rfl ji11 rfl rfl Try.underlying31 (.int .u64 0) 8 info22 rfl (by decide) (by omega) 0 (ok := fun _ => True) (okp := fun _ => True) rfl (fun _ hk => hk) trivial (of_decide_eq_true (by first | (with_reducible assumption) | assumption)) (Nat.le_trans (Nat.mul_le_mul_right _ (of_decide_eq_true (by first | (with_reducible assumption) | assumption) : ji11.toNat ≤ 35184372088832)) (by omega)) (Below.refl _ _) (Nat.le_refl _) ?_; intro v976 w22 ho23 hb hg_ hnew_; clear hg_ hnew_; (first | rw [← Ny975.out] at ho23 | (simp only [Int.reduceToNat] at ho23; rw [← Ny975.out] at ho23)); have n0_ := Aside0.mk (Kd.R_elder' (by (with_reducible repeat first | apply Kd.qja | apply Kd.qia | apply Kd.R_drew); exact HO971.out) (Kd.R_base ho23) hb); have n1_ := Aside0.mk (Kd.R_elder' (by (with_reducible repeat first | apply Kd.qja | apply Kd.qia | apply Kd.R_drew); exact HO974.out) (Kd.R_base ho23) hb); have n2_ := Aside0.mk (Kd.R_lower (Kd.R_new' (Kd.R_new' ho23 (Kd.R_lt (by (with_reducible repeat first | apply Kd.qja | apply Kd.qia | apply Kd.R_drew); exact HO971.out))) (Kd.R_lt (by (with_reducible repeat first | apply Kd.qja | apply Kd.qia | apply Kd.R_drew); exact HO974.out))) (qka (by with_reducible repeat first | exact HB.out | apply qca | apply qba | apply qda))); have n3_ := Aside0.mk (qla (by with_reducible repeat first | exact HB.out | apply qca | apply qba | apply qda) hb); clear HO971; clear HO974; clear HB; have HO971 := n0_; have HO974 := n1_; have HO977 := n2_; have HB := n3_; clear n0_ n1_ n2_ n3_; clear hb ho23; have p978 : 0 ≤ ((ji14) : Int) := of_decide_eq_true (by first | (with_reducible assumption) | assumption); have q978 : (ji14) < (t972.length : Int) := of_decide_eq_true (by first | (with_reducible assumption) | assumption); obtain ⟨ad978, e978, hx978_0⟩ := Kd.at_int (Kd.R_reads' HO974.out).2.2 (ji14) p978 q978; cases e978; replace p978 := eq_true p978; replace q978 := eq_true q978) | ((with_reducible refine qoa (f := 159) rfl ?_); refine goesL_ (some 39) rfl rfl Try.func159 (by kernel_rfl) rfl #[.int .u64 a0, .int .u64 (rd t972 (ji14))] rfl (by (try simp only [qM1, qM2, qM3]); first | done | (simp only [hji14]; rfl) | rfl | (simp only [List.length_drop, List.length_take]; rfl)) ?_; (with_reducible refine (field_Over.calls k a0 (rd t972 (ji14)) t979 _ A17.out).mono ?_); rintro e w' ⟨rfl, ⟨nd, rfl⟩⟩; refine ⟨_, rfl, ?_⟩; obtain ⟨Ao24, co24, eo24⟩ := Kd.R_slice HO977.out; subst eo24))
      go_loopg [11] k (fun kq v11 w' => ∃ (x8_1 : List Int) (x9_1 : List Int) (x11_1 : Int), v11 = .int .i64 x11_1 ∧ Aside0 (qnb.l0 kq a0 t972 x8_1 x9_1 t979 x11_1 = some (r1, r2)) ∧ Aside0 (kq ≤ k) ∧ Aside0 (Kd.R (Kd.int .u64) 22 w' w.heap.size (fun k_ => some k_ ≠ ((.slice Ao20 t969.length co20) : Value).ownBlock ∧ some k_ ≠ ((.slice Ao24 y975.length co24) : Value).ownBlock) (.slice (some ad978) t972.length co21) t972) ∧ Aside0 (Kd.R (Kd.int .u64) 22 w' w.heap.size (fun k_ => some k_ ≠ ((.slice (some ad978) t972.length co21) : Value).ownBlock ∧ some k_ ≠ ((.slice Ao24 y975.length co24) : Value).ownBlock) (.slice Ao20 t969.length co20) x8_1) ∧ Aside0 (Kd.R (Kd.int .u64) 22 w' w.heap.size (fun k_ => some k_ ≠ ((.slice (some ad978) t972.length co21) : Value).ownBlock ∧ some k_ ≠ ((.slice Ao20 t969.length co20) : Value).ownBlock) (.slice Ao24 y975.length co24) x9_1) ∧ Aside0 (Below w.heap.size w w'))
      case atStart => exact ⟨(t969), (y975), (wrap64 ((y975.length : Int) - 1)), (by first | rfl | (simp; done) | (simp [*]; done)), H', ⟨Nat.le_refl _⟩, ⟨by (with_reducible repeat first | apply Kd.qja | apply Kd.qia | apply Kd.R_drew); exact Kd.R_mono HO974.out (fun _ hk => ⟨hk.1.2, hk.2⟩)⟩, ⟨by (with_reducible repeat first | apply Kd.qja | apply Kd.qia | apply Kd.R_drew); exact Kd.R_mono HO971.out (fun _ hk => ⟨hk.1.2, hk.2⟩)⟩, ⟨by (with_reducible repeat first | apply Kd.qja | apply Kd.qia | apply Kd.R_drew); exact Kd.R_mono HO977.out (fun _ hk => ⟨hk.2, hk.1.2⟩)⟩, ⟨by repeat (first | (with_reducible first | exact HB.out | apply qca | apply qba | apply qda) | exact HB.out)⟩⟩
      case round =>
       clear H'; (try clear c1); (try clear c2); (try clear p2); (try clear c6); (try clear c6b0); (try clear c6b1); (try clear p6); (try clear p9); (try clear q9); (try clear hx9); (try clear c12); (try clear c12b0); (try clear c12b1); (try clear c13); (try clear c13b0); (try clear c13b1); (try clear c15); (try clear c15b0); (try clear c16); (try clear c16b0); (try clear hx978_0); (try clear p978); (try clear q978)
       obtain ⟨x8_1, x9_1, x11_1, rfl, HA, HK1, HO_2, HO_8, HO_9, HB⟩ := hrel
       have hl8_1 := (Kd.R_reads' HO_8.out).1
       rw [hl8_1] at HO_8
       (try simp only [hl8_1])
       (try simp only [hl8_1] at HO_2)
       (try simp only [hl8_1] at HO_9)
       have hl9_1 := (Kd.R_reads' HO_9.out).1
       rw [hl9_1] at HO_9
       (try simp only [hl9_1])
       (try simp only [hl9_1] at HO_2)
       (try simp only [hl9_1] at HO_8)
       cases gk with
       | zero => exact absurd HA.out (by simp [qnb.l0])
       | succ k1 =>
        have H := HA.out
        clear HA
        simp only [qnb.l0] at H
        by_cases c25 : x11_1 ≥ 0
        ·rw [if_pos c25] at H
         have c25b0 : decide (0 ≤ x11_1) = true := decide_eq_true c25
         clear c25
         obtain ⟨ji26, hji26⟩ : ∃ j_ : Int, (wrap64 ((wrap64 (x11_1 + (t972.length : Int))) - 1)) = j_ := ⟨_, rfl⟩
         replace H : (if 0 ≤ (ji26) then (if (ji26) < (x8_1.length : Int) then ((field_Times.f a0 (rd x8_1 (ji26)) t979).bind fun t987 => (if 0 ≤ x11_1 then (if x11_1 < (x9_1.length : Int) then (qnb.l1 k1 a0 t972 x8_1 (x9_1.set (x11_1 : Int).toNat t987) t979 x11_1 t987 t972 (t972.length : Int) 0) else (none)) else (none))) else (none)) else (none)) = some (r1, r2) := by first | (rw [hji26] at H; exact H) | (simp only [hji26] at H ⊢; exact H)
         have hji26w : (IntKind.i64.wrap ((wrap64 (x11_1 + (t972.length : Int))) - 1)) = ji26 := (i64_w _).trans hji26
         by_cases c27 : 0 ≤ (ji26)
         ·rw [if_pos c27] at H
          have c27b0 : decide (0 ≤ (ji26)) = true := decide_eq_true c27
          clear c27
          by_cases c28 : (ji26) < (x8_1.length : Int)
          ·rw [if_pos c28] at H
           have c28b0 : decide ((ji26) < (x8_1.length : Int)) = true := decide_eq_true c28
           clear c28
           replace H := Option.bind_eq_some_iff.mp H
           obtain ⟨t987, A290, H⟩ := H
           try dsimp only at H
           have A29 := Aside0.mk A290
           clear A290
           by_cases c30 : 0 ≤ x11_1
           ·rw [if_pos c30] at H
            have c30b0 : decide (0 ≤ x11_1) = true := decide_eq_true c30
            clear c30
            by_cases c31 : x11_1 < (x9_1.length : Int)
            ·rw [if_pos c31] at H
             have c31b0 : decide (x11_1 < (x9_1.length : Int)) = true := decide_eq_true c31
             first | (have c31b9 : decide (x11_1 < (x9_1.length : Int)) = true := by rw [← hl9_1]; exact c31b0) | skip
             clear c31
             obtain ⟨y988, hy988⟩ : ∃ y_ : List Int, y_ = (x9_1.set (x11_1 : Int).toNat t987) := ⟨_, rfl⟩
             replace H : (qnb.l1 k1 a0 t972 x8_1 y988 t979 x11_1 t987 t972 (t972.length : Int) 0) = some (r1, r2) := by first | (rw [hy988]; with_reducible exact H) | (have H2_ := (Option.bind_some _ _).symm.trans H; rw [hy988]; with_reducible exact H2_) | (have H2_ := (Option.bind_some _ _).symm.trans H; with_reducible exact H2_) | with_reducible exact H | (rw [hy988]; exact H) | exact H
             have Ny988 := Aside0.mk hy988
             clear hy988
             have H' := Aside0.mk H
             clear H
             have p986 : 0 ≤ ((ji26) : Int) := of_decide_eq_true (by first | (with_reducible assumption) | assumption)
             have q986 : (ji26) < (x8_1.length : Int) := of_decide_eq_true (by first | (with_reducible assumption) | assumption)
             obtain ⟨ad986, e986, hx986_0⟩ := Kd.at_int (Kd.R_reads' HO_8.out).2.2 (ji26) p986 q986
             cases e986
             replace p986 := eq_true p986; replace q986 := eq_true q986
             go_wp2_with (first | ((with_reducible refine qoa (f := 148) rfl ?_); refine goesL_ (some 57) rfl rfl Try.func148 (by kernel_rfl) rfl #[.int .u64 a0, .int .u64 (rd x8_1 (ji26)), .int .u64 t979] rfl (by (try simp only [qM1, qM2, qM3]); first | done | (simp only [hji26]; rfl) | rfl | (simp only [List.length_drop, List.length_take]; rfl)) ?_; (with_reducible refine (field_Times.calls a0 (rd x8_1 (ji26)) t979 t987 _ A29.out).mono ?_); rintro e w' ⟨rfl, ⟨nd, rfl⟩⟩; refine ⟨_, rfl, ?_⟩; (try (rw [drewN_self wr]; generalize hq_ : World.drewN wr _ = wr; have n0_ : Aside0 (Kd.R (Kd.int .u64) 22 wr w.heap.size (fun k_ => some k_ ≠ (.slice (some ad986) x8_1.length co20 : Value).ownBlock ∧ some k_ ≠ (.slice Ao24 x9_1.length co24 : Value).ownBlock) (.slice (some ad978) t972.length co21) t972) := ⟨by rw [← hq_]; exact (by (with_reducible repeat first | apply Kd.qja | apply Kd.qia | apply Kd.R_drew); exact HO_2.out)⟩; have n1_ : Aside0 (Kd.R (Kd.int .u64) 22 wr w.heap.size (fun k_ => some k_ ≠ (.slice (some ad978) t972.length co21 : Value).ownBlock ∧ some k_ ≠ (.slice Ao24 x9_1.length co24 : Value).ownBlock) (.slice (some ad986) x8_1.length co20) x8_1) := ⟨by rw [← hq_]; exact (by (with_reducible repeat first | apply Kd.qja | apply Kd.qia | apply Kd.R_drew); exact HO_8.out)⟩; have n2_ : Aside0 (Kd.R (Kd.int .u64) 22 wr w.heap.size (fun k_ => some k_ ≠ (.slice (some ad978) t972.length co21 : Value).ownBlock ∧ some k_ ≠ (.slice (some ad986) x8_1.length co20 : Value).ownBlock) (.slice Ao24 x9_1.length co24) x9_1) := ⟨by rw [← hq_]; exact (by (with_reducible repeat first | apply Kd.qja | apply Kd.qia | apply Kd.R_drew); exact HO_9.out)⟩; have n3_ : Aside0 (Below w.heap.size w wr) := ⟨by rw [← hq_]; exact (by with_reducible repeat first | exact HB.out | apply qca | apply qba | apply qda)⟩; clear HO_2 HO_8 HO_9 HB hq_; have HO_2 := n0_; have HO_8 := n1_; have HO_9 := n2_; have HB := n3_; clear n0_ n1_ n2_ n3_)); have p32 : 0 ≤ (x11_1 : Int) := of_decide_eq_true (by first | (with_reducible assumption) | assumption); have q32 : (x11_1 : Int) < ((x9_1.length : Int) : Int) := of_decide_eq_true (by first | (with_reducible assumption) | assumption); obtain ⟨go32, co32, eo32, gb32, gl32, cl32, HG32⟩ := Kd.R_form HO_9.out (by omega); (first | cases eo32 | (injection eo32 with ea_ en_ ec_; (first | subst ea_ | (injection ea_ with ea_; subst ea_)); subst ec_; clear en_)); have GB32 := Aside0.mk gb32; have GG32 := Aside0.mk HG32; clear gb32 gl32 HG32; obtain ⟨hx32_0, hf32_0⟩ := Kd.R_celln 0 HO_9.out (x11_1 : Int) p32 q32; replace p32 := eq_true p32; replace q32 := eq_true q32; obtain ⟨hy33_, hz33_⟩ := Kd.R_celln 0 HO_9.out (x11_1 : Int) (of_decide_eq_true (by first | (with_reducible assumption) | assumption)) (of_decide_eq_true (by first | (with_reducible assumption) | assumption)); have HP33 := Kd.R_putg HO_9.out (x11_1 : Int) t987) | ((with_reducible refine gate_store (t := 22) (p := 61) rfl ?_); refine store_event (t := 22) (p := 61) (v := ?vo_w34) (w1 := (wr.setCell ⟨go32, (x11_1 : Int).toNat, none⟩ (.int .u64 t987))) ?hg ?ho ?hn ?hr ?_; (case ho => rfl); (case hg => rfl); (case hn => rfl); (case hr => first | (go_simp; done) | (go_simp; rfl)); intro w34 hw; have hg : wr.grownBy w34 (some go32) := (by rw [hw]; exact HP33.2); have hp_ : Kd.R (Kd.int .u64) 22 w34 w.heap.size (fun k_ => some k_ ≠ (.slice (some ad978) t972.length co21 : Value).ownBlock ∧ some k_ ≠ (.slice (some ad986) x8_1.length co20 : Value).ownBlock) (.slice (some ⟨go32, 0, none⟩) x9_1.length co24) y988 := (by rw [hw, Ny988.out]; exact HP33.1); clear HP33; have n0_ := Aside0.mk (Kd.R_after (v := (.slice (some ⟨go32, 0, none⟩) x9_1.length co24)) (v1 := (.slice (some ⟨go32, 0, none⟩) x9_1.length co24)) (ok := (fun k_ => some k_ ≠ (.slice (some ad986) x8_1.length co20 : Value).ownBlock)) (by (with_reducible repeat first | apply Kd.qja | apply Kd.qia | apply Kd.R_drew); exact HO_2.out) hg (.inl rfl)); have n1_ := Aside0.mk (Kd.R_after (v := (.slice (some ⟨go32, 0, none⟩) x9_1.length co24)) (v1 := (.slice (some ⟨go32, 0, none⟩) x9_1.length co24)) (ok := (fun k_ => some k_ ≠ (.slice (some ad978) t972.length co21 : Value).ownBlock)) (by (with_reducible repeat first | apply Kd.qja | apply Kd.qia | apply Kd.R_drew); exact HO_8.out) hg (.inl rfl)); have n2_ := Aside0.mk (hp_); have n3_ := Aside0.mk ((by rw [hw]; exact qha (HB.out) GB32.out : Below w.heap.size w w34)); clear HO_2; clear HO_8; clear HO_9; clear HB; have HO_2 := n0_; have HO_8 := n1_; have HO_9 := n2_; have HB := n3_; clear n0_ n1_ n2_ n3_; clear hg hw hp_))
             go_loopg [64] k1 (fun kq v64 w' => ∃ (x8_2 : List Int) (x64_2 : Int), v64 = .int .i64 x64_2 ∧ Aside0 (qnb.l1 kq a0 t972 x8_2 y988 t979 x11_1 t987 t972 (t972.length : Int) x64_2 = some (r1, r2)) ∧ Aside0 (kq ≤ k1) ∧ Aside0 (Kd.R (Kd.int .u64) 22 w' w.heap.size (fun k_ => some k_ ≠ ((.slice (some ad986) x8_1.length co20) : Value).ownBlock ∧ some k_ ≠ ((.slice (some ⟨go32, 0, none⟩) x9_1.length co24) : Value).ownBlock) (.slice (some ad978) t972.length co21) t972) ∧ Aside0 (Kd.R (Kd.int .u64) 22 w' w.heap.size (fun k_ => some k_ ≠ ((.slice (some ad978) t972.length co21) : Value).ownBlock ∧ some k_ ≠ ((.slice (some ⟨go32, 0, none⟩) x9_1.length co24) : Value).ownBlock ∧ some k_ ≠ ((.slice (some ad978) t972.length co21) : Value).ownBlock) (.slice (some ad986) x8_1.length co20) x8_2) ∧ Aside0 (Kd.R (Kd.int .u64) 22 w' w.heap.size (fun k_ => some k_ ≠ ((.slice (some ad978) t972.length co21) : Value).ownBlock ∧ some k_ ≠ ((.slice (some ad986) x8_1.length co20) : Value).ownBlock ∧ some k_ ≠ ((.slice (some ad978) t972.length co21) : Value).ownBlock) (.slice (some ⟨go32, 0, none⟩) x9_1.length co24) y988) ∧ Aside0 (Kd.R (Kd.int .u64) 22 w' w.heap.size (fun k_ => some k_ ≠ ((.slice (some ad986) x8_1.length co20) : Value).ownBlock ∧ some k_ ≠ ((.slice (some ⟨go32, 0, none⟩) x9_1.length co24) : Value).ownBlock) (.slice (some ad978) t972.length co21) t972) ∧ Aside0 (Below w.heap.size w w'))
             case atStart => exact ⟨(x8_1), (0), (by first | rfl | (simp; done) | (simp [*]; done)), H', ⟨Nat.le_refl _⟩, ⟨by (try simp only [hl8_1]); (try simp only [hl9_1]); (with_reducible repeat first | apply Kd.qja | apply Kd.qia | apply Kd.R_drew); exact HO_2.out⟩, ⟨by (try simp only [hl8_1]); (try simp only [hl9_1]); (with_reducible repeat first | apply Kd.qja | apply Kd.qia | apply Kd.R_drew); exact Kd.R_mono HO_8.out (fun _ hk => ⟨hk.1, ⟨hk.2, hk.1⟩⟩)⟩, ⟨by (try simp only [hl8_1]); (try simp only [hl9_1]); (with_reducible repeat first | apply Kd.qja | apply Kd.qia | apply Kd.R_drew); exact Kd.R_mono HO_9.out (fun _ hk => ⟨hk.1, ⟨hk.2, hk.1⟩⟩)⟩, ⟨by (try simp only [hl8_1]); (try simp only [hl9_1]); (with_reducible repeat first | apply Kd.qja | apply Kd.qia | apply Kd.R_drew); exact HO_2.out⟩, ⟨by repeat (first | (with_reducible first | exact HB.out | apply qca | apply qba | apply qda) | exact HB.out)⟩⟩
             case round =>
              clear H'; (try clear c1); (try clear c2); (try clear p2); (try clear c3); (try clear p3); (try clear q3); (try clear hx3); (try clear hf3); (try clear c6); (try clear c6b0); (try clear c6b1); (try clear p6); (try clear p9); (try clear q9); (try clear hx9); (try clear c12); (try clear c12b0); (try clear c12b1); (try clear c13); (try clear c13b0); (try clear c13b1); (try clear c14); (try clear c15); (try clear c15b0); (try clear c16); (try clear c16b0); (try clear c25); (try clear c25b0); (try clear c27); (try clear c27b0); (try clear c28); (try clear c28b0); (try clear c30); (try clear c30b0); (try clear c31); (try clear c31b0); (try clear p32); (try clear q32); (try clear hx32); (try clear hf32); (try clear hx32_0); (try clear hx978_0); (try clear hx986_0); (try clear p2); (try clear p32); (try clear p6); (try clear p9); (try clear p978); (try clear p986); (try clear q32); (try clear q9); (try clear q978); (try clear q986)
              obtain ⟨x8_2, x64_2, rfl, HA, HK2, HO_2, HO_8, HO_9, HO_62, HB⟩ := hrel
              have hl8_2 := (Kd.R_reads' HO_8.out).1
              rw [hl8_2] at HO_8
              (try simp only [hl8_2])
              (try simp only [hl8_2] at HO_2)
              (try simp only [hl8_2] at HO_9)
              (try simp only [hl8_2] at HO_62)
              have hl9_2 := (Kd.R_reads' HO_9.out).1
              rw [hl9_2] at HO_9
              (try simp only [hl9_2])
              (try simp only [hl9_2] at HO_2)
              (try simp only [hl9_2] at HO_8)
              (try simp only [hl9_2] at HO_62)
              cases gk with
              | zero => exact absurd HA.out (by simp [qnb.l1])
              | succ k2 =>
               have H := HA.out
               clear HA
               simp only [qnb.l1] at H
               by_cases c35 : x64_2 < (t972.length : Int)
               ·rw [if_pos c35] at H
                have c35b0 : decide (x64_2 < (t972.length : Int)) = true := decide_eq_true c35
                clear c35
                by_cases c36 : 0 ≤ x64_2
                ·rw [if_pos c36] at H
                 have c36b0 : decide (0 ≤ x64_2) = true := decide_eq_true c36
                 clear c36
                 by_cases c37 : x64_2 < (t972.length : Int)
                 ·rw [if_pos c37] at H
                  have c37b0 : decide (x64_2 < (t972.length : Int)) = true := decide_eq_true c37
                  clear c37
                  obtain ⟨ji38, hji38⟩ : ∃ j_ : Int, (wrap64 (x11_1 + x64_2)) = j_ := ⟨_, rfl⟩
                  replace H : (if 0 ≤ (ji38) then (if (ji38) < (x8_2.length : Int) then ((field_Times.f a0 t987 (rd t972 x64_2)).bind fun t991 => ((field_Minus.f a0 (rd x8_2 (ji38)) t991).bind fun t992 => (qnb.l1 k2 a0 t972 (x8_2.set ((ji38) : Int).toNat t992) y988 t979 x11_1 t987 t972 (t972.length : Int) (wrap64 (x64_2 + 1))))) else (none)) else (none)) = some (r1, r2) := by first | (rw [hji38] at H; exact H) | (simp only [hji38] at H ⊢; exact H)
                  have hji38w : (IntKind.i64.wrap (x11_1 + x64_2)) = ji38 := (i64_w _).trans hji38
                  by_cases c39 : 0 ≤ (ji38)
                  ·rw [if_pos c39] at H
                   have c39b0 : decide (0 ≤ (ji38)) = true := decide_eq_true c39
                   clear c39
                   by_cases c40 : (ji38) < (x8_2.length : Int)
                   ·rw [if_pos c40] at H
                    have c40b0 : decide ((ji38) < (x8_2.length : Int)) = true := decide_eq_true c40
                    clear c40
                    replace H := Option.bind_eq_some_iff.mp H
                    obtain ⟨t991, A410, H⟩ := H
                    try dsimp only at H
                    have A41 := Aside0.mk A410
                    clear A410
                    replace H := Option.bind_eq_some_iff.mp H
                    obtain ⟨t992, A420, H⟩ := H
                    try dsimp only at H
                    have A42 := Aside0.mk A420
                    clear A420
                    obtain ⟨y993, hy993⟩ : ∃ y_ : List Int, y_ = (x8_2.set ((ji38) : Int).toNat t992) := ⟨_, rfl⟩
                    replace H : (qnb.l1 k2 a0 t972 y993 y988 t979 x11_1 t987 t972 (t972.length : Int) (wrap64 (x64_2 + 1))) = some (r1, r2) := by first | (rw [hy993]; with_reducible exact H) | (have H2_ := (Option.bind_some _ _).symm.trans H; rw [hy993]; with_reducible exact H2_) | (have H2_ := (Option.bind_some _ _).symm.trans H; with_reducible exact H2_) | with_reducible exact H | (rw [hy993]; exact H) | exact H
                    have Ny993 := Aside0.mk hy993
                    clear hy993
                    have H' := Aside0.mk H
                    clear H
                    have p989 : 0 ≤ (x64_2 : Int) := of_decide_eq_true (by first | (with_reducible assumption) | assumption)
                    have q989 : x64_2 < (t972.length : Int) := of_decide_eq_true (by first | (with_reducible assumption) | assumption)
                    obtain ⟨ad989, e989, hx989_0⟩ := Kd.at_int (Kd.R_reads' HO_62.out).2.2 x64_2 p989 q989
                    obtain rfl : ad978 = ad989 := (by injection e989)
                    replace p989 := eq_true p989; replace q989 := eq_true q989
                    try go_wp2
                    have n0_ := Aside0.mk (Kd.R_drew HO_2.out)
                    have n1_ := Aside0.mk (Kd.R_drew HO_8.out)
                    have n2_ := Aside0.mk (Kd.R_drew HO_9.out)
                    have n3_ := Aside0.mk (Kd.R_drew HO_62.out)
                    have n4_ := Aside0.mk (qda HB.out)
                    clear HO_2 HO_8 HO_9 HO_62 HB; have HO_2 := n0_; have HO_8 := n1_; have HO_9 := n2_; have HO_62 := n3_; have HB := n4_; clear n0_ n1_ n2_ n3_ n4_
                    have p990 : 0 ≤ ((ji38) : Int) := of_decide_eq_true (by first | (with_reducible assumption) | assumption)
                    have q990 : (ji38) < (x8_2.length : Int) := of_decide_eq_true (by first | (with_reducible assumption) | assumption)
                    obtain ⟨ad990, e990, hx990_0⟩ := Kd.at_int (Kd.R_reads' HO_8.out).2.2 (ji38) p990 q990
                    obtain rfl : ad986 = ad990 := (by injection e990)
                    replace p990 := eq_true p990; replace q990 := eq_true q990
                    refine start_ (n := 18) (S := fun w' => w'.cell? (ad986.add ((ji38)).toNat) = some (.int .u64 (rd x8_2 (ji38)))) (ds := [17]) #[false, false, false, false, false, false, false, false, false, false, false, false, false, false, false, false, false, false] (by kernel_rfl) rfl rfl (hx990_0) (fun hHeld => ?_); refine with_tabW qnb.tab14 qnb.bits14 (fun HT_ HW_ => ?_)
                    generalize wr.drew = w44 at HO_2 HO_8 HO_9 HO_62 HB hx990_0 hHeld ⊢
                    refine pure_ (i := 0) (N := some 69) (v := ?_) (a' := ?_) #[true, false, false, false, false, false, false, false, false, false, false, false, false, false, false, false, false, false] rfl rfl (any_of HT_.out (by kernel_rfl)) (fun _ _ _ h => h) (Or.inl ⟨by rfl, ?_⟩) ?_ ?_
                    rotate_left; (intro w'; go_simp; with_reducible rfl); rotate_left; (simp only [Act.put, qS1, qS2, qS3, i64_w, i32_w]; rfl)
                    refine pure_ (i := 1) (N := some 70) (v := ?_) (a' := ?_) #[true, true, false, false, false, false, false, false, false, false, false, false, false, false, false, false, false, false] rfl rfl (any_of HT_.out (by kernel_rfl)) (fun _ _ _ h => h) (Or.inl ⟨by rfl, ?_⟩) ?_ ?_
                    rotate_left; (intro w'; go_simp; with_reducible rfl); rotate_left; (simp only [Act.put, qS1, qS2, qS3, i64_w, i32_w]; rfl)
                    refine pure_ (i := 2) (N := some 71) (v := ?_) (a' := ?_) #[true, true, true, false, false, false, false, false, false, false, false, false, false, false, false, false, false, false] rfl rfl (any_of HT_.out (by kernel_rfl)) (fun _ _ _ h => h) (Or.inl ⟨by rfl, ?_⟩) ?_ ?_
                    rotate_left; (intro w'; go_simp; with_reducible rfl); rotate_left; (simp only [Act.put, qS1, qS2, qS3, i64_w, i32_w]; rfl)
                    refine pure_ (i := 3) (N := some 72) (v := ?_) (a' := ?_) #[true, true, true, true, false, false, false, false, false, false, false, false, false, false, false, false, false, false] rfl rfl (any_of HT_.out (by kernel_rfl)) (fun _ _ _ h => h) (Or.inl ⟨by rfl, ?_⟩) ?_ ?_
                    rotate_left; (intro w'; go_simp; with_reducible rfl); rotate_left; (simp only [Act.put, qS1, qS2, qS3, i64_w, i32_w]; rfl)
                    refine pure_ (i := 4) (N := some 73) (v := ?_) (a' := ?_) #[true, true, true, true, true, false, false, false, false, false, false, false, false, false, false, false, false, false] rfl rfl (any_of HT_.out (by kernel_rfl)) (fun _ _ _ h => h) (Or.inl ⟨by rfl, ?_⟩) ?_ ?_
                    rotate_left; (intro w'; go_simp; with_reducible rfl); rotate_left; (simp only [Act.put, qS1, qS2, qS3, i64_w, i32_w]; rfl)
                    refine pure_ (i := 5) (N := some 74) (v := ?_) (a' := ?_) #[true, true, true, true, true, true, false, false, false, false, false, false, false, false, false, false, false, false] rfl rfl (any_of HT_.out (by kernel_rfl)) (fun _ _ _ h => h) (Or.inl ⟨by rfl, ?_⟩) ?_ ?_
                    rotate_left; (intro w'; go_simp; with_reducible rfl); rotate_left; (simp only [Act.put, qS1, qS2, qS3, i64_w, i32_w]; rfl)
                    refine pure_ (i := 6) (N := some 75) (v := ?_) (a' := ?_) #[true, true, true, true, true, true, true, false, false, false, false, false, false, false, false, false, false, false] rfl rfl (any_of HT_.out (by kernel_rfl)) (fun _ _ _ h => h) (Or.inl ⟨by rfl, ?_⟩) ?_ ?_
                    rotate_left; (intro w'; go_simp; with_reducible rfl); rotate_left; (simp only [Act.put, qS1, qS2, qS3, i64_w, i32_w]; rfl)
                    refine pure_ (i := 7) (N := some 76) (v := ?_) (a' := ?_) #[true, true, true, true, true, true, true, true, false, false, false, false, false, false, false, false, false, false] rfl rfl (any_of HT_.out (by kernel_rfl)) (fun _ _ _ h => h) (Or.inl ⟨by rfl, ?_⟩) ?_ ?_
                    rotate_left; (intro w'; go_simp; with_reducible rfl); rotate_left; (simp only [Act.put, qS1, qS2, qS3, i64_w, i32_w]; rfl)
                    refine pure_ (i := 8) (N := some 77) (v := ?_) (a' := ?_) #[true, true, true, true, true, true, true, true, true, false, false, false, false, false, false, false, false, false] rfl rfl (any_of HT_.out (by kernel_rfl)) (fun _ _ _ h => h) (Or.inl ⟨by rfl, ?_⟩) ?_ ?_
                    rotate_left; (intro w'; go_simp; with_reducible rfl); rotate_left; (simp only [Act.put, qS1, qS2, qS3, i64_w, i32_w]; rfl)
                    refine pure_ (i := 9) (N := some 78) (v := ?_) (a' := ?_) #[true, true, true, true, true, true, true, true, true, true, false, false, false, false, false, false, false, false] rfl rfl (any_of HT_.out (by kernel_rfl)) (fun _ _ _ h => h) (Or.inl ⟨by rfl, ?_⟩) ?_ ?_
                    rotate_left; (intro w'; go_simp; with_reducible rfl); rotate_left; (simp only [Act.put, qS1, qS2, qS3, i64_w, i32_w]; rfl)
                    refine pure_ (i := 11) (N := some 80) (v := ?_) (a' := ?_) #[true, true, true, true, true, true, true, true, true, true, false, true, false, false, false, false, false, false] rfl rfl (any_of HT_.out (by kernel_rfl)) (fun _ _ _ h => h) (Or.inl ⟨by rfl, ?_⟩) ?_ ?_
                    rotate_left; (intro w'; go_simp; with_reducible rfl); rotate_left; (simp only [Act.put, qS1, qS2, qS3, i64_w, i32_w]; rfl)
                    refine pure_ (i := 12) (N := some 81) (v := ?_) (a' := ?_) #[true, true, true, true, true, true, true, true, true, true, false, true, true, false, false, false, false, false] rfl rfl (any_of HT_.out (by kernel_rfl)) (fun _ _ _ h => h) (Or.inl ⟨by rfl, ?_⟩) ?_ ?_
                    rotate_left; (intro w'; go_simp; with_reducible rfl); rotate_left; (simp only [Act.put, qS1, qS2, qS3, i64_w, i32_w]; rfl)
                    refine pure_ (i := 13) (N := some 82) (v := ?_) (a' := ?_) #[true, true, true, true, true, true, true, true, true, true, false, true, true, true, false, false, false, false] rfl rfl (any_of HT_.out (by kernel_rfl)) (fun _ _ _ h => h) (Or.inl ⟨by rfl, ?_⟩) ?_ ?_
                    rotate_left; (intro w'; go_simp; with_reducible rfl); rotate_left; (simp only [Act.put, qS1, qS2, qS3, i64_w, i32_w]; rfl)
                    refine take_ (i := 10) (N := some 79) (v := ?_) (a' := ?_) #[true, true, true, true, true, true, true, true, true, true, true, true, true, true, false, false, false, false] rfl rfl (take_ofW HT_.out HW_.out (by kernel_rfl)) (fun _ _ _ h => h) (Or.inl ⟨by rfl, ?_⟩) hHeld ?_ ?_
                    rotate_left
                    ·intro w' s0
                     go_simp
                     with_reducible rfl
                    rotate_left
                    ·simp only [Act.put, qS1, qS2, qS3, i64_w, i32_w]
                     rfl
                    refine one_ (i := 14) (N := some 83) #[true, true, true, true, true, true, true, true, true, true, true, true, true, true, true, false, false, false] rfl rfl (one_of HT_.out (by kernel_rfl)) (by decide) (fun K hK => ?_)
                    refine goes_ Try.func148 (by kernel_rfl) rfl #[.int .u64 a0, .int .u64 t987, .int .u64 (rd t972 x64_2)] (by rfl) rfl rfl (by (try simp only [qM1, qM2, qM3]); first | done | rfl | (simp only [List.length_drop, List.length_take]; rfl)) ?_
                    with_reducible refine (field_Times.calls a0 t987 (rd t972 x64_2) t991 _ A41.out).mono ?_
                    rintro e w' ⟨rfl, ⟨nd, rfl⟩⟩
                    refine ⟨_, rfl, ?_⟩
                    refine hK.out _ _ (hHeld) (fun hHeld => ?_)
                    clear hK K
                    refine norm_ (a' := ?_) ?_ ?_
                    rotate_left
                    ·show Act.put _ (some 83) _ = _
                     simp only [Act.put, qS1, qS2, qS3, i64_w, i32_w]
                     rfl
                    refine one_ (i := 15) (N := some 84) #[true, true, true, true, true, true, true, true, true, true, true, true, true, true, true, true, false, false] rfl rfl (one_of HT_.out (by kernel_rfl)) (by decide) (fun K hK => ?_)
                    refine goes_ Try.func142 (by kernel_rfl) rfl #[.int .u64 a0, .int .u64 (rd x8_2 (ji38)), .int .u64 t991] (by rfl) rfl rfl (by (try simp only [qM1, qM2, qM3]); first | done | (simp only [hji38]; rfl) | rfl | (simp only [List.length_drop, List.length_take]; rfl)) ?_
                    with_reducible refine (field_Minus.calls a0 (rd x8_2 (ji38)) t991 t992 _ A42.out).mono ?_
                    rintro e w' ⟨rfl, ⟨nd, rfl⟩⟩
                    refine ⟨_, rfl, ?_⟩
                    have p43 : 0 ≤ ((ji38) : Int) := of_decide_eq_true (by first | (with_reducible assumption) | assumption)
                    have q43 : ((ji38) : Int) < ((x8_2.length : Int) : Int) := of_decide_eq_true (by first | (with_reducible assumption) | assumption)
                    obtain ⟨go43, co43, eo43, gb43, gl43, cl43, HG43⟩ := Kd.R_form HO_8.out (by omega)
                    (first | cases eo43 | (injection eo43 with ea_ en_ ec_; (first | subst ea_ | (injection ea_ with ea_; subst ea_)); subst ec_; clear en_))
                    have GB43 := Aside0.mk gb43
                    have GG43 := Aside0.mk HG43
                    clear gb43 gl43 HG43
                    (first | simp only [add_plain] at hx986_0 | skip)
                    (first | simp only [add_plain] at hx990_0 | skip)
                    obtain ⟨hx43_0, hf43_0⟩ := Kd.R_celln 0 HO_8.out ((ji38) : Int) p43 q43
                    replace p43 := eq_true p43; replace q43 := eq_true q43
                    have HP45 := Kd.R_putn HO_8.out ((ji38) : Int) t992
                    rw [← Ny993.out] at HP45
                    have HQ45 := Aside0.mk HP45
                    clear HP45
                    refine hK.out _ _ (hHeld) (fun hHeld => ?_)
                    clear hK K
                    refine norm_ (a' := ?_) ?_ ?_
                    rotate_left
                    ·show Act.put _ (some 84) _ = _
                     simp only [Act.put, qS1, qS2, qS3, i64_w, i32_w]
                     rfl
                    refine pure_ (i := 16) (N := some 85) (v := ?_) (a' := ?_) #[true, true, true, true, true, true, true, true, true, true, true, true, true, true, true, true, true, false] rfl rfl (any_of HT_.out (by kernel_rfl)) (fun _ _ _ h => h) (Or.inl ⟨by rfl, ?_⟩) ?_ ?_
                    rotate_left; (intro w'; go_simp; with_reducible rfl); rotate_left; (simp only [Act.put, qS1, qS2, qS3, i64_w, i32_w]; rfl)
                    refine last_ (i := 17) (N := none) #[true, true, true, true, true, true, true, true, true, true, true, true, true, true, true, true, true, true] rfl rfl (one_of HT_.out (by kernel_rfl)) (by decide) (fun K hK => ?_)
                    refine skip_ (w1 := ?_) (by rfl) rfl ?_ ?_
                    rotate_left
                    ·go_simp
                     rfl
                    refine hK.out _ _ ?_
                    clear hK K
                    refine done_ (done_of HT_.out (by kernel_rfl)) ?_
                    try go_wp2
                    (try simp only [show (⟨go43, ji26.toNat, none⟩ : Addr) = (⟨go43, 0, none⟩ : Addr).add ji26.toNat from (add_plain _ _).symm])
                    (try simp only [← hl8_2, ← hl9_2])
                    go_roundg k2
                    case measure => have := HK1.out; have := HK2.out; omega
                    case rel => exact ⟨(y993), (wrap64 (x64_2 + 1)), (by first | rfl | (simp; done) | (simp [*]; done)), H', ⟨by have := HK1.out; have := HK2.out; omega⟩, ⟨by (try simp only [hl8_1]); (try simp only [hl9_1]); (try simp only [hl8_2]); (try simp only [hl9_2]); (with_reducible repeat first | apply Kd.qja | apply Kd.qia | apply Kd.R_drew); exact Kd.R_mono (Kd.R_far (p := ⟨go43, ((ji38) : Int).toNat, none⟩) (Kd.R_mono HO_2.out (fun k_ hk => (⟨hk, fun e_ => hk.1 (by rw [e_]; rfl)⟩ : _ ∧ k_ ≠ go43))) (fun _ hk => hk.2) (.int .u64 t992)) (fun _ hk => ⟨hk.1.1, hk.1.2⟩)⟩, ⟨by (try simp only [hl8_1]); (try simp only [hl9_1]); (try simp only [hl8_2]); (try simp only [hl9_2]); (with_reducible repeat first | apply Kd.qja | apply Kd.qia | apply Kd.R_drew); exact HQ45.out⟩, ⟨by (try simp only [hl8_1]); (try simp only [hl9_1]); (try simp only [hl8_2]); (try simp only [hl9_2]); (with_reducible repeat first | apply Kd.qja | apply Kd.qia | apply Kd.R_drew); exact Kd.R_mono (Kd.R_far (p := ⟨go43, ((ji38) : Int).toNat, none⟩) (Kd.R_mono HO_9.out (fun k_ hk => (⟨hk, fun e_ => hk.2.1 (by rw [e_]; rfl)⟩ : _ ∧ k_ ≠ go43))) (fun _ hk => hk.2) (.int .u64 t992)) (fun _ hk => ⟨hk.1.1, ⟨hk.1.2.1, hk.1.2.2⟩⟩)⟩, ⟨by (try simp only [hl8_1]); (try simp only [hl9_1]); (try simp only [hl8_2]); (try simp only [hl9_2]); (with_reducible repeat first | apply Kd.qja | apply Kd.qia | apply Kd.R_drew); exact Kd.R_mono (Kd.R_far (p := ⟨go43, ((ji38) : Int).toNat, none⟩) (Kd.R_mono HO_62.out (fun k_ hk => (⟨hk, fun e_ => hk.1 (by rw [e_]; rfl)⟩ : _ ∧ k_ ≠ go43))) (fun _ hk => hk.2) (.int .u64 t992)) (fun _ hk => ⟨hk.1.1, hk.1.2⟩)⟩, ⟨by repeat (first | (with_reducible first | exact HB.out | apply qca | apply qba | apply qda | refine qha ?_ GB43.out) | exact HB.out)⟩⟩
                   ·rw [if_neg c40] at H
                    exact absurd H (by simp)
                  ·rw [if_neg c39] at H
                   exact absurd H (by simp)
                 ·rw [if_neg c37] at H
                  exact absurd H (by simp)
                ·rw [if_neg c36] at H
                 exact absurd H (by simp)
               ·rw [if_neg c35] at H
                have c35b0 : decide (x64_2 < (t972.length : Int)) = false := decide_eq_false c35
                clear c35
                have H' := Aside0.mk H
                clear H
                go_wp2
                (try simp only [← hl8_1, ← hl9_1, ← hl8_2, ← hl9_2])
                go_roundg k2
                case measure => have := HK1.out; have := HK2.out; omega
                case rel => exact ⟨(x8_2), (y988), (wrap64 (x11_1 - 1)), (by first | rfl | (simp; done) | (simp [*]; done)), H', ⟨by have := HK1.out; have := HK2.out; omega⟩, ⟨by (try simp only [hl8_1]); (try simp only [hl9_1]); (try simp only [hl8_2]); (try simp only [hl9_2]); (with_reducible repeat first | apply Kd.qja | apply Kd.qia | apply Kd.R_drew); exact HO_2.out⟩, ⟨by (try simp only [hl8_1]); (try simp only [hl9_1]); (try simp only [hl8_2]); (try simp only [hl9_2]); (with_reducible repeat first | apply Kd.qja | apply Kd.qia | apply Kd.R_drew); exact Kd.R_mono HO_8.out (fun _ hk => ⟨hk.1, hk.2.1⟩)⟩, ⟨by (try simp only [hl8_1]); (try simp only [hl9_1]); (try simp only [hl8_2]); (try simp only [hl9_2]); (with_reducible repeat first | apply Kd.qja | apply Kd.qia | apply Kd.R_drew); exact Kd.R_mono HO_9.out (fun _ hk => ⟨hk.1, hk.2.1⟩)⟩, ⟨by repeat (first | (with_reducible first | exact HB.out | apply qca | apply qba | apply qda) | exact HB.out)⟩⟩
            ·rw [if_neg c31] at H
             exact absurd H (by simp)
           ·rw [if_neg c30] at H
            exact absurd H (by simp)
          ·rw [if_neg c28] at H
           exact absurd H (by simp)
         ·rw [if_neg c27] at H
          exact absurd H (by simp)
        ·rw [if_neg c25] at H
         have c25b0 : decide (0 ≤ x11_1) = false := decide_eq_false c25
         clear c25
         replace H := Option.bind_eq_some_iff.mp H
         obtain ⟨t980, A460, H⟩ := H
         try dsimp only at H
         have A46 := Aside0.mk A460
         clear A460
         replace H := Option.bind_eq_some_iff.mp H
         obtain ⟨t983, A470, H⟩ := H
         try dsimp only at H
         have A47 := Aside0.mk A470
         clear A470
         simp only [Option.some.injEq, Prod.mk.injEq] at H
         obtain ⟨rfl, rfl⟩ := H
         go_wp2_with (first | ((with_reducible refine qoa (f := 127) rfl ?_); refine goesL_ (some 88) rfl rfl Try.func127 (by kernel_rfl) rfl #[.slice Ao24 x9_1.length co24] rfl (by (try simp only [qM1, qM2, qM3]); first | done | rfl) ?_; (with_reducible refine (qwa.calls k1 _ _ x9_1 t980 _ ?side1 ?side2 A46.out).mono ?_); (case side1 => repeat (first | exact (Kd.R_reads' HO_9.out).2.2 | (with_reducible first | refine Kd.C_alloc ?_ _ | refine Kd.C_drewN ?_ _ | refine Kd.C_drew ?_))); (case side2 => exact (Kd.R_reads' HO_9.out).2.1); rintro e w48 ⟨v981, rfl, ho0, hb⟩; refine ⟨_, rfl, ?_⟩; have n0_ := Aside0.mk (Kd.R_elder' (by (with_reducible repeat first | apply Kd.qja | apply Kd.qia | apply Kd.R_drew); exact HO_2.out) (Kd.R_base ho0) hb); have n1_ := Aside0.mk (Kd.R_elder' (by (with_reducible repeat first | apply Kd.qja | apply Kd.qia | apply Kd.R_drew); exact HO_8.out) (Kd.R_base ho0) hb); have n2_ := Aside0.mk (Kd.R_elder' (by (with_reducible repeat first | apply Kd.qja | apply Kd.qia | apply Kd.R_drew); exact HO_9.out) (Kd.R_base ho0) hb); have n3_ := Aside0.mk (Kd.R_lower (Kd.R_new' (Kd.R_new' (Kd.R_new' ho0 (Kd.R_lt (by (with_reducible repeat first | apply Kd.qja | apply Kd.qia | apply Kd.R_drew); exact HO_2.out))) (Kd.R_lt (by (with_reducible repeat first | apply Kd.qja | apply Kd.qia | apply Kd.R_drew); exact HO_8.out))) (Kd.R_lt (by (with_reducible repeat first | apply Kd.qja | apply Kd.qia | apply Kd.R_drew); exact HO_9.out))) (qka (by with_reducible repeat first | exact HB.out | apply qca | apply qba | apply qda))); have n4_ := Aside0.mk (qla (by with_reducible repeat first | exact HB.out | apply qca | apply qba | apply qda) hb); clear HO_2; clear HO_8; clear HO_9; clear HB; have HO_2 := n0_; have HO_8 := n1_; have HO_9 := n2_; have HO982 := n3_; have HB := n4_; clear n0_ n1_ n2_ n3_ n4_; (try clear hb); (try clear hb2); (try clear hk); (try clear hi); (try clear ho0)) | ((with_reducible refine qoa (f := 127) rfl ?_); refine goesL_ (some 90) rfl rfl Try.func127 (by kernel_rfl) rfl #[.slice Ao20 x8_1.length co20] rfl (by (try simp only [qM1, qM2, qM3]); first | done | rfl) ?_; (with_reducible refine (qwa.calls k1 _ _ x8_1 t983 _ ?side1 ?side2 A47.out).mono ?_); (case side1 => repeat (first | exact (Kd.R_reads' HO_8.out).2.2 | (with_reducible first | refine Kd.C_alloc ?_ _ | refine Kd.C_drewN ?_ _ | refine Kd.C_drew ?_))); (case side2 => exact (Kd.R_reads' HO_8.out).2.1); rintro e w49 ⟨v984, rfl, ho0, hb⟩; refine ⟨_, rfl, ?_⟩; have n0_ := Aside0.mk (Kd.R_elder' (by (with_reducible repeat first | apply Kd.qja | apply Kd.qia | apply Kd.R_drew); exact HO_2.out) (Kd.R_base ho0) hb); have n1_ := Aside0.mk (Kd.R_elder' (by (with_reducible repeat first | apply Kd.qja | apply Kd.qia | apply Kd.R_drew); exact HO_8.out) (Kd.R_base ho0) hb); have n2_ := Aside0.mk (Kd.R_elder' (by (with_reducible repeat first | apply Kd.qja | apply Kd.qia | apply Kd.R_drew); exact HO_9.out) (Kd.R_base ho0) hb); have n3_ := Aside0.mk (Kd.R_elder' (by (with_reducible repeat first | apply Kd.qja | apply Kd.qia | apply Kd.R_drew); exact HO982.out) (Kd.R_base ho0) hb); have n4_ := Aside0.mk (Kd.R_lower (Kd.R_new' (Kd.R_new' (Kd.R_new' (Kd.R_new' ho0 (Kd.R_lt (by (with_reducible repeat first | apply Kd.qja | apply Kd.qia | apply Kd.R_drew); exact HO_2.out))) (Kd.R_lt (by (with_reducible repeat first | apply Kd.qja | apply Kd.qia | apply Kd.R_drew); exact HO_8.out))) (Kd.R_lt (by (with_reducible repeat first | apply Kd.qja | apply Kd.qia | apply Kd.R_drew); exact HO_9.out))) (Kd.R_lt (by (with_reducible repeat first | apply Kd.qja | apply Kd.qia | apply Kd.R_drew); exact HO982.out))) (qka (by with_reducible repeat first | exact HB.out | apply qca | apply qba | apply qda))); have n5_ := Aside0.mk (qla (by with_reducible repeat first | exact HB.out | apply qca | apply qba | apply qda) hb); clear HO_2; clear HO_8; clear HO_9; clear HO982; clear HB; have HO_2 := n0_; have HO_8 := n1_; have HO_9 := n2_; have HO982 := n3_; have HO985 := n4_; have HB := n5_; clear n0_ n1_ n2_ n3_ n4_ n5_; (try clear hb); (try clear hb2); (try clear hk); (try clear hi); (try clear ho0)))
         go_ret2
         exact ⟨_, _, by first | rfl | (simp [errW_none, errW_some] <;> rfl) | (simp only [← hji11, ← hji14]; first | rfl | (simp [errW_none, errW_some] <;> rfl)) | (simp [*, errW_none, errW_some] <;> rfl), by (with_reducible repeat first | apply Kd.qja | apply Kd.qia | apply Kd.R_drew); exact Kd.R_mono HO982.out (fun _ hk => hk.2), by (with_reducible repeat first | apply Kd.qja | apply Kd.qia | apply Kd.R_drew); exact Kd.R_mono HO985.out (fun _ hk => hk.2), by repeat (first | (with_reducible first | exact HB.out | apply qca | apply qba | apply qda) | exact HB.out)⟩
     ·rw [if_neg c16] at H
      exact absurd H (by simp)
    ·rw [if_neg c15] at H
     exact absurd H (by simp)
   ·rw [if_neg c13] at H
    exact absurd H (by simp)
  ·rw [if_neg c12] at H
   exact absurd H (by simp)
def twice_Cut.f (k : Nat) (a0_0 : Int) (a0_1 : Int) (a0_2 : Int) (l1 : List Int) (l2 : List Int) : Option (List Int × List Int × Int) := (qlb.f k a0_0 a0_1 a0_2 l1).bind fun t995 => (if t995 = 0 then ((poly_Is.f k a0_0 (([l2] : List (List Int)))).bind fun t999 => (if t999 = 0 then ((share_Places.f k l1).bind fun t1000 => ((poly_Gone.f k a0_0 t1000).bind fun t1003 => ((qnb.f k a0_0 l2 t1003).bind fun bt1006 => (if (bt1006.2.length : Int) > 0 then (some (([] : List Int), ([] : List Int), 12)) else (some (t1003, bt1006.1, 0)))))) else (some (([] : List Int), ([] : List Int), t999)))) else (some (([] : List Int), ([] : List Int), t995)))
theorem twice_Cut.calls (k : Nat) (a0_0 : Int) (a0_1 : Int) (a0_2 : Int) (A1 : Option Addr) (c1 : Nat) (l1 : List Int) (P2_ : Nat → Prop) (A2 : Option Addr) (c2 : Nat) (l2 : List Int) (r1 : List Int) (r2 : List Int) (r3 : Int) (w : World) (hr1 : Kd.C (Kd.int .i64) w A1 l1.length l1) (hc1 : l1.length ≤ c1) (hs2 : Kd.V (Kd.int .u64) 22 w w.heap.size (fun k_ => P2_ k_) (.slice A2 l2.length c2) l2) (h : twice_Cut.f k a0_0 a0_1 a0_2 l1 l2 = some (r1, r2, r3)) :
  Calls Try.prog 86 #[.agg #[.int .u64 a0_0, .int .i64 a0_1, .int .i64 a0_2], .slice A1 l1.length c1, .slice A2 l2.length c2] w fun e w' => ∃ v0_ v1_ : Value, e = .returned (.tuple #[v0_, v1_, .int .i64 r3]) ∧ Kd.R (Kd.int .u64) 22 w' w.heap.size (fun k_ => (w.heap.size ≤ k_) ∧ some k_ ≠ (v1_ : Value).ownBlock) v0_ r1 ∧ Kd.R (Kd.int .u64) 22 w' w.heap.size (fun k_ => (w.heap.size ≤ k_) ∧ some k_ ≠ (v0_ : Value).ownBlock) v1_ r2 ∧ Below w.heap.size w w' := by
 have hu24 := Try.underlying24
 have HR1 := Aside0.mk hr1
 have HC1 := Aside0.mk hc1
 clear hr1 hc1
 have HO2 := Aside0.mk (show Kd.V (Kd.int .u64) 22 w w.heap.size (fun k_ => (P2_ k_ ∨ w.heap.size ≤ k_)) (.slice A2 l2.length c2) l2 from Kd.V_mono hs2 (fun k_ hk => .inl hk))
 have HB := Aside0.mk (Below.refl w.heap.size w)
 have H : ((qlb.f k a0_0 a0_1 a0_2 l1).bind fun t995 => (if t995 = 0 then ((poly_Is.f k a0_0 (([l2] : List (List Int)))).bind fun t999 => (if t999 = 0 then ((share_Places.f k l1).bind fun t1000 => ((poly_Gone.f k a0_0 t1000).bind fun t1003 => ((qnb.f k a0_0 l2 t1003).bind fun bt1006 => (if (bt1006.2.length : Int) > 0 then (some (([] : List Int), ([] : List Int), 12)) else (some (t1003, bt1006.1, 0)))))) else (some (([] : List Int), ([] : List Int), t999)))) else (some (([] : List Int), ([] : List Int), t995)))) = some (r1, r2, r3) := h
 clear h
 replace H := Option.bind_eq_some_iff.mp H
 obtain ⟨t995, A40, H⟩ := H
 try dsimp only at H
 have A4 := Aside0.mk A40
 clear A40
 by_cases c5 : t995 = 0
 ·rw [if_pos c5] at H
  have c5b0 : (t995 == 0) = true := beq_iff_eq.mpr c5
  have c5b1 : (t995 != 0) = false := bne_eq_false_iff_eq.mpr c5
  clear c5
  obtain ⟨y996, hy996⟩ : ∃ y_ : List (List Int), y_ = (([l2] : List (List Int))) := ⟨_, rfl⟩
  replace H : ((poly_Is.f k a0_0 y996).bind fun t999 => (if t999 = 0 then ((share_Places.f k l1).bind fun t1000 => ((poly_Gone.f k a0_0 t1000).bind fun t1003 => ((qnb.f k a0_0 l2 t1003).bind fun bt1006 => (if (bt1006.2.length : Int) > 0 then (some (([] : List Int), ([] : List Int), 12)) else (some (t1003, bt1006.1, 0)))))) else (some (([] : List Int), ([] : List Int), t999)))) = some (r1, r2, r3) := by first | (rw [hy996]; with_reducible exact H) | (have H2_ := (Option.bind_some _ _).symm.trans H; rw [hy996]; with_reducible exact H2_) | (have H2_ := (Option.bind_some _ _).symm.trans H; with_reducible exact H2_) | with_reducible exact H | (rw [hy996]; exact H) | exact H
  have Ny996 := Aside0.mk hy996
  clear hy996
  replace H := Option.bind_eq_some_iff.mp H
  obtain ⟨t999, A60, H⟩ := H
  try dsimp only at H
  have A6 := Aside0.mk A60
  clear A60
  by_cases c7 : t999 = 0
  ·rw [if_pos c7] at H
   have c7b0 : (t999 == 0) = true := beq_iff_eq.mpr c7
   have c7b1 : (t999 != 0) = false := bne_eq_false_iff_eq.mpr c7
   clear c7
   replace H := Option.bind_eq_some_iff.mp H
   obtain ⟨t1000, A80, H⟩ := H
   try dsimp only at H
   have A8 := Aside0.mk A80
   clear A80
   replace H := Option.bind_eq_some_iff.mp H
   obtain ⟨t1003, A90, H⟩ := H
   try dsimp only at H
   have A9 := Aside0.mk A90
   clear A90
   replace H := Option.bind_eq_some_iff.mp H
   obtain ⟨⟨t1006, t1007⟩, A100, H⟩ := H
   try dsimp only at H
   have A10 := Aside0.mk A100
   clear A100
   by_cases c11 : (t1007.length : Int) > 0
   ·rw [if_pos c11] at H
    have c11b0 : decide (0 < (t1007.length : Int)) = true := decide_eq_true c11
    have c11b1 : decide (0 < t1007.length) = true := decide_eq_true (by omega)
    clear c11
    simp only [Option.some.injEq, Prod.mk.injEq] at H
    obtain ⟨rfl, rfl, rfl⟩ := H
    go_enter Try.func86, Try.ntmps86
    try go_wp2_with (first | ((with_reducible refine gate_dst (N := 3) rfl ?_); refine box_event ?hg (N := 3) ?hd (cs := #[.int .u64 a0_0, .int .i64 a0_1, .int .i64 a0_2]) (t := 24) ?hr ?_; (case hd => rfl); (case hg => rfl); (case hr => first | (go_simp; done) | (go_simp; rfl)); intro gb994 hg w12 hbox hb; have n0_ := Aside0.mk (Kd.V_below (Kd.V_elderB (by (with_reducible repeat first | apply Kd.V_alloc | apply Kd.V_drewN | apply Kd.V_drew); exact HO2.out) gb994 (Nat.le_of_eq hg.symm)) hb); have n1_ := Aside0.mk (qla (by with_reducible repeat first | exact HB.out | apply qca | apply qba | apply qda) hb); have n2_ := Aside0.mk (hbox); have n3_ := Aside0.mk ((by rw [hg]; exact (qka (by with_reducible repeat first | exact HB.out | apply qca | apply qba | apply qda)) : w.heap.size ≤ gb994)); have n4_ := Aside0.mk ((by rw [hg]; exact (qka (by with_reducible repeat first | exact HB.out | apply qca | apply qba | apply qda)) : w.heap.size ≤ gb994)); clear HO2; clear HB; have HO2 := n0_; have HB := n1_; have BK994 := n2_; have GW994 := n3_; have GE994 := n4_; clear n0_ n1_ n2_ n3_ n4_; clear hb hbox hg; have hcz13_0 : w12.cell? ⟨gb994, 0, none⟩ = some (.int .u64 a0_0) := (qfa BK994.out 0).trans rfl; have hcz13_1 : w12.cell? ⟨gb994, 1, none⟩ = some (.int .i64 a0_1) := (qfa BK994.out 1).trans rfl; have hcz13_2 : w12.cell? ⟨gb994, 2, none⟩ = some (.int .i64 a0_2) := (qfa BK994.out 2).trans rfl; have hfz13_0 := qga BK994.out 0; have hfz13_1 := qga BK994.out 1; have hfz13_2 := qga BK994.out 2) | ((with_reducible refine qoa (f := 65) rfl ?_); refine goesL_ (some 16) rfl rfl Try.func65 (by kernel_rfl) rfl #[.agg #[.int .u64 a0_0, .int .i64 a0_1, .int .i64 a0_2], .slice A1 l1.length c1] rfl (by (try simp only [qM1, qM2, qM3]); first | done | rfl) ?_; (with_reducible refine (qlb.calls k a0_0 a0_1 a0_2 _ _ l1 t995 _ ?side1 ?side2 A4.out).mono ?_); (case side1 => repeat (first | exact (Kd.C_below HR1.out HB.out) | (with_reducible first | refine Kd.C_alloc ?_ _ | refine Kd.C_drewN ?_ _ | refine Kd.C_drew ?_))); (case side2 => exact HC1.out); rintro e w14 ⟨rfl, hb⟩; refine ⟨_, rfl, ?_⟩; have n0_ := Aside0.mk (Kd.V_below (by (with_reducible repeat first | apply Kd.V_alloc | apply Kd.V_drewN | apply Kd.V_drew); exact HO2.out) hb); have n1_ := Aside0.mk (blk_below (g := gb994) (o := .cells #[.int .u64 a0_0, .int .i64 a0_1, .int .i64 a0_2] 24 (0, 0)) (by (with_reducible repeat first | refine qma ?_ _ | refine qpa ?_ | refine qna ?_ _); exact BK994.out) hb); have n2_ := Aside0.mk (qla (by with_reducible repeat first | exact HB.out | apply qca | apply qba | apply qda | refine qha ?_ GE994.out) hb); clear HO2; clear BK994; clear HB; have HO2 := n0_; have BK994 := n1_; have HB := n2_; clear n0_ n1_ n2_; (try clear hb); (try clear hb2); (try clear hk); (try clear hi); have hcz15_0 : w14.cell? ⟨gb994, 0, none⟩ = some (.int .u64 a0_0) := (qfa BK994.out 0).trans rfl; have hcz15_1 : w14.cell? ⟨gb994, 1, none⟩ = some (.int .i64 a0_1) := (qfa BK994.out 1).trans rfl; have hcz15_2 : w14.cell? ⟨gb994, 2, none⟩ = some (.int .i64 a0_2) := (qfa BK994.out 2).trans rfl; have hfz15_0 := qga BK994.out 0; have hfz15_1 := qga BK994.out 1; have hfz15_2 := qga BK994.out 2) | ((with_reducible refine gate_dst (N := 23) rfl ?_); refine Kd.N_lit (Kd.slice 22 (Kd.int .u64)) _ 31 ?hg (N' := 23) ?hd (xs := ([l2] : List (List Int))) (inner := [.slice A2 l2.length c2]) (ok := (fun k_ => (P2_ k_ ∨ w.heap.size ≤ k_) ∧ k_ ≠ gb994)) (okp := (fun k_ => (P2_ k_ ∨ w.heap.size ≤ k_) ∧ k_ ≠ gb994)) ?hr ?hp (fun _ hk => hk) ((show ∀ k_, w14.heap.size ≤ k_ → (fun k_ => (P2_ k_ ∨ w.heap.size ≤ k_) ∧ k_ ≠ gb994) k_ from fun k_ hk => ⟨(.inr (Nat.le_trans (qka (by with_reducible repeat first | exact HB.out | apply qca | apply qba | apply qda | refine qha ?_ GE994.out)) hk)), Kd.freshB (g := gb994) (o := .cells #[.int .u64 a0_0, .int .i64 a0_1, .int .i64 a0_2] 24 (0, 0)) (by (with_reducible repeat first | refine qma ?_ _ | refine qpa ?_ | refine qna ?_ _); exact BK994.out) k_ hk⟩) _ (Nat.le_refl _)) (Below.refl _ _) (Nat.le_refl _) (by simp) ?_; (case hd => rfl); (case hg => rfl); (case hr => first | (go_simp; done) | (go_simp; rfl)); (case hp => exact (Reps.one (show Kd.FK (Kd.slice 22 (Kd.int .u64)) _ _ l2 [.slice A2 l2.length c2] from (Kd.FK_slice_mk (Kd.V_reads' (Kd.V_mono (ok' := (fun k_ => (P2_ k_ ∨ w.heap.size ≤ k_) ∧ k_ ≠ gb994)) (HO2.out) (fun k_ hk => ⟨hk.1, hk.2⟩))).2.1 (Kd.V_F (Kd.V_mono (ok' := (fun k_ => (P2_ k_ ∨ w.heap.size ≤ k_) ∧ k_ ≠ gb994)) (HO2.out) (fun k_ hk => ⟨hk.1, hk.2⟩))))) (Reps.none _ _))); intro v997 w16 ho17 hb hg_ hnew_; clear hg_ hnew_; (first | rw [← Ny996.out] at ho17 | (simp only [Int.reduceToNat] at ho17; rw [← Ny996.out] at ho17)); have n0_ := Aside0.mk (Kd.V_elder' (by (with_reducible repeat first | apply Kd.V_alloc | apply Kd.V_drewN | apply Kd.V_drew); exact HO2.out) (Kd.N_base ho17) hb); have n1_ := Aside0.mk (Kd.N_lower ho17 (qka (by with_reducible repeat first | exact HB.out | apply qca | apply qba | apply qda | refine qha ?_ GE994.out))); have n2_ := Aside0.mk (blk_below (g := gb994) (o := .cells #[.int .u64 a0_0, .int .i64 a0_1, .int .i64 a0_2] 24 (0, 0)) (by (with_reducible repeat first | refine qma ?_ _ | refine qpa ?_ | refine qna ?_ _); exact BK994.out) hb); have n3_ := Aside0.mk (qla (by with_reducible repeat first | exact HB.out | apply qca | apply qba | apply qda | refine qha ?_ GE994.out) hb); clear HO2; clear BK994; clear HB; have HO2 := n0_; have HO998 := n1_; have BK994 := n2_; have HB := n3_; clear n0_ n1_ n2_ n3_; clear hb ho17; obtain ⟨Ao18, co18, eo18⟩ := Kd.N_slice HO998.out; subst eo18) | ((with_reducible refine qoa (f := 138) rfl ?_); refine goesL_ (some 24) rfl rfl Try.func138 (by kernel_rfl) rfl #[.int .u64 a0_0, .slice Ao18 y996.length co18] rfl (by (try simp only [qM1, qM2, qM3]); first | done | rfl) ?_; (with_reducible refine (poly_Is.calls k a0_0 _ _ y996 t999 _ ?side1 ?side2 A6.out).mono ?_); (case side1 => repeat (first | exact (Kd.N_reads' HO998.out).2.2 | (with_reducible first | refine Kd.C_alloc ?_ _ | refine Kd.C_drewN ?_ _ | refine Kd.C_drew ?_))); (case side2 => exact (Kd.N_reads' HO998.out).2.1); rintro e w' ⟨rfl, ⟨nd, rfl⟩⟩; refine ⟨_, rfl, ?_⟩))
    (try (rw [drewN_self w16]; generalize hq_ : World.drewN w16 _ = w16; have n0_ : Aside0 (Kd.V (Kd.int .u64) 22 w16 w.heap.size (fun k_ => (P2_ k_ ∨ w.heap.size ≤ k_) ∧ some k_ ≠ (.slice Ao18 y996.length co18 : Value).ownBlock ∧ k_ ≠ gb994) (.slice A2 l2.length c2) l2) := ⟨by rw [← hq_]; exact (by (with_reducible repeat first | apply Kd.V_alloc | apply Kd.V_drewN | apply Kd.V_drew); exact Kd.V_mono HO2.out (fun _ hk => ⟨hk.1.1, ⟨hk.2, hk.1.2⟩⟩))⟩; have n1_ : Aside0 (Kd.N (Kd.slice 22 (Kd.int .u64)) 31 w16 w.heap.size (fun k_ => (P2_ k_ ∨ w.heap.size ≤ k_) ∧ k_ ≠ gb994) (.slice Ao18 y996.length co18) y996) := ⟨by rw [← hq_]; exact (by (with_reducible repeat first | apply Kd.N_alloc | apply Kd.N_drewN | apply Kd.N_drew); exact HO998.out)⟩; have n2_ : Aside0 (w16.heap[gb994]? = some (.cells #[.int .u64 a0_0, .int .i64 a0_1, .int .i64 a0_2] 24 (0, 0))) := ⟨by rw [← hq_]; exact (by (with_reducible repeat first | refine qma ?_ _ | refine qpa ?_ | refine qna ?_ _); exact BK994.out)⟩; have n3_ : Aside0 (Below w.heap.size w w16) := ⟨by rw [← hq_]; exact (by with_reducible repeat first | exact HB.out | apply qca | apply qba | apply qda | refine qha ?_ GE994.out)⟩; clear HO2 HO998 BK994 HB hq_; have HO2 := n0_; have HO998 := n1_; have BK994 := n2_; have HB := n3_; clear n0_ n1_ n2_ n3_))
    have n0_ := Aside0.mk (Kd.V_drew HO2.out)
    have n1_ := Aside0.mk (Kd.N_drew HO998.out)
    have n2_ := Aside0.mk (qpa BK994.out)
    have n3_ := Aside0.mk (qda HB.out)
    clear HO2 HO998 BK994 HB; have HO2 := n0_; have HO998 := n1_; have BK994 := n2_; have HB := n3_; clear n0_ n1_ n2_ n3_
    refine start_ (n := 6) (S := fun w' => w'.cell? ⟨gb994, 0, none⟩ = some (.int .u64 a0_0) ∧ w'.cell? ⟨gb994, 1, none⟩ = some (.int .i64 a0_1) ∧ w'.cell? ⟨gb994, 2, none⟩ = some (.int .i64 a0_2)) (ds := []) #[false, false, false, false, false, false] (by kernel_rfl) rfl rfl ⟨(qfa BK994.out 0).trans rfl, (qfa BK994.out 1).trans rfl, (qfa BK994.out 2).trans rfl⟩ (fun hHeld => ?_)
    generalize w16.drew = w19 at HO2 HO998 BK994 HB hHeld ⊢
    refine pure_ (i := 0) (N := some 28) (v := ?_) (a' := ?_) #[true, false, false, false, false, false] rfl rfl (by kernel_rfl) (fun _ _ _ h => h) (Or.inl ⟨by rfl, ?_⟩) ?_ ?_
    rotate_left; (intro w'; go_simp; with_reducible rfl); rotate_left; (simp only [Act.put, qS1, qS2, qS3, i64_w, i32_w]; rfl)
    refine pure_ (i := 2) (N := some 30) (v := ?_) (a' := ?_) #[true, false, true, false, false, false] rfl rfl (by kernel_rfl) (fun _ _ _ h => h) (Or.inl ⟨by rfl, ?_⟩) ?_ ?_
    rotate_left; (intro w'; go_simp; with_reducible rfl); rotate_left; (simp only [Act.put, qS1, qS2, qS3, i64_w, i32_w]; rfl)
    refine take_ (i := 1) (N := some 29) (v := ?_) (a' := ?_) #[true, true, true, false, false, false] rfl rfl (by kernel_rfl) (fun _ _ _ h => h) (Or.inl ⟨by rfl, ?_⟩) hHeld ?_ ?_
    rotate_left; (rintro w' ⟨s0, s1, s2⟩; go_simp; with_reducible rfl); rotate_left; (simp only [Act.put, qS1, qS2, qS3, i64_w, i32_w]; rfl)
    refine one_ (i := 3) (N := some 31) #[true, true, true, true, false, false] rfl rfl (by kernel_rfl) (by decide) (fun K hK => ?_)
    refine goes_ Try.func141 (by kernel_rfl) rfl #[.slice A1 l1.length c1] (by rfl) rfl rfl (by (try simp only [qM1, qM2, qM3]); first | done | rfl | (simp only [List.length_drop, List.length_take]; rfl)) ?_
    with_reducible refine (share_Places.calls k _ _ l1 t1000 _ ?side1 ?side2 A8.out).mono ?_
    (case side1 => repeat (first | exact (Kd.C_below HR1.out HB.out) | (with_reducible first | refine Kd.C_alloc ?_ _ | refine Kd.C_drewN ?_ _ | refine Kd.C_drew ?_)))
    (case side2 => exact HC1.out)
    rintro e w20 ⟨v1001, rfl, ho0, hb⟩
    refine ⟨_, rfl, ?_⟩
    have n0_ := Aside0.mk (Kd.V_elder' (by (with_reducible repeat first | apply Kd.V_alloc | apply Kd.V_drewN | apply Kd.V_drew); exact HO2.out) (Kd.R_base ho0) hb)
    have n1_ := Aside0.mk (Kd.N_elder' (by (with_reducible repeat first | apply Kd.N_alloc | apply Kd.N_drewN | apply Kd.N_drew); exact HO998.out) (Kd.R_base ho0) hb)
    have n2_ := Aside0.mk (Kd.R_lower (Kd.R_newM (M := fun k_ => (w.heap.size ≤ k_)) ho0 (qka (by with_reducible repeat first | exact HB.out | apply qca | apply qba | apply qda | refine qha ?_ GE994.out)) (fun k_ h_ => h_)) (qka (by with_reducible repeat first | exact HB.out | apply qca | apply qba | apply qda | refine qha ?_ GE994.out)))
    have n3_ := Aside0.mk (blk_below (g := gb994) (o := .cells #[.int .u64 a0_0, .int .i64 a0_1, .int .i64 a0_2] 24 (0, 0)) (by (with_reducible repeat first | refine qma ?_ _ | refine qpa ?_ | refine qna ?_ _); exact BK994.out) hb)
    have n4_ := Aside0.mk (qla (by with_reducible repeat first | exact HB.out | apply qca | apply qba | apply qda | refine qha ?_ GE994.out) hb)
    clear HO2 HO998 BK994 HB; have HO2 := n0_; have HO998 := n1_; have HO1002 := n2_; have BK994 := n3_; have HB := n4_; clear n0_ n1_ n2_ n3_ n4_; (try clear hb); (try clear hb2); (try clear hk); (try clear hi); (try clear ho0)
    obtain ⟨Ao21, co21, eo21⟩ := Kd.R_slice HO1002.out
    (first | subst eo21 | (injection eo21 with f1_ f2_ f3_; have f4_ := f1_.symm; have f5_ := f3_.symm; clear f1_ f2_ f3_; subst f4_; subst f5_))
    refine hK.out _ _ ⟨(qfa BK994.out 0).trans rfl, (qfa BK994.out 1).trans rfl, (qfa BK994.out 2).trans rfl⟩ (fun hHeld => ?_)
    clear hK K
    refine norm_ (a' := ?_) ?_ ?_
    rotate_left
    ·show Act.put _ (some 31) _ = _
     simp only [Act.put, qS1, qS2, qS3, i64_w, i32_w]
     rfl
    refine one_ (i := 4) (N := some 32) #[true, true, true, true, true, false] rfl rfl (by kernel_rfl) (by decide) (fun K hK => ?_)
    refine goes_ Try.func140 (by kernel_rfl) rfl #[.int .u64 a0_0, .slice Ao21 t1000.length co21] (by rfl) rfl rfl (by (try simp only [qM1, qM2, qM3]); first | done | rfl | (simp only [List.length_drop, List.length_take]; rfl)) ?_
    with_reducible refine (poly_Gone.calls k a0_0 _ _ t1000 t1003 _ ?side1 ?side2 A9.out).mono ?_
    (case side1 => repeat (first | exact (Kd.R_reads' HO1002.out).2.2 | (with_reducible first | refine Kd.C_alloc ?_ _ | refine Kd.C_drewN ?_ _ | refine Kd.C_drew ?_)))
    (case side2 => exact (Kd.R_reads' HO1002.out).2.1)
    rintro e w22 ⟨v1004, rfl, ho0, hb⟩
    refine ⟨_, rfl, ?_⟩
    have n0_ := Aside0.mk (Kd.V_elder' (by (with_reducible repeat first | apply Kd.V_alloc | apply Kd.V_drewN | apply Kd.V_drew); exact HO2.out) (Kd.R_base ho0) hb)
    have n1_ := Aside0.mk (Kd.N_elder' (by (with_reducible repeat first | apply Kd.N_alloc | apply Kd.N_drewN | apply Kd.N_drew); exact HO998.out) (Kd.R_base ho0) hb)
    have n2_ := Aside0.mk (Kd.R_elder' (by (with_reducible repeat first | apply Kd.qja | apply Kd.qia | apply Kd.R_drew); exact HO1002.out) (Kd.R_base ho0) hb)
    have n3_ := Aside0.mk (Kd.R_lower (Kd.R_new' (Kd.R_newM (M := fun k_ => (w.heap.size ≤ k_)) ho0 (qka (by with_reducible repeat first | exact HB.out | apply qca | apply qba | apply qda | refine qha ?_ GE994.out)) (fun k_ h_ => h_)) (Kd.R_lt (by (with_reducible repeat first | apply Kd.qja | apply Kd.qia | apply Kd.R_drew); exact HO1002.out))) (qka (by with_reducible repeat first | exact HB.out | apply qca | apply qba | apply qda | refine qha ?_ GE994.out)))
    have n4_ := Aside0.mk (blk_below (g := gb994) (o := .cells #[.int .u64 a0_0, .int .i64 a0_1, .int .i64 a0_2] 24 (0, 0)) (by (with_reducible repeat first | refine qma ?_ _ | refine qpa ?_ | refine qna ?_ _); exact BK994.out) hb)
    have n5_ := Aside0.mk (qla (by with_reducible repeat first | exact HB.out | apply qca | apply qba | apply qda | refine qha ?_ GE994.out) hb)
    clear HO2 HO998 HO1002 BK994 HB; have HO2 := n0_; have HO998 := n1_; have HO1002 := n2_; have HO1005 := n3_; have BK994 := n4_; have HB := n5_; clear n0_ n1_ n2_ n3_ n4_ n5_; (try clear hb); (try clear hb2); (try clear hk); (try clear hi); (try clear ho0)
    refine hK.out _ _ ⟨(qfa BK994.out 0).trans rfl, (qfa BK994.out 1).trans rfl, (qfa BK994.out 2).trans rfl⟩ (fun hHeld => ?_)
    clear hK K
    refine norm_ (a' := ?_) ?_ ?_
    rotate_left
    ·show Act.put _ (some 32) _ = _
     simp only [Act.put, qS1, qS2, qS3, i64_w, i32_w]
     rfl
    refine pure_ (i := 5) (N := some 11) (v := ?_) (a' := ?_) #[true, true, true, true, true, true] rfl rfl (by kernel_rfl) (fun _ _ _ h => h) (Or.inl ⟨by rfl, ?_⟩) ?_ ?_
    rotate_left; (intro w'; go_simp; with_reducible rfl); rotate_left; (simp only [Act.put, qS1, qS2, qS3, i64_w, i32_w]; rfl)
    refine done_ (by kernel_rfl) ?_
    have hcz23_0 : w22.cell? ⟨gb994, 0, none⟩ = some (.int .u64 a0_0) := (qfa BK994.out 0).trans rfl
    have hcz23_1 : w22.cell? ⟨gb994, 1, none⟩ = some (.int .i64 a0_1) := (qfa BK994.out 1).trans rfl
    have hcz23_2 : w22.cell? ⟨gb994, 2, none⟩ = some (.int .i64 a0_2) := (qfa BK994.out 2).trans rfl
    have hfz23_0 := qga BK994.out 0
    have hfz23_1 := qga BK994.out 1
    have hfz23_2 := qga BK994.out 2
    obtain ⟨Ao24, co24, eo24⟩ := Kd.R_slice HO1005.out
    subst eo24
    try go_wp2_with (first | ((with_reducible refine qoa (f := 151) rfl ?_); refine goesL_ (some 38) rfl rfl Try.func151 (by kernel_rfl) rfl #[.int .u64 a0_0, .slice A2 l2.length c2, .slice Ao24 t1003.length co24] rfl (by (try simp only [qM1, qM2, qM3]); first | done | rfl) ?_; (with_reducible refine (qnb.calls k a0_0 _ _ l2 _ _ t1003 t1006 t1007 _ ?side1 ?side2 ?side3 ?side4 A10.out).mono ?_); (case side1 => repeat (first | exact (Kd.V_reads' HO2.out).2.2 | (with_reducible first | refine Kd.C_alloc ?_ _ | refine Kd.C_drewN ?_ _ | refine Kd.C_drew ?_))); (case side2 => exact (Kd.V_reads' HO2.out).2.1); (case side3 => repeat (first | exact (Kd.R_reads' HO1005.out).2.2 | (with_reducible first | refine Kd.C_alloc ?_ _ | refine Kd.C_drewN ?_ _ | refine Kd.C_drew ?_))); (case side4 => exact (Kd.R_reads' HO1005.out).2.1); rintro e w25 ⟨v1008, v1010, rfl, ho0, ho1, hb⟩; refine ⟨_, rfl, ?_⟩; have n0_ := Aside0.mk (Kd.V_mono (Kd.V_told (Kd.V_told (Kd.V_old (by (with_reducible repeat first | apply Kd.V_alloc | apply Kd.V_drewN | apply Kd.V_drew); exact HO2.out) hb) (Kd.R_base ho0)) (Kd.R_base ho1)) (fun _ h_ => h_.1)); have n1_ := Aside0.mk (Kd.N_mono (Kd.N_told (Kd.N_told (Kd.N_old (by (with_reducible repeat first | apply Kd.N_alloc | apply Kd.N_drewN | apply Kd.N_drew); exact HO998.out) hb) (Kd.R_base ho0)) (Kd.R_base ho1)) (fun _ h_ => h_.1)); have n2_ := Aside0.mk (Kd.R_mono (Kd.R_told (Kd.R_told (Kd.R_old (by (with_reducible repeat first | apply Kd.qja | apply Kd.qia | apply Kd.R_drew); exact HO1002.out) hb) (Kd.R_base ho0)) (Kd.R_base ho1)) (fun _ h_ => h_.1)); have n3_ := Aside0.mk (Kd.R_mono (Kd.R_told (Kd.R_told (Kd.R_old (by (with_reducible repeat first | apply Kd.qja | apply Kd.qia | apply Kd.R_drew); exact HO1005.out) hb) (Kd.R_base ho0)) (Kd.R_base ho1)) (fun _ h_ => h_.1)); have n4_ := Aside0.mk (Kd.R_lower (Kd.R_new' (Kd.R_new' (Kd.R_newM (M := fun k_ => (w.heap.size ≤ k_)) ho0 (qka (by with_reducible repeat first | exact HB.out | apply qca | apply qba | apply qda | refine qha ?_ GE994.out)) (fun k_ h_ => h_)) (Kd.R_lt (by (with_reducible repeat first | apply Kd.qja | apply Kd.qia | apply Kd.R_drew); exact HO1002.out))) (Kd.R_lt (by (with_reducible repeat first | apply Kd.qja | apply Kd.qia | apply Kd.R_drew); exact HO1005.out))) (qka (by with_reducible repeat first | exact HB.out | apply qca | apply qba | apply qda | refine qha ?_ GE994.out))); have n5_ := Aside0.mk (Kd.R_lower (Kd.R_new' (Kd.R_new' (Kd.R_newM (M := fun k_ => (w.heap.size ≤ k_)) ho1 (qka (by with_reducible repeat first | exact HB.out | apply qca | apply qba | apply qda | refine qha ?_ GE994.out)) (fun k_ h_ => h_)) (Kd.R_lt (by (with_reducible repeat first | apply Kd.qja | apply Kd.qia | apply Kd.R_drew); exact HO1002.out))) (Kd.R_lt (by (with_reducible repeat first | apply Kd.qja | apply Kd.qia | apply Kd.R_drew); exact HO1005.out))) (qka (by with_reducible repeat first | exact HB.out | apply qca | apply qba | apply qda | refine qha ?_ GE994.out))); have n6_ := Aside0.mk (blk_below (g := gb994) (o := .cells #[.int .u64 a0_0, .int .i64 a0_1, .int .i64 a0_2] 24 (0, 0)) (by (with_reducible repeat first | refine qma ?_ _ | refine qpa ?_ | refine qna ?_ _); exact BK994.out) hb); have n7_ := Aside0.mk (qla (by with_reducible repeat first | exact HB.out | apply qca | apply qba | apply qda | refine qha ?_ GE994.out) hb); clear HO2; clear HO998; clear HO1002; clear HO1005; clear BK994; clear HB; have HO2 := n0_; have HO998 := n1_; have HO1002 := n2_; have HO1005 := n3_; have HO1009 := n4_; have HO1011 := n5_; have BK994 := n6_; have HB := n7_; clear n0_ n1_ n2_ n3_ n4_ n5_ n6_ n7_; (try clear hb); (try clear hb2); (try clear hk); (try clear hi); (try clear ho0); (try clear ho1); obtain ⟨Ao26, co26, eo26⟩ := Kd.R_slice HO1011.out; subst eo26))
    go_ret3
    exact ⟨_, _, by first | rfl | (simp [errW_none, errW_some] <;> rfl) | (simp [*, errW_none, errW_some] <;> rfl), by first | exact Kd.R_nil _ _ _ _ _ | exact Kd.N_nil _ _ _ _ _ | exact Kd.V_nil _ _ _ _ _ | exact Kd.Q_nil _ _ _ _ _ | exact Kd.S_nil _ _ _ _ _, by first | exact Kd.R_nil _ _ _ _ _ | exact Kd.N_nil _ _ _ _ _ | exact Kd.V_nil _ _ _ _ _ | exact Kd.Q_nil _ _ _ _ _ | exact Kd.S_nil _ _ _ _ _, by repeat (first | (with_reducible first | exact HB.out | apply qca | apply qba | apply qda | refine qha ?_ GE994.out) | exact HB.out)⟩
   ·rw [if_neg c11] at H
    have c11b0 : decide (0 < (t1007.length : Int)) = false := decide_eq_false c11
    have c11b1 : decide (0 < t1007.length) = false := decide_eq_false (by omega)
    clear c11
    simp only [Option.some.injEq, Prod.mk.injEq] at H
    obtain ⟨rfl, rfl, rfl⟩ := H
    go_enter Try.func86, Try.ntmps86
    try go_wp2_with (first | ((with_reducible refine gate_dst (N := 3) rfl ?_); refine box_event ?hg (N := 3) ?hd (cs := #[.int .u64 a0_0, .int .i64 a0_1, .int .i64 a0_2]) (t := 24) ?hr ?_; (case hd => rfl); (case hg => rfl); (case hr => first | (go_simp; done) | (go_simp; rfl)); intro gb994 hg w27 hbox hb; have n0_ := Aside0.mk (Kd.V_below (Kd.V_elderB (by (with_reducible repeat first | apply Kd.V_alloc | apply Kd.V_drewN | apply Kd.V_drew); exact HO2.out) gb994 (Nat.le_of_eq hg.symm)) hb); have n1_ := Aside0.mk (qla (by with_reducible repeat first | exact HB.out | apply qca | apply qba | apply qda) hb); have n2_ := Aside0.mk (hbox); have n3_ := Aside0.mk ((by rw [hg]; exact (qka (by with_reducible repeat first | exact HB.out | apply qca | apply qba | apply qda)) : w.heap.size ≤ gb994)); have n4_ := Aside0.mk ((by rw [hg]; exact (qka (by with_reducible repeat first | exact HB.out | apply qca | apply qba | apply qda)) : w.heap.size ≤ gb994)); clear HO2; clear HB; have HO2 := n0_; have HB := n1_; have BK994 := n2_; have GW994 := n3_; have GE994 := n4_; clear n0_ n1_ n2_ n3_ n4_; clear hb hbox hg; have hcz28_0 : w27.cell? ⟨gb994, 0, none⟩ = some (.int .u64 a0_0) := (qfa BK994.out 0).trans rfl; have hcz28_1 : w27.cell? ⟨gb994, 1, none⟩ = some (.int .i64 a0_1) := (qfa BK994.out 1).trans rfl; have hcz28_2 : w27.cell? ⟨gb994, 2, none⟩ = some (.int .i64 a0_2) := (qfa BK994.out 2).trans rfl; have hfz28_0 := qga BK994.out 0; have hfz28_1 := qga BK994.out 1; have hfz28_2 := qga BK994.out 2) | ((with_reducible refine qoa (f := 65) rfl ?_); refine goesL_ (some 16) rfl rfl Try.func65 (by kernel_rfl) rfl #[.agg #[.int .u64 a0_0, .int .i64 a0_1, .int .i64 a0_2], .slice A1 l1.length c1] rfl (by (try simp only [qM1, qM2, qM3]); first | done | rfl) ?_; (with_reducible refine (qlb.calls k a0_0 a0_1 a0_2 _ _ l1 t995 _ ?side1 ?side2 A4.out).mono ?_); (case side1 => repeat (first | exact (Kd.C_below HR1.out HB.out) | (with_reducible first | refine Kd.C_alloc ?_ _ | refine Kd.C_drewN ?_ _ | refine Kd.C_drew ?_))); (case side2 => exact HC1.out); rintro e w29 ⟨rfl, hb⟩; refine ⟨_, rfl, ?_⟩; have n0_ := Aside0.mk (Kd.V_below (by (with_reducible repeat first | apply Kd.V_alloc | apply Kd.V_drewN | apply Kd.V_drew); exact HO2.out) hb); have n1_ := Aside0.mk (blk_below (g := gb994) (o := .cells #[.int .u64 a0_0, .int .i64 a0_1, .int .i64 a0_2] 24 (0, 0)) (by (with_reducible repeat first | refine qma ?_ _ | refine qpa ?_ | refine qna ?_ _); exact BK994.out) hb); have n2_ := Aside0.mk (qla (by with_reducible repeat first | exact HB.out | apply qca | apply qba | apply qda | refine qha ?_ GE994.out) hb); clear HO2; clear BK994; clear HB; have HO2 := n0_; have BK994 := n1_; have HB := n2_; clear n0_ n1_ n2_; (try clear hb); (try clear hb2); (try clear hk); (try clear hi); have hcz30_0 : w29.cell? ⟨gb994, 0, none⟩ = some (.int .u64 a0_0) := (qfa BK994.out 0).trans rfl; have hcz30_1 : w29.cell? ⟨gb994, 1, none⟩ = some (.int .i64 a0_1) := (qfa BK994.out 1).trans rfl; have hcz30_2 : w29.cell? ⟨gb994, 2, none⟩ = some (.int .i64 a0_2) := (qfa BK994.out 2).trans rfl; have hfz30_0 := qga BK994.out 0; have hfz30_1 := qga BK994.out 1; have hfz30_2 := qga BK994.out 2) | ((with_reducible refine gate_dst (N := 23) rfl ?_); refine Kd.N_lit (Kd.slice 22 (Kd.int .u64)) _ 31 ?hg (N' := 23) ?hd (xs := ([l2] : List (List Int))) (inner := [.slice A2 l2.length c2]) (ok := (fun k_ => (P2_ k_ ∨ w.heap.size ≤ k_) ∧ k_ ≠ gb994)) (okp := (fun k_ => (P2_ k_ ∨ w.heap.size ≤ k_) ∧ k_ ≠ gb994)) ?hr ?hp (fun _ hk => hk) ((show ∀ k_, w29.heap.size ≤ k_ → (fun k_ => (P2_ k_ ∨ w.heap.size ≤ k_) ∧ k_ ≠ gb994) k_ from fun k_ hk => ⟨(.inr (Nat.le_trans (qka (by with_reducible repeat first | exact HB.out | apply qca | apply qba | apply qda | refine qha ?_ GE994.out)) hk)), Kd.freshB (g := gb994) (o := .cells #[.int .u64 a0_0, .int .i64 a0_1, .int .i64 a0_2] 24 (0, 0)) (by (with_reducible repeat first | refine qma ?_ _ | refine qpa ?_ | refine qna ?_ _); exact BK994.out) k_ hk⟩) _ (Nat.le_refl _)) (Below.refl _ _) (Nat.le_refl _) (by simp) ?_; (case hd => rfl); (case hg => rfl); (case hr => first | (go_simp; done) | (go_simp; rfl)); (case hp => exact (Reps.one (show Kd.FK (Kd.slice 22 (Kd.int .u64)) _ _ l2 [.slice A2 l2.length c2] from (Kd.FK_slice_mk (Kd.V_reads' (Kd.V_mono (ok' := (fun k_ => (P2_ k_ ∨ w.heap.size ≤ k_) ∧ k_ ≠ gb994)) (HO2.out) (fun k_ hk => ⟨hk.1, hk.2⟩))).2.1 (Kd.V_F (Kd.V_mono (ok' := (fun k_ => (P2_ k_ ∨ w.heap.size ≤ k_) ∧ k_ ≠ gb994)) (HO2.out) (fun k_ hk => ⟨hk.1, hk.2⟩))))) (Reps.none _ _))); intro v997 w31 ho32 hb hg_ hnew_; clear hg_ hnew_; (first | rw [← Ny996.out] at ho32 | (simp only [Int.reduceToNat] at ho32; rw [← Ny996.out] at ho32)); have n0_ := Aside0.mk (Kd.V_elder' (by (with_reducible repeat first | apply Kd.V_alloc | apply Kd.V_drewN | apply Kd.V_drew); exact HO2.out) (Kd.N_base ho32) hb); have n1_ := Aside0.mk (Kd.N_lower ho32 (qka (by with_reducible repeat first | exact HB.out | apply qca | apply qba | apply qda | refine qha ?_ GE994.out))); have n2_ := Aside0.mk (blk_below (g := gb994) (o := .cells #[.int .u64 a0_0, .int .i64 a0_1, .int .i64 a0_2] 24 (0, 0)) (by (with_reducible repeat first | refine qma ?_ _ | refine qpa ?_ | refine qna ?_ _); exact BK994.out) hb); have n3_ := Aside0.mk (qla (by with_reducible repeat first | exact HB.out | apply qca | apply qba | apply qda | refine qha ?_ GE994.out) hb); clear HO2; clear BK994; clear HB; have HO2 := n0_; have HO998 := n1_; have BK994 := n2_; have HB := n3_; clear n0_ n1_ n2_ n3_; clear hb ho32; obtain ⟨Ao33, co33, eo33⟩ := Kd.N_slice HO998.out; subst eo33) | ((with_reducible refine qoa (f := 138) rfl ?_); refine goesL_ (some 24) rfl rfl Try.func138 (by kernel_rfl) rfl #[.int .u64 a0_0, .slice Ao33 y996.length co33] rfl (by (try simp only [qM1, qM2, qM3]); first | done | rfl) ?_; (with_reducible refine (poly_Is.calls k a0_0 _ _ y996 t999 _ ?side1 ?side2 A6.out).mono ?_); (case side1 => repeat (first | exact (Kd.N_reads' HO998.out).2.2 | (with_reducible first | refine Kd.C_alloc ?_ _ | refine Kd.C_drewN ?_ _ | refine Kd.C_drew ?_))); (case side2 => exact (Kd.N_reads' HO998.out).2.1); rintro e w' ⟨rfl, ⟨nd, rfl⟩⟩; refine ⟨_, rfl, ?_⟩))
    (try (rw [drewN_self w31]; generalize hq_ : World.drewN w31 _ = w31; have n0_ : Aside0 (Kd.V (Kd.int .u64) 22 w31 w.heap.size (fun k_ => (P2_ k_ ∨ w.heap.size ≤ k_) ∧ some k_ ≠ (.slice Ao33 y996.length co33 : Value).ownBlock ∧ k_ ≠ gb994) (.slice A2 l2.length c2) l2) := ⟨by rw [← hq_]; exact (by (with_reducible repeat first | apply Kd.V_alloc | apply Kd.V_drewN | apply Kd.V_drew); exact Kd.V_mono HO2.out (fun _ hk => ⟨hk.1.1, ⟨hk.2, hk.1.2⟩⟩))⟩; have n1_ : Aside0 (Kd.N (Kd.slice 22 (Kd.int .u64)) 31 w31 w.heap.size (fun k_ => (P2_ k_ ∨ w.heap.size ≤ k_) ∧ k_ ≠ gb994) (.slice Ao33 y996.length co33) y996) := ⟨by rw [← hq_]; exact (by (with_reducible repeat first | apply Kd.N_alloc | apply Kd.N_drewN | apply Kd.N_drew); exact HO998.out)⟩; have n2_ : Aside0 (w31.heap[gb994]? = some (.cells #[.int .u64 a0_0, .int .i64 a0_1, .int .i64 a0_2] 24 (0, 0))) := ⟨by rw [← hq_]; exact (by (with_reducible repeat first | refine qma ?_ _ | refine qpa ?_ | refine qna ?_ _); exact BK994.out)⟩; have n3_ : Aside0 (Below w.heap.size w w31) := ⟨by rw [← hq_]; exact (by with_reducible repeat first | exact HB.out | apply qca | apply qba | apply qda | refine qha ?_ GE994.out)⟩; clear HO2 HO998 BK994 HB hq_; have HO2 := n0_; have HO998 := n1_; have BK994 := n2_; have HB := n3_; clear n0_ n1_ n2_ n3_))
    have n0_ := Aside0.mk (Kd.V_drew HO2.out)
    have n1_ := Aside0.mk (Kd.N_drew HO998.out)
    have n2_ := Aside0.mk (qpa BK994.out)
    have n3_ := Aside0.mk (qda HB.out)
    clear HO2 HO998 BK994 HB; have HO2 := n0_; have HO998 := n1_; have BK994 := n2_; have HB := n3_; clear n0_ n1_ n2_ n3_
    refine start_ (n := 6) (S := fun w' => w'.cell? ⟨gb994, 0, none⟩ = some (.int .u64 a0_0) ∧ w'.cell? ⟨gb994, 1, none⟩ = some (.int .i64 a0_1) ∧ w'.cell? ⟨gb994, 2, none⟩ = some (.int .i64 a0_2)) (ds := []) #[false, false, false, false, false, false] (by kernel_rfl) rfl rfl ⟨(qfa BK994.out 0).trans rfl, (qfa BK994.out 1).trans rfl, (qfa BK994.out 2).trans rfl⟩ (fun hHeld => ?_)
    generalize w31.drew = w34 at HO2 HO998 BK994 HB hHeld ⊢
    refine pure_ (i := 0) (N := some 28) (v := ?_) (a' := ?_) #[true, false, false, false, false, false] rfl rfl (by kernel_rfl) (fun _ _ _ h => h) (Or.inl ⟨by rfl, ?_⟩) ?_ ?_
    rotate_left; (intro w'; go_simp; with_reducible rfl); rotate_left; (simp only [Act.put, qS1, qS2, qS3, i64_w, i32_w]; rfl)
    refine pure_ (i := 2) (N := some 30) (v := ?_) (a' := ?_) #[true, false, true, false, false, false] rfl rfl (by kernel_rfl) (fun _ _ _ h => h) (Or.inl ⟨by rfl, ?_⟩) ?_ ?_
    rotate_left; (intro w'; go_simp; with_reducible rfl); rotate_left; (simp only [Act.put, qS1, qS2, qS3, i64_w, i32_w]; rfl)
    refine take_ (i := 1) (N := some 29) (v := ?_) (a' := ?_) #[true, true, true, false, false, false] rfl rfl (by kernel_rfl) (fun _ _ _ h => h) (Or.inl ⟨by rfl, ?_⟩) hHeld ?_ ?_
    rotate_left; (rintro w' ⟨s0, s1, s2⟩; go_simp; with_reducible rfl); rotate_left; (simp only [Act.put, qS1, qS2, qS3, i64_w, i32_w]; rfl)
    refine one_ (i := 3) (N := some 31) #[true, true, true, true, false, false] rfl rfl (by kernel_rfl) (by decide) (fun K hK => ?_)
    refine goes_ Try.func141 (by kernel_rfl) rfl #[.slice A1 l1.length c1] (by rfl) rfl rfl (by (try simp only [qM1, qM2, qM3]); first | done | rfl | (simp only [List.length_drop, List.length_take]; rfl)) ?_
    with_reducible refine (share_Places.calls k _ _ l1 t1000 _ ?side1 ?side2 A8.out).mono ?_
    (case side1 => repeat (first | exact (Kd.C_below HR1.out HB.out) | (with_reducible first | refine Kd.C_alloc ?_ _ | refine Kd.C_drewN ?_ _ | refine Kd.C_drew ?_)))
    (case side2 => exact HC1.out)
    rintro e w35 ⟨v1001, rfl, ho0, hb⟩
    refine ⟨_, rfl, ?_⟩
    have n0_ := Aside0.mk (Kd.V_elder' (by (with_reducible repeat first | apply Kd.V_alloc | apply Kd.V_drewN | apply Kd.V_drew); exact HO2.out) (Kd.R_base ho0) hb)
    have n1_ := Aside0.mk (Kd.N_elder' (by (with_reducible repeat first | apply Kd.N_alloc | apply Kd.N_drewN | apply Kd.N_drew); exact HO998.out) (Kd.R_base ho0) hb)
    have n2_ := Aside0.mk (Kd.R_lower (Kd.R_newM (M := fun k_ => (w.heap.size ≤ k_)) ho0 (qka (by with_reducible repeat first | exact HB.out | apply qca | apply qba | apply qda | refine qha ?_ GE994.out)) (fun k_ h_ => h_)) (qka (by with_reducible repeat first | exact HB.out | apply qca | apply qba | apply qda | refine qha ?_ GE994.out)))
    have n3_ := Aside0.mk (blk_below (g := gb994) (o := .cells #[.int .u64 a0_0, .int .i64 a0_1, .int .i64 a0_2] 24 (0, 0)) (by (with_reducible repeat first | refine qma ?_ _ | refine qpa ?_ | refine qna ?_ _); exact BK994.out) hb)
    have n4_ := Aside0.mk (qla (by with_reducible repeat first | exact HB.out | apply qca | apply qba | apply qda | refine qha ?_ GE994.out) hb)
    clear HO2 HO998 BK994 HB; have HO2 := n0_; have HO998 := n1_; have HO1002 := n2_; have BK994 := n3_; have HB := n4_; clear n0_ n1_ n2_ n3_ n4_; (try clear hb); (try clear hb2); (try clear hk); (try clear hi); (try clear ho0)
    obtain ⟨Ao36, co36, eo36⟩ := Kd.R_slice HO1002.out
    (first | subst eo36 | (injection eo36 with f1_ f2_ f3_; have f4_ := f1_.symm; have f5_ := f3_.symm; clear f1_ f2_ f3_; subst f4_; subst f5_))
    refine hK.out _ _ ⟨(qfa BK994.out 0).trans rfl, (qfa BK994.out 1).trans rfl, (qfa BK994.out 2).trans rfl⟩ (fun hHeld => ?_)
    clear hK K
    refine norm_ (a' := ?_) ?_ ?_
    rotate_left
    ·show Act.put _ (some 31) _ = _
     simp only [Act.put, qS1, qS2, qS3, i64_w, i32_w]
     rfl
    refine one_ (i := 4) (N := some 32) #[true, true, true, true, true, false] rfl rfl (by kernel_rfl) (by decide) (fun K hK => ?_)
    refine goes_ Try.func140 (by kernel_rfl) rfl #[.int .u64 a0_0, .slice Ao36 t1000.length co36] (by rfl) rfl rfl (by (try simp only [qM1, qM2, qM3]); first | done | rfl | (simp only [List.length_drop, List.length_take]; rfl)) ?_
    with_reducible refine (poly_Gone.calls k a0_0 _ _ t1000 t1003 _ ?side1 ?side2 A9.out).mono ?_
    (case side1 => repeat (first | exact (Kd.R_reads' HO1002.out).2.2 | (with_reducible first | refine Kd.C_alloc ?_ _ | refine Kd.C_drewN ?_ _ | refine Kd.C_drew ?_)))
    (case side2 => exact (Kd.R_reads' HO1002.out).2.1)
    rintro e w37 ⟨v1004, rfl, ho0, hb⟩
    refine ⟨_, rfl, ?_⟩
    have n0_ := Aside0.mk (Kd.V_elder' (by (with_reducible repeat first | apply Kd.V_alloc | apply Kd.V_drewN | apply Kd.V_drew); exact HO2.out) (Kd.R_base ho0) hb)
    have n1_ := Aside0.mk (Kd.N_elder' (by (with_reducible repeat first | apply Kd.N_alloc | apply Kd.N_drewN | apply Kd.N_drew); exact HO998.out) (Kd.R_base ho0) hb)
    have n2_ := Aside0.mk (Kd.R_elder' (by (with_reducible repeat first | apply Kd.qja | apply Kd.qia | apply Kd.R_drew); exact HO1002.out) (Kd.R_base ho0) hb)
    have n3_ := Aside0.mk (Kd.R_lower (Kd.R_new' (Kd.R_newM (M := fun k_ => (w.heap.size ≤ k_)) ho0 (qka (by with_reducible repeat first | exact HB.out | apply qca | apply qba | apply qda | refine qha ?_ GE994.out)) (fun k_ h_ => h_)) (Kd.R_lt (by (with_reducible repeat first | apply Kd.qja | apply Kd.qia | apply Kd.R_drew); exact HO1002.out))) (qka (by with_reducible repeat first | exact HB.out | apply qca | apply qba | apply qda | refine qha ?_ GE994.out)))
    have n4_ := Aside0.mk (blk_below (g := gb994) (o := .cells #[.int .u64 a0_0, .int .i64 a0_1, .int .i64 a0_2] 24 (0, 0)) (by (with_reducible repeat first | refine qma ?_ _ | refine qpa ?_ | refine qna ?_ _); exact BK994.out) hb)
    have n5_ := Aside0.mk (qla (by with_reducible repeat first | exact HB.out | apply qca | apply qba | apply qda | refine qha ?_ GE994.out) hb)
    clear HO2 HO998 HO1002 BK994 HB; have HO2 := n0_; have HO998 := n1_; have HO1002 := n2_; have HO1005 := n3_; have BK994 := n4_; have HB := n5_; clear n0_ n1_ n2_ n3_ n4_ n5_; (try clear hb); (try clear hb2); (try clear hk); (try clear hi); (try clear ho0)
    refine hK.out _ _ ⟨(qfa BK994.out 0).trans rfl, (qfa BK994.out 1).trans rfl, (qfa BK994.out 2).trans rfl⟩ (fun hHeld => ?_)
    clear hK K
    refine norm_ (a' := ?_) ?_ ?_
    rotate_left
    ·show Act.put _ (some 32) _ = _
     simp only [Act.put, qS1, qS2, qS3, i64_w, i32_w]
     rfl
    refine pure_ (i := 5) (N := some 11) (v := ?_) (a' := ?_) #[true, true, true, true, true, true] rfl rfl (by kernel_rfl) (fun _ _ _ h => h) (Or.inl ⟨by rfl, ?_⟩) ?_ ?_
    rotate_left; (intro w'; go_simp; with_reducible rfl); rotate_left; (simp only [Act.put, qS1, qS2, qS3, i64_w, i32_w]; rfl)
    refine done_ (by kernel_rfl) ?_
    have hcz38_0 : w37.cell? ⟨gb994, 0, none⟩ = some (.int .u64 a0_0) := (qfa BK994.out 0).trans rfl
    have hcz38_1 : w37.cell? ⟨gb994, 1, none⟩ = some (.int .i64 a0_1) := (qfa BK994.out 1).trans rfl
    have hcz38_2 : w37.cell? ⟨gb994, 2, none⟩ = some (.int .i64 a0_2) := (qfa BK994.out 2).trans rfl
    have hfz38_0 := qga BK994.out 0
    have hfz38_1 := qga BK994.out 1
    have hfz38_2 := qga BK994.out 2
    obtain ⟨Ao39, co39, eo39⟩ := Kd.R_slice HO1005.out
    subst eo39
    try go_wp2_with (first | ((with_reducible refine qoa (f := 151) rfl ?_); refine goesL_ (some 38) rfl rfl Try.func151 (by kernel_rfl) rfl #[.int .u64 a0_0, .slice A2 l2.length c2, .slice Ao39 t1003.length co39] rfl (by (try simp only [qM1, qM2, qM3]); first | done | rfl) ?_; (with_reducible refine (qnb.calls k a0_0 _ _ l2 _ _ t1003 t1006 t1007 _ ?side1 ?side2 ?side3 ?side4 A10.out).mono ?_); (case side1 => repeat (first | exact (Kd.V_reads' HO2.out).2.2 | (with_reducible first | refine Kd.C_alloc ?_ _ | refine Kd.C_drewN ?_ _ | refine Kd.C_drew ?_))); (case side2 => exact (Kd.V_reads' HO2.out).2.1); (case side3 => repeat (first | exact (Kd.R_reads' HO1005.out).2.2 | (with_reducible first | refine Kd.C_alloc ?_ _ | refine Kd.C_drewN ?_ _ | refine Kd.C_drew ?_))); (case side4 => exact (Kd.R_reads' HO1005.out).2.1); rintro e w40 ⟨v1008, v1010, rfl, ho0, ho1, hb⟩; refine ⟨_, rfl, ?_⟩; have n0_ := Aside0.mk (Kd.V_mono (Kd.V_told (Kd.V_told (Kd.V_old (by (with_reducible repeat first | apply Kd.V_alloc | apply Kd.V_drewN | apply Kd.V_drew); exact HO2.out) hb) (Kd.R_base ho0)) (Kd.R_base ho1)) (fun _ h_ => h_.1)); have n1_ := Aside0.mk (Kd.N_mono (Kd.N_told (Kd.N_told (Kd.N_old (by (with_reducible repeat first | apply Kd.N_alloc | apply Kd.N_drewN | apply Kd.N_drew); exact HO998.out) hb) (Kd.R_base ho0)) (Kd.R_base ho1)) (fun _ h_ => h_.1)); have n2_ := Aside0.mk (Kd.R_mono (Kd.R_told (Kd.R_told (Kd.R_old (by (with_reducible repeat first | apply Kd.qja | apply Kd.qia | apply Kd.R_drew); exact HO1002.out) hb) (Kd.R_base ho0)) (Kd.R_base ho1)) (fun _ h_ => h_.1)); have n3_ := Aside0.mk (Kd.R_mono (Kd.R_told (Kd.R_told (Kd.R_old (by (with_reducible repeat first | apply Kd.qja | apply Kd.qia | apply Kd.R_drew); exact HO1005.out) hb) (Kd.R_base ho0)) (Kd.R_base ho1)) (fun _ h_ => h_.1)); have n4_ := Aside0.mk (Kd.R_lower (Kd.R_new' (Kd.R_new' (Kd.R_newM (M := fun k_ => (w.heap.size ≤ k_)) ho0 (qka (by with_reducible repeat first | exact HB.out | apply qca | apply qba | apply qda | refine qha ?_ GE994.out)) (fun k_ h_ => h_)) (Kd.R_lt (by (with_reducible repeat first | apply Kd.qja | apply Kd.qia | apply Kd.R_drew); exact HO1002.out))) (Kd.R_lt (by (with_reducible repeat first | apply Kd.qja | apply Kd.qia | apply Kd.R_drew); exact HO1005.out))) (qka (by with_reducible repeat first | exact HB.out | apply qca | apply qba | apply qda | refine qha ?_ GE994.out))); have n5_ := Aside0.mk (Kd.R_lower (Kd.R_new' (Kd.R_new' (Kd.R_newM (M := fun k_ => (w.heap.size ≤ k_)) ho1 (qka (by with_reducible repeat first | exact HB.out | apply qca | apply qba | apply qda | refine qha ?_ GE994.out)) (fun k_ h_ => h_)) (Kd.R_lt (by (with_reducible repeat first | apply Kd.qja | apply Kd.qia | apply Kd.R_drew); exact HO1002.out))) (Kd.R_lt (by (with_reducible repeat first | apply Kd.qja | apply Kd.qia | apply Kd.R_drew); exact HO1005.out))) (qka (by with_reducible repeat first | exact HB.out | apply qca | apply qba | apply qda | refine qha ?_ GE994.out))); have n6_ := Aside0.mk (blk_below (g := gb994) (o := .cells #[.int .u64 a0_0, .int .i64 a0_1, .int .i64 a0_2] 24 (0, 0)) (by (with_reducible repeat first | refine qma ?_ _ | refine qpa ?_ | refine qna ?_ _); exact BK994.out) hb); have n7_ := Aside0.mk (qla (by with_reducible repeat first | exact HB.out | apply qca | apply qba | apply qda | refine qha ?_ GE994.out) hb); clear HO2; clear HO998; clear HO1002; clear HO1005; clear BK994; clear HB; have HO2 := n0_; have HO998 := n1_; have HO1002 := n2_; have HO1005 := n3_; have HO1009 := n4_; have HO1011 := n5_; have BK994 := n6_; have HB := n7_; clear n0_ n1_ n2_ n3_ n4_ n5_ n6_ n7_; (try clear hb); (try clear hb2); (try clear hk); (try clear hi); (try clear ho0); (try clear ho1); obtain ⟨Ao41, co41, eo41⟩ := Kd.R_slice HO1011.out; subst eo41))
    go_ret3
    exact ⟨_, _, by first | rfl | (simp [errW_none, errW_some] <;> rfl) | (simp [*, errW_none, errW_some] <;> rfl), by (with_reducible repeat first | apply Kd.qja | apply Kd.qia | apply Kd.R_drew); exact Kd.R_mono HO1005.out (fun _ hk => ⟨hk.1.1.1.1, hk.1.2⟩), by (with_reducible repeat first | apply Kd.qja | apply Kd.qia | apply Kd.R_drew); exact Kd.R_mono HO1009.out (fun _ hk => ⟨hk.1.1.1, hk.2⟩), by repeat (first | (with_reducible first | exact HB.out | apply qca | apply qba | apply qda | refine qha ?_ GE994.out) | exact HB.out)⟩
  ·rw [if_neg c7] at H
   have c7b0 : (t999 == 0) = false := beq_eq_false_iff_ne.mpr c7
   have c7b1 : (t999 != 0) = true := bne_iff_ne.mpr c7
   simp only [Option.some.injEq, Prod.mk.injEq] at H
   obtain ⟨rfl, rfl, rfl⟩ := H
   go_enter Try.func86, Try.ntmps86
   go_wp2_with (first | ((with_reducible refine gate_dst (N := 3) rfl ?_); refine box_event ?hg (N := 3) ?hd (cs := #[.int .u64 a0_0, .int .i64 a0_1, .int .i64 a0_2]) (t := 24) ?hr ?_; (case hd => rfl); (case hg => rfl); (case hr => first | (go_simp; done) | (go_simp; rfl)); intro gb994 hg w42 hbox hb; have n0_ := Aside0.mk (Kd.V_below (Kd.V_elderB (by (with_reducible repeat first | apply Kd.V_alloc | apply Kd.V_drewN | apply Kd.V_drew); exact HO2.out) gb994 (Nat.le_of_eq hg.symm)) hb); have n1_ := Aside0.mk (qla (by with_reducible repeat first | exact HB.out | apply qca | apply qba | apply qda) hb); have n2_ := Aside0.mk (hbox); have n3_ := Aside0.mk ((by rw [hg]; exact (qka (by with_reducible repeat first | exact HB.out | apply qca | apply qba | apply qda)) : w.heap.size ≤ gb994)); have n4_ := Aside0.mk ((by rw [hg]; exact (qka (by with_reducible repeat first | exact HB.out | apply qca | apply qba | apply qda)) : w.heap.size ≤ gb994)); clear HO2; clear HB; have HO2 := n0_; have HB := n1_; have BK994 := n2_; have GW994 := n3_; have GE994 := n4_; clear n0_ n1_ n2_ n3_ n4_; clear hb hbox hg; have hcz43_0 : w42.cell? ⟨gb994, 0, none⟩ = some (.int .u64 a0_0) := (qfa BK994.out 0).trans rfl; have hcz43_1 : w42.cell? ⟨gb994, 1, none⟩ = some (.int .i64 a0_1) := (qfa BK994.out 1).trans rfl; have hcz43_2 : w42.cell? ⟨gb994, 2, none⟩ = some (.int .i64 a0_2) := (qfa BK994.out 2).trans rfl; have hfz43_0 := qga BK994.out 0; have hfz43_1 := qga BK994.out 1; have hfz43_2 := qga BK994.out 2) | ((with_reducible refine qoa (f := 65) rfl ?_); refine goesL_ (some 16) rfl rfl Try.func65 (by kernel_rfl) rfl #[.agg #[.int .u64 a0_0, .int .i64 a0_1, .int .i64 a0_2], .slice A1 l1.length c1] rfl (by (try simp only [qM1, qM2, qM3]); first | done | rfl) ?_; (with_reducible refine (qlb.calls k a0_0 a0_1 a0_2 _ _ l1 t995 _ ?side1 ?side2 A4.out).mono ?_); (case side1 => repeat (first | exact (Kd.C_below HR1.out HB.out) | (with_reducible first | refine Kd.C_alloc ?_ _ | refine Kd.C_drewN ?_ _ | refine Kd.C_drew ?_))); (case side2 => exact HC1.out); rintro e w44 ⟨rfl, hb⟩; refine ⟨_, rfl, ?_⟩; have n0_ := Aside0.mk (Kd.V_below (by (with_reducible repeat first | apply Kd.V_alloc | apply Kd.V_drewN | apply Kd.V_drew); exact HO2.out) hb); have n1_ := Aside0.mk (blk_below (g := gb994) (o := .cells #[.int .u64 a0_0, .int .i64 a0_1, .int .i64 a0_2] 24 (0, 0)) (by (with_reducible repeat first | refine qma ?_ _ | refine qpa ?_ | refine qna ?_ _); exact BK994.out) hb); have n2_ := Aside0.mk (qla (by with_reducible repeat first | exact HB.out | apply qca | apply qba | apply qda | refine qha ?_ GE994.out) hb); clear HO2; clear BK994; clear HB; have HO2 := n0_; have BK994 := n1_; have HB := n2_; clear n0_ n1_ n2_; (try clear hb); (try clear hb2); (try clear hk); (try clear hi); have hcz45_0 : w44.cell? ⟨gb994, 0, none⟩ = some (.int .u64 a0_0) := (qfa BK994.out 0).trans rfl; have hcz45_1 : w44.cell? ⟨gb994, 1, none⟩ = some (.int .i64 a0_1) := (qfa BK994.out 1).trans rfl; have hcz45_2 : w44.cell? ⟨gb994, 2, none⟩ = some (.int .i64 a0_2) := (qfa BK994.out 2).trans rfl; have hfz45_0 := qga BK994.out 0; have hfz45_1 := qga BK994.out 1; have hfz45_2 := qga BK994.out 2) | ((with_reducible refine gate_dst (N := 23) rfl ?_); refine Kd.N_lit (Kd.slice 22 (Kd.int .u64)) _ 31 ?hg (N' := 23) ?hd (xs := ([l2] : List (List Int))) (inner := [.slice A2 l2.length c2]) (ok := (fun k_ => (P2_ k_ ∨ w.heap.size ≤ k_) ∧ k_ ≠ gb994)) (okp := (fun k_ => (P2_ k_ ∨ w.heap.size ≤ k_) ∧ k_ ≠ gb994)) ?hr ?hp (fun _ hk => hk) ((show ∀ k_, w44.heap.size ≤ k_ → (fun k_ => (P2_ k_ ∨ w.heap.size ≤ k_) ∧ k_ ≠ gb994) k_ from fun k_ hk => ⟨(.inr (Nat.le_trans (qka (by with_reducible repeat first | exact HB.out | apply qca | apply qba | apply qda | refine qha ?_ GE994.out)) hk)), Kd.freshB (g := gb994) (o := .cells #[.int .u64 a0_0, .int .i64 a0_1, .int .i64 a0_2] 24 (0, 0)) (by (with_reducible repeat first | refine qma ?_ _ | refine qpa ?_ | refine qna ?_ _); exact BK994.out) k_ hk⟩) _ (Nat.le_refl _)) (Below.refl _ _) (Nat.le_refl _) (by simp) ?_; (case hd => rfl); (case hg => rfl); (case hr => first | (go_simp; done) | (go_simp; rfl)); (case hp => exact (Reps.one (show Kd.FK (Kd.slice 22 (Kd.int .u64)) _ _ l2 [.slice A2 l2.length c2] from (Kd.FK_slice_mk (Kd.V_reads' (Kd.V_mono (ok' := (fun k_ => (P2_ k_ ∨ w.heap.size ≤ k_) ∧ k_ ≠ gb994)) (HO2.out) (fun k_ hk => ⟨hk.1, hk.2⟩))).2.1 (Kd.V_F (Kd.V_mono (ok' := (fun k_ => (P2_ k_ ∨ w.heap.size ≤ k_) ∧ k_ ≠ gb994)) (HO2.out) (fun k_ hk => ⟨hk.1, hk.2⟩))))) (Reps.none _ _))); intro v997 w46 ho47 hb hg_ hnew_; clear hg_ hnew_; (first | rw [← Ny996.out] at ho47 | (simp only [Int.reduceToNat] at ho47; rw [← Ny996.out] at ho47)); have n0_ := Aside0.mk (Kd.V_elder' (by (with_reducible repeat first | apply Kd.V_alloc | apply Kd.V_drewN | apply Kd.V_drew); exact HO2.out) (Kd.N_base ho47) hb); have n1_ := Aside0.mk (Kd.N_lower ho47 (qka (by with_reducible repeat first | exact HB.out | apply qca | apply qba | apply qda | refine qha ?_ GE994.out))); have n2_ := Aside0.mk (blk_below (g := gb994) (o := .cells #[.int .u64 a0_0, .int .i64 a0_1, .int .i64 a0_2] 24 (0, 0)) (by (with_reducible repeat first | refine qma ?_ _ | refine qpa ?_ | refine qna ?_ _); exact BK994.out) hb); have n3_ := Aside0.mk (qla (by with_reducible repeat first | exact HB.out | apply qca | apply qba | apply qda | refine qha ?_ GE994.out) hb); clear HO2; clear BK994; clear HB; have HO2 := n0_; have HO998 := n1_; have BK994 := n2_; have HB := n3_; clear n0_ n1_ n2_ n3_; clear hb ho47; obtain ⟨Ao48, co48, eo48⟩ := Kd.N_slice HO998.out; subst eo48) | ((with_reducible refine qoa (f := 138) rfl ?_); refine goesL_ (some 24) rfl rfl Try.func138 (by kernel_rfl) rfl #[.int .u64 a0_0, .slice Ao48 y996.length co48] rfl (by (try simp only [qM1, qM2, qM3]); first | done | rfl) ?_; (with_reducible refine (poly_Is.calls k a0_0 _ _ y996 t999 _ ?side1 ?side2 A6.out).mono ?_); (case side1 => repeat (first | exact (Kd.N_reads' HO998.out).2.2 | (with_reducible first | refine Kd.C_alloc ?_ _ | refine Kd.C_drewN ?_ _ | refine Kd.C_drew ?_))); (case side2 => exact (Kd.N_reads' HO998.out).2.1); rintro e w' ⟨rfl, ⟨nd, rfl⟩⟩; refine ⟨_, rfl, ?_⟩))
   go_ret3
   exact ⟨_, _, by first | rfl | (simp [errW_none, errW_some] <;> rfl) | (simp [*, errW_none, errW_some] <;> rfl), by first | exact Kd.R_nil _ _ _ _ _ | exact Kd.N_nil _ _ _ _ _ | exact Kd.V_nil _ _ _ _ _ | exact Kd.Q_nil _ _ _ _ _ | exact Kd.S_nil _ _ _ _ _, by first | exact Kd.R_nil _ _ _ _ _ | exact Kd.N_nil _ _ _ _ _ | exact Kd.V_nil _ _ _ _ _ | exact Kd.Q_nil _ _ _ _ _ | exact Kd.S_nil _ _ _ _ _, by repeat (first | (with_reducible first | exact HB.out | apply qca | apply qba | apply qda | refine qha ?_ GE994.out) | exact HB.out)⟩
 ·rw [if_neg c5] at H
  have c5b0 : (t995 == 0) = false := beq_eq_false_iff_ne.mpr c5
  have c5b1 : (t995 != 0) = true := bne_iff_ne.mpr c5
  simp only [Option.some.injEq, Prod.mk.injEq] at H
  obtain ⟨rfl, rfl, rfl⟩ := H
  go_enter Try.func86, Try.ntmps86
  go_wp2_with (first | ((with_reducible refine gate_dst (N := 3) rfl ?_); refine box_event ?hg (N := 3) ?hd (cs := #[.int .u64 a0_0, .int .i64 a0_1, .int .i64 a0_2]) (t := 24) ?hr ?_; (case hd => rfl); (case hg => rfl); (case hr => first | (go_simp; done) | (go_simp; rfl)); intro gb994 hg w49 hbox hb; have n0_ := Aside0.mk (Kd.V_below (Kd.V_elderB (by (with_reducible repeat first | apply Kd.V_alloc | apply Kd.V_drewN | apply Kd.V_drew); exact HO2.out) gb994 (Nat.le_of_eq hg.symm)) hb); have n1_ := Aside0.mk (qla (by with_reducible repeat first | exact HB.out | apply qca | apply qba | apply qda) hb); have n2_ := Aside0.mk (hbox); have n3_ := Aside0.mk ((by rw [hg]; exact (qka (by with_reducible repeat first | exact HB.out | apply qca | apply qba | apply qda)) : w.heap.size ≤ gb994)); have n4_ := Aside0.mk ((by rw [hg]; exact (qka (by with_reducible repeat first | exact HB.out | apply qca | apply qba | apply qda)) : w.heap.size ≤ gb994)); clear HO2; clear HB; have HO2 := n0_; have HB := n1_; have BK994 := n2_; have GW994 := n3_; have GE994 := n4_; clear n0_ n1_ n2_ n3_ n4_; clear hb hbox hg; have hcz50_0 : w49.cell? ⟨gb994, 0, none⟩ = some (.int .u64 a0_0) := (qfa BK994.out 0).trans rfl; have hcz50_1 : w49.cell? ⟨gb994, 1, none⟩ = some (.int .i64 a0_1) := (qfa BK994.out 1).trans rfl; have hcz50_2 : w49.cell? ⟨gb994, 2, none⟩ = some (.int .i64 a0_2) := (qfa BK994.out 2).trans rfl; have hfz50_0 := qga BK994.out 0; have hfz50_1 := qga BK994.out 1; have hfz50_2 := qga BK994.out 2) | ((with_reducible refine qoa (f := 65) rfl ?_); refine goesL_ (some 16) rfl rfl Try.func65 (by kernel_rfl) rfl #[.agg #[.int .u64 a0_0, .int .i64 a0_1, .int .i64 a0_2], .slice A1 l1.length c1] rfl (by (try simp only [qM1, qM2, qM3]); first | done | rfl) ?_; (with_reducible refine (qlb.calls k a0_0 a0_1 a0_2 _ _ l1 t995 _ ?side1 ?side2 A4.out).mono ?_); (case side1 => repeat (first | exact (Kd.C_below HR1.out HB.out) | (with_reducible first | refine Kd.C_alloc ?_ _ | refine Kd.C_drewN ?_ _ | refine Kd.C_drew ?_))); (case side2 => exact HC1.out); rintro e w51 ⟨rfl, hb⟩; refine ⟨_, rfl, ?_⟩; have n0_ := Aside0.mk (Kd.V_below (by (with_reducible repeat first | apply Kd.V_alloc | apply Kd.V_drewN | apply Kd.V_drew); exact HO2.out) hb); have n1_ := Aside0.mk (blk_below (g := gb994) (o := .cells #[.int .u64 a0_0, .int .i64 a0_1, .int .i64 a0_2] 24 (0, 0)) (by (with_reducible repeat first | refine qma ?_ _ | refine qpa ?_ | refine qna ?_ _); exact BK994.out) hb); have n2_ := Aside0.mk (qla (by with_reducible repeat first | exact HB.out | apply qca | apply qba | apply qda | refine qha ?_ GE994.out) hb); clear HO2; clear BK994; clear HB; have HO2 := n0_; have BK994 := n1_; have HB := n2_; clear n0_ n1_ n2_; (try clear hb); (try clear hb2); (try clear hk); (try clear hi)))
  go_ret3
  exact ⟨_, _, by first | rfl | (simp [errW_none, errW_some] <;> rfl) | (simp [*, errW_none, errW_some] <;> rfl), by first | exact Kd.R_nil _ _ _ _ _ | exact Kd.N_nil _ _ _ _ _ | exact Kd.V_nil _ _ _ _ _ | exact Kd.Q_nil _ _ _ _ _ | exact Kd.S_nil _ _ _ _ _, by first | exact Kd.R_nil _ _ _ _ _ | exact Kd.N_nil _ _ _ _ _ | exact Kd.V_nil _ _ _ _ _ | exact Kd.Q_nil _ _ _ _ _ | exact Kd.S_nil _ _ _ _ _, by repeat (first | (with_reducible first | exact HB.out | apply qca | apply qba | apply qda | refine qha ?_ GE994.out) | exact HB.out)⟩
mutual
def qea.j0 : Nat → List (List Int) → Bool → Int → Int → Int → List Int → List Int → Int → Int → List Int → Option (Bool)
 | 0, _, _, _, _, _, _, _, _, _, _ => none
 | k + 1, x1, x82, x1078000, x1078001, x1078002, x1079000, x1079001, x1079002, x1079003, x1079004 => if x82 = true then ((qwb.f k).bind fun t1083 => (some t1083)) else ((qhb.f k x1079004).bind fun t1084 => ((qsb.f k x1078000 t1084).bind fun t1087 => ((qdb.f k x1078000 t1087 x1079002).bind fun t1090 => ((qxa.f k x1078000 x1079000 t1090).bind fun t1093 => ((qdb.f k x1078000 t1087 x1079003).bind fun t1096 => ((qxa.f k x1078000 x1079001 t1096).bind fun t1099 => ((qra.f k x1078000 x1079000 x1079001).bind fun t1102 => ((qra.f k x1078000 t1093 t1099).bind fun t1105 => ((juntoref02_Sub.f k x1078000 t1105 t1102).bind fun t1108 => ((twice_Cut.f k x1078000 x1078001 x1078002 x1079004 t1108).bind fun bt1111 => (if bt1111.2.2 = 0 then ((qqa.f k bt1111.1 t1087).bind fun t1118 => (if t1118 = true then (qea.j1 k x1 t1087 t1102 t1105 bt1111.2.1 (decide ((bt1111.2.1.length : Int) > (wrap64 (x1078002 + 1)))) x1078000 x1078001 x1078002 x1079000 x1079001 x1079002 x1079003 x1079004) else (qea.j1 k x1 t1087 t1102 t1105 bt1111.2.1 true x1078000 x1078001 x1078002 x1079000 x1079001 x1079002 x1079003 x1079004))) else (qea.j1 k x1 t1087 t1102 t1105 bt1111.2.1 true x1078000 x1078001 x1078002 x1079000 x1079001 x1079002 x1079003 x1079004))))))))))))
def qea.j1 : Nat → List (List Int) → List Int → List Int → List Int → List Int → Bool → Int → Int → Int → List Int → List Int → Int → Int → List Int → Option (Bool)
 | 0, _, _, _, _, _, _, _, _, _, _, _, _, _, _ => none
 | k + 1, x1, x7, x10, x11, x13, x152, x1078000, x1078001, x1078002, x1079000, x1079001, x1079002, x1079003, x1079004 => if x152 = true then (some false) else ((qfb.f k x1078000 x1078001 x1078002 x1 x7 x13).bind fun bt1119 => ((twice_Whole.f k x1078000 x1078001 x1078002 x1).bind fun bt1123 => ((twice_Whole.f k x1078000 x1078001 x1078002 bt1119.1).bind fun bt1127 => (if bt1119.2 = 0 then (if bt1127.2 = 0 then ((qra.f k x1078000 x7 x13).bind fun t1131 => ((juntoref02_Sub.f k x1078000 bt1123.1 t1131).bind fun t1134 => ((qqa.f k bt1127.1 t1134).bind fun t1137 => (if t1137 = true then ((qxa.f k x1078000 x11 bt1127.1).bind fun t1138 => ((qxa.f k x1078000 x10 bt1123.1).bind fun t1141 => ((qqa.f k t1138 t1141).bind fun t1144 => (if t1144 = true then (qea.j2 k x1 bt1119.1 ((bt1119.1.length : Int) != (x1.length : Int)) x1078000 x1078001 x1078002 x1079000 x1079001 x1079002 x1079003 x1079004) else (qea.j2 k x1 bt1119.1 true x1078000 x1078001 x1078002 x1079000 x1079001 x1079002 x1079003 x1079004))))) else (qea.j2 k x1 bt1119.1 true x1078000 x1078001 x1078002 x1079000 x1079001 x1079002 x1079003 x1079004))))) else (qea.j2 k x1 bt1119.1 true x1078000 x1078001 x1078002 x1079000 x1079001 x1079002 x1079003 x1079004)) else (qea.j2 k x1 bt1119.1 true x1078000 x1078001 x1078002 x1079000 x1079001 x1079002 x1079003 x1079004)))))
def qea.j2 : Nat → List (List Int) → List (List Int) → Bool → Int → Int → Int → List Int → List Int → Int → Int → List Int → Option (Bool)
 | 0, _, _, _, _, _, _, _, _, _, _, _ => none
 | k + 1, x1, x15, x213, x1078000, x1078001, x1078002, x1079000, x1079001, x1079002, x1079003, x1079004 => if x213 = true then (some false) else (qea.l0 k x1 x15 x1079004 (x1079004.length : Int) 0 x1078000 x1078001 x1078002)
def qea.l0 : Nat → List (List Int) → List (List Int) → List Int → Int → Int → Int → Int → Int → Option (Bool)
 | 0, _, _, _, _, _, _, _, _ => none
 | k + 1, x1, x15, x215, x216, x217, x1078000, x1078001, x1078002 => if x217 < x216 then (if 0 ≤ x217 then (if x217 < (x215.length : Int) then (qea.l1 k x1 x15 (rd x215 x217) x215 x216 x217 (x1.length : Int) 0 x1078000 x1078001 x1078002) else (none)) else (none)) else ((qwb.f k).bind fun t1145 => (some t1145))
def qea.l1 : Nat → List (List Int) → List (List Int) → Int → List Int → Int → Int → Int → Int → Int → Int → Int → Option (Bool)
 | 0, _, _, _, _, _, _, _, _, _, _, _ => none
 | k + 1, x1, x15, x22, x215, x216, x217, x222, x223, x1078000, x1078001, x1078002 => if x223 < x222 then (if 0 ≤ x223 then (if x223 < (x1.length : Int) then ((qkb.f k x1078000 (rd_L3 x1 x223) (IntKind.u64.wrap (x22))).bind fun t1148 => (if x223 < (x15.length : Int) then ((qkb.f k x1078000 (rd_L3 x15 x223) (IntKind.u64.wrap (x22))).bind fun t1150 => (if t1148 = t1150 then (qea.l1 k x1 x15 x22 x215 x216 x217 x222 (wrap64 (x223 + 1)) x1078000 x1078001 x1078002) else (some false))) else (none))) else (none)) else (none)) else (qea.l0 k x1 x15 x215 x216 (wrap64 (x217 + 1)) x1078000 x1078001 x1078002)
end
def qea.f (k : Nat) (a0_0 : Int) (a0_1 : Int) (a0_2 : Int) (l1 : List (List Int)) (l2_0 : List Int) (l2_1 : List Int) (a2_2 : Int) (a2_3 : Int) (l2_4 : List Int) : Option (Bool) := (qva.f k a0_0 a0_1 a0_2 l1).bind fun t1079 => (if t1079 = 0 then ((qtb.f k a0_0 a0_1 a0_2 l2_4).bind fun t1080 => (if t1080 = 0 then (if (l2_0.length : Int) > (wrap64 (a0_2 + 1)) then (qea.j0 k l1 true a0_0 a0_1 a0_2 l2_0 l2_1 a2_2 a2_3 l2_4) else (if (l2_1.length : Int) > (wrap64 (a0_2 + 1)) then (qea.j0 k l1 true a0_0 a0_1 a0_2 l2_0 l2_1 a2_2 a2_3 l2_4) else ((qab.f k a0_0 l2_0).bind fun t1081 => (if t1081 = 0 then ((qab.f k a0_0 l2_1).bind fun t1082 => (if t1082 = 0 then (if a2_2 ≥ a0_0 then (qea.j0 k l1 true a0_0 a0_1 a0_2 l2_0 l2_1 a2_2 a2_3 l2_4) else (qea.j0 k l1 (decide (a2_3 ≥ a0_0)) a0_0 a0_1 a0_2 l2_0 l2_1 a2_2 a2_3 l2_4)) else (qea.j0 k l1 true a0_0 a0_1 a0_2 l2_0 l2_1 a2_2 a2_3 l2_4))) else (qea.j0 k l1 true a0_0 a0_1 a0_2 l2_0 l2_1 a2_2 a2_3 l2_4))))) else (qea.j0 k l1 true a0_0 a0_1 a0_2 l2_0 l2_1 a2_2 a2_3 l2_4))) else (qea.j0 k l1 true a0_0 a0_1 a0_2 l2_0 l2_1 a2_2 a2_3 l2_4))
def qea.T4 : Bool × List (List Nat × List Nat) := (true, [([], []), ([0], [0]), ([], []), ([2], [2]), ([], []), ([4], [4]), ([], []), ([], []), ([7], [7]), ([5, 6, 8], [5, 6, 8]), ([1, 3, 9, 9], [1, 3, 9]), ([], []), ([11], [11]), ([], []), ([13], [13]), ([], []), ([15], [15]), ([], []), ([], []), ([18], [18]), ([16, 17, 19, 10], [16, 17, 19]), ([12, 14, 20, 20], [12, 14, 20]), ([10, 21, 0, 1, 2, 3, 4, 5, 6, 7, 8, 9, 10], [10]), ([21, 22, 0, 1, 2, 3, 4, 5, 6, 7, 8, 9, 10, 11, 12, 13, 14, 15, 16, 17, 18, 19, 20, 21, 22], [21])])
def qea.B4 : List Nat := [0, 1, 0, 4, 0, 16, 0, 0, 128, 496, 1023, 0, 2048, 0, 8192, 0, 32768, 0, 0, 262144, 1017855, 2097151, 4194303, 8388607]
theorem qea.tab4 : rtab .any (opsOf Try.f20 4) = qea.T4 := by kernel_rfl
theorem qea.bits4 : waitsOk qea.T4.2 qea.B4 = true := by kernel_rfl
def qea.T5 : Bool × List (List Nat × List Nat) := (true, [([], []), ([0], [0]), ([], []), ([2], [2]), ([], []), ([4], [4]), ([1, 3, 5], [1, 3, 5]), ([], []), ([7], [7]), ([], []), ([], []), ([8, 9, 10, 6], [8, 9, 10]), ([6, 11, 0, 1, 2, 3, 4, 5, 6], [6]), ([11, 12, 0, 1, 2, 3, 4, 5, 6, 7, 8, 9, 10, 11, 12], [11])])
def qea.B5 : List Nat := [0, 1, 0, 4, 0, 16, 63, 0, 128, 0, 0, 2047, 4095, 8191]
theorem qea.tab5 : rtab .any (opsOf Try.f20 5) = qea.T5 := by kernel_rfl
theorem qea.bits5 : waitsOk qea.T5.2 qea.B5 = true := by kernel_rfl
def qea.T6 : Bool × List (List Nat × List Nat) := (true, [([], []), ([], []), ([1], [1]), ([], []), ([3], [3]), ([], []), ([], []), ([4, 5, 6], [4, 5, 6]), ([0, 2, 7, 7], [0, 2, 7]), ([8], [8]), ([9], [9]), ([9], [9]), ([9], [9]), ([10, 8, 0, 1, 2, 3, 4, 5, 6, 7, 8, 9, 10], [10]), ([11, 13, 0, 1, 2, 3, 4, 5, 6, 7, 8, 9, 10, 11, 13], [11]), ([12, 14, 0, 1, 2, 3, 4, 5, 6, 7, 8, 9, 10, 11, 12, 13, 14], [12])])
def qea.B6 : List Nat := [0, 0, 2, 0, 8, 0, 0, 120, 255, 511, 1023, 1023, 1023, 2047, 12287, 32767]
theorem qea.tab6 : rtab .any (opsOf Try.f20 6) = qea.T6 := by kernel_rfl
theorem qea.bits6 : waitsOk qea.T6.2 qea.B6 = true := by kernel_rfl
def qea.T12 : Bool × List (List Nat × List Nat) := (true, [([], []), ([0], [0]), ([1], [1]), ([2], [2]), ([3, 2], [2, 3]), ([2, 4], [2, 4]), ([5, 2], [5]), ([6], [6]), ([6], [6]), ([8, 6], [6, 8]), ([6], [6]), ([6], [6]), ([11, 6], [6, 11]), ([6], [6]), ([6], [6]), ([12, 13, 14, 6, 6], [6, 12, 13, 14]), ([9, 10, 15, 15, 6], [6, 9, 10, 15]), ([7, 16, 16, 6], [6, 7, 16]), ([17, 6], [6, 17]), ([6, 18], [6, 18]), ([19, 17], [19]), ([20], [20]), ([21, 20], [20, 21]), ([20], [20]), ([20], [20]), ([22, 23, 24, 20, 20], [20, 22, 23, 24]), ([20], [20]), ([26, 20], [20, 26]), ([20], [20]), ([20], [20]), ([27, 28, 29, 25, 20], [20, 27, 28, 29]), ([25, 30, 30, 20], [20, 25, 30]), ([31, 20], [20, 31]), ([20, 32], [20, 32]), ([33, 31], [33]), ([34], [34]), ([35, 34], [34, 35]), ([34], [34]), ([37, 34], [34, 37]), ([36, 38, 34], [34, 36, 38]), ([34, 39], [34, 39])])
def qea.B12 : List Nat := [0, 1, 3, 7, 15, 31, 63, 127, 127, 383, 127, 127, 2175, 127, 127, 30847, 65407, 131071, 262143, 524287, 1048575, 2097151, 4194303, 2097151, 2097151, 33554431, 2097151, 69206015, 2097151, 2097151, 1073741823, 2147483647, 4294967295, 8589934591, 17179869183, 34359738367, 68719476735, 34359738367, 171798691839, 549755813887, 1099511627775]
theorem qea.tab12 : rtab .any (opsOf Try.f20 12) = qea.T12 := by kernel_rfl
theorem qea.bits12 : waitsOk qea.T12.2 qea.B12 = true := by kernel_rfl
def qea.T20 : Bool × List (List Nat × List Nat) := (true, [([], []), ([0], [0]), ([], []), ([], []), ([2, 3], [2, 3]), ([4], [4]), ([], []), ([6], [6]), ([1, 5, 7], [1, 5, 7]), ([], []), ([9], [9]), ([], []), ([], []), ([11, 12], [11, 12]), ([13], [13]), ([], []), ([15], [15]), ([10, 14, 16, 8], [10, 14, 16]), ([8, 17], [8, 17])])
def qea.B20 : List Nat := [0, 1, 0, 0, 12, 28, 0, 64, 255, 0, 512, 0, 0, 6144, 14336, 0, 32768, 131071, 262143]
theorem qea.tab20 : rtab .any (opsOf Try.f20 20) = qea.T20 := by kernel_rfl
theorem qea.bits20 : waitsOk qea.T20.2 qea.B20 = true := by kernel_rfl
theorem qea.j1_no {k y0 y1 y2 y3 y4 y6 y7 y8 y9 y10 y11 y12 y13} {r : Bool} (hr : r = true) (h : qea.j1 k y0 y1 y2 y3 y4 true y6 y7 y8 y9 y10 y11 y12 y13 = some r) : False := by subst hr; cases k <;> simp [qea.j1] at h
theorem qea.j2_no {k y0 y1 y3 y4 y5 y6 y7 y8 y9 y10} {r : Bool} (hr : r = true) (h : qea.j2 k y0 y1 true y3 y4 y5 y6 y7 y8 y9 y10 = some r) : False := by subst hr; cases k <;> simp [qea.j2] at h
end Go.Proofs.Ytjjnfobeeflnhaa.J
