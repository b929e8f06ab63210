/- Part 4 of the proof of ShareSecrets: what the functions compute as plain Lean functions, that the machine comes to just these answers, and that the answer is true; no conditions. -/
import Derived.Test.YtjjnfobeeflnhaaShareSecretsZ0
import Derived.Test.YtjjnfobeeflnhaaShareSecretsZ1
import Derived.Test.YtjjnfobeeflnhaaShareSecretsZ2
import Derived.Test.YtjjnfobeeflnhaaShareSecretsZ3
import Derived.RangeFuncBox
import Derived.RangeFuncLeaves
import Derived.RangeFuncCalls
import Derived.RangeFuncWrites
import Derived.Shelf.Abstract
import Derived.OwnWalkIn
import Derived.TacticsInMore
import Derived.LoopNIn
import Derived.LoopIn
import Derived.Deep.Slices
import Derived.ChangeArms
import Derived.DataReads
import Derived.SizedLaws
import Derived.WideShapes
import Derived.OpenShut
import Derived.Test.YtjjnfobeeflnhaaRows
import Derived.JoinedOf
import Derived.KernelRfl
import Derived.WalkSmall
/- What Go functions of the program compute, as plain Lean functions, and that the machine comes to just these answers (written by a program for this seat). -/
namespace Go.Proofs.Ytjjnfobeeflnhaa.J
open Go.RowKit Go.Proofs.YtjjnfobeeflnhaaW.PrintWords Go.Proofs.YtjjnfobeeflnhaaW.PrintLast Go.Proofs.YtjjnfobeeflnhaaW.PrintMore
attribute [local go_sem] max2_int min2_int max_two min_two max_three min_three max_four min_four   -- for this text's walks alone
set_option linter.unusedVariables false
set_option linter.unusedSimpArgs false

/-! ### poly_Fit: function 149 -/
mutual
def poly_Fit.l0 : Nat → Int → List (S86) → List Int → List (S86) → Int → Int → Option (List Int)
 | 0, _, _, _, _, _, _ => none
 | k + 1, x0, x1, x5, x16, x17, x18 => if x18 < x17 then (if 0 ≤ x18 then (if x18 < (x16.length : Int) then (if x18 < (x5.length : Int) then (poly_Fit.l0 k x0 x1 (x5.set (x18 : Int).toNat ((rd_T86 x16 x18).f1)) x16 x17 (wrap64 (x18 + 1))) else (none)) else (none)) else (none)) else (poly_Fit.l1 k x0 x1 x5 1)
def poly_Fit.l1 : Nat → Int → List (S86) → List Int → Int → Option (List Int)
 | 0, _, _, _, _ => none
 | k + 1, x0, x1, x5, x8 => if x8 < (x1.length : Int) then (poly_Fit.l2 k x0 x1 x5 x8 (wrap64 ((x1.length : Int) - 1))) else (poly_Fit.l3 k x0 x1 x5 ([] : List Int) (wrap64 ((x1.length : Int) - 1)))
def poly_Fit.l2 : Nat → Int → List (S86) → List Int → Int → Int → Option (List Int)
 | 0, _, _, _, _, _ => none
 | k + 1, x0, x1, x5, x8, x9 => if x9 ≥ x8 then (if 0 ≤ x9 then (if x9 < (x1.length : Int) then (if 0 ≤ (wrap64 (x9 - x8)) then (if (wrap64 (x9 - x8)) < (x1.length : Int) then ((field_Minus.f x0 ((rd_T86 x1 x9).f0) ((rd_T86 x1 (wrap64 (x9 - x8))).f0)).bind fun t918 => (if x9 < (x5.length : Int) then (if 0 ≤ (wrap64 (x9 - 1)) then (if (wrap64 (x9 - 1)) < (x5.length : Int) then ((field_Minus.f x0 (rd x5 x9) (rd x5 (wrap64 (x9 - 1)))).bind fun t921 => ((field_Over.f k x0 t918).bind fun t922 => ((field_Times.f x0 t921 t922).bind fun t923 => (poly_Fit.l2 k x0 x1 (x5.set (x9 : Int).toNat t923) x8 (wrap64 (x9 - 1)))))) else (none)) else (none)) else (none))) else (none)) else (none)) else (none)) else (none)) else (poly_Fit.l1 k x0 x1 x5 (wrap64 (x8 + 1)))
def poly_Fit.l3 : Nat → Int → List (S86) → List Int → List Int → Int → Option (List Int)
 | 0, _, _, _, _, _ => none
 | k + 1, x0, x1, x5, x11, x12 => if x12 ≥ 0 then (if 0 ≤ x12 then (if x12 < (x1.length : Int) then ((field_Minus.f x0 0 ((rd_T86 x1 x12).f0)).bind fun t926 => ((poly_Times.f k x0 x11 (([t926, 1] : List Int))).bind fun t930 => (if x12 < (x5.length : Int) then ((poly_Plus.f k x0 t930 (([rd x5 x12] : List Int))).bind fun t937 => (poly_Fit.l3 k x0 x1 x5 t937 (wrap64 (x12 - 1)))) else (none)))) else (none)) else (none)) else ((poly_Short.f k x11).bind fun t940 => (some t940))
end
def poly_Fit.f (k : Nat) (a0 : Int) (l1 : List (S86)) : Option (List Int) := if 0 ≤ (l1.length : Int) then (if ((l1.length : Int) : Int).toNat ≤ 35184372088832 then (poly_Fit.l0 k a0 l1 (List.replicate ((l1.length : Int) : Int).toNat 0) l1 (l1.length : Int) 0) else (none)) else (none)
theorem poly_Fit.mono_l : ∀ k, (∀ y0 y1 y2 y3 y4 y5, LeO (poly_Fit.l0 k y0 y1 y2 y3 y4 y5) (poly_Fit.l0 (k + 1) y0 y1 y2 y3 y4 y5)) ∧ (∀ y0 y1 y2 y3, LeO (poly_Fit.l1 k y0 y1 y2 y3) (poly_Fit.l1 (k + 1) y0 y1 y2 y3)) ∧ (∀ y0 y1 y2 y3 y4, LeO (poly_Fit.l2 k y0 y1 y2 y3 y4) (poly_Fit.l2 (k + 1) y0 y1 y2 y3 y4)) ∧ (∀ y0 y1 y2 y3 y4, LeO (poly_Fit.l3 k y0 y1 y2 y3 y4) (poly_Fit.l3 (k + 1) y0 y1 y2 y3 y4))
 | 0 => ⟨fun _ _ _ _ _ _ r h => by simp [poly_Fit.l0] at h, fun _ _ _ _ r h => by simp [poly_Fit.l1] at h, fun _ _ _ _ _ r h => by simp [poly_Fit.l2] at h, fun _ _ _ _ _ r h => by simp [poly_Fit.l3] at h⟩
 | k + 1 => by
  obtain ⟨ih0, ih1, ih2, ih3⟩ := poly_Fit.mono_l k
  refine ⟨?_, ?_, ?_, ?_⟩
  ·intro y0 y1 y2 y3 y4 y5
   unfold poly_Fit.l0
   repeat' first
   | (with_reducible exact ih0 _ _ _ _ _ _)
   | (with_reducible exact ih1 _ _ _ _)
   | (with_reducible exact ih2 _ _ _ _ _)
   | (with_reducible exact ih3 _ _ _ _ _)
   | (with_reducible exact field_Over.mono _ _ _)
   | (with_reducible exact poly_Plus.mono _ _ _ _)
   | (with_reducible exact poly_Short.mono _ _)
   | (with_reducible exact poly_Times.mono _ _ _ _)
   | (with_reducible exact LeO.refl _)
   | (with_reducible exact LeO.none _)
   | (with_reducible refine LeO.ite ?_ ?_)
   | (with_reducible refine LeO.bind ?_ (fun _ => ?_))
   | exact ih0 _ _ _ _ _ _
   | exact ih1 _ _ _ _
   | exact ih2 _ _ _ _ _
   | exact ih3 _ _ _ _ _
   | exact field_Over.mono _ _ _
   | exact poly_Plus.mono _ _ _ _
   | exact poly_Short.mono _ _
   | exact poly_Times.mono _ _ _ _
   | exact LeO.none _
   | refine LeO.ite ?_ ?_
   | refine LeO.bind ?_ (fun _ => ?_)
  ·intro y0 y1 y2 y3
   unfold poly_Fit.l1
   repeat' first
   | (with_reducible exact ih0 _ _ _ _ _ _)
   | (with_reducible exact ih1 _ _ _ _)
   | (with_reducible exact ih2 _ _ _ _ _)
   | (with_reducible exact ih3 _ _ _ _ _)
   | (with_reducible exact field_Over.mono _ _ _)
   | (with_reducible exact poly_Plus.mono _ _ _ _)
   | (with_reducible exact poly_Short.mono _ _)
   | (with_reducible exact poly_Times.mono _ _ _ _)
   | (with_reducible exact LeO.refl _)
   | (with_reducible exact LeO.none _)
   | (with_reducible refine LeO.ite ?_ ?_)
   | (with_reducible refine LeO.bind ?_ (fun _ => ?_))
   | exact ih0 _ _ _ _ _ _
   | exact ih1 _ _ _ _
   | exact ih2 _ _ _ _ _
   | exact ih3 _ _ _ _ _
   | exact field_Over.mono _ _ _
   | exact poly_Plus.mono _ _ _ _
   | exact poly_Short.mono _ _
   | exact poly_Times.mono _ _ _ _
   | exact LeO.none _
   | refine LeO.ite ?_ ?_
   | refine LeO.bind ?_ (fun _ => ?_)
  ·intro y0 y1 y2 y3 y4
   unfold poly_Fit.l2
   repeat' first
   | (with_reducible exact ih0 _ _ _ _ _ _)
   | (with_reducible exact ih1 _ _ _ _)
   | (with_reducible exact ih2 _ _ _ _ _)
   | (with_reducible exact ih3 _ _ _ _ _)
   | (with_reducible exact field_Over.mono _ _ _)
   | (with_reducible exact poly_Plus.mono _ _ _ _)
   | (with_reducible exact poly_Short.mono _ _)
   | (with_reducible exact poly_Times.mono _ _ _ _)
   | (with_reducible exact LeO.refl _)
   | (with_reducible exact LeO.none _)
   | (with_reducible refine LeO.ite ?_ ?_)
   | (with_reducible refine LeO.bind ?_ (fun _ => ?_))
   | exact ih0 _ _ _ _ _ _
   | exact ih1 _ _ _ _
   | exact ih2 _ _ _ _ _
   | exact ih3 _ _ _ _ _
   | exact field_Over.mono _ _ _
   | exact poly_Plus.mono _ _ _ _
   | exact poly_Short.mono _ _
   | exact poly_Times.mono _ _ _ _
   | exact LeO.none _
   | refine LeO.ite ?_ ?_
   | refine LeO.bind ?_ (fun _ => ?_)
  ·intro y0 y1 y2 y3 y4
   unfold poly_Fit.l3
   repeat' first
   | (with_reducible exact ih0 _ _ _ _ _ _)
   | (with_reducible exact ih1 _ _ _ _)
   | (with_reducible exact ih2 _ _ _ _ _)
   | (with_reducible exact ih3 _ _ _ _ _)
   | (with_reducible exact field_Over.mono _ _ _)
   | (with_reducible exact poly_Plus.mono _ _ _ _)
   | (with_reducible exact poly_Short.mono _ _)
   | (with_reducible exact poly_Times.mono _ _ _ _)
   | (with_reducible exact LeO.refl _)
   | (with_reducible exact LeO.none _)
   | (with_reducible refine LeO.ite ?_ ?_)
   | (with_reducible refine LeO.bind ?_ (fun _ => ?_))
   | exact ih0 _ _ _ _ _ _
   | exact ih1 _ _ _ _
   | exact ih2 _ _ _ _ _
   | exact ih3 _ _ _ _ _
   | exact field_Over.mono _ _ _
   | exact poly_Plus.mono _ _ _ _
   | exact poly_Short.mono _ _
   | exact poly_Times.mono _ _ _ _
   | exact LeO.none _
   | refine LeO.ite ?_ ?_
   | refine LeO.bind ?_ (fun _ => ?_)
theorem poly_Fit.mono : ∀ a0 a1 k, LeO (poly_Fit.f k a0 a1) (poly_Fit.f (k + 1) a0 a1) := by
 intro a0 a1 k
 obtain ⟨ih0, ih1, ih2, ih3⟩ := poly_Fit.mono_l k
 unfold poly_Fit.f
 repeat' first
   | (with_reducible exact ih0 _ _ _ _ _ _)
   | (with_reducible exact ih1 _ _ _ _)
   | (with_reducible exact ih2 _ _ _ _ _)
   | (with_reducible exact ih3 _ _ _ _ _)
   | (with_reducible exact field_Over.mono _ _ _)
   | (with_reducible exact poly_Plus.mono _ _ _ _)
   | (with_reducible exact poly_Short.mono _ _)
   | (with_reducible exact poly_Times.mono _ _ _ _)
   | (with_reducible exact LeO.refl _)
   | (with_reducible exact LeO.none _)
   | (with_reducible refine LeO.ite ?_ ?_)
   | (with_reducible refine LeO.bind ?_ (fun _ => ?_))
   | exact ih0 _ _ _ _ _ _
   | exact ih1 _ _ _ _
   | exact ih2 _ _ _ _ _
   | exact ih3 _ _ _ _ _
   | exact field_Over.mono _ _ _
   | exact poly_Plus.mono _ _ _ _
   | exact poly_Short.mono _ _
   | exact poly_Times.mono _ _ _ _
   | exact LeO.none _
   | refine LeO.ite ?_ ?_
   | refine LeO.bind ?_ (fun _ => ?_)
def poly_Fit.T13 : Bool × List (List Nat × List Nat) := (true, [([], []), ([], []), ([], []), ([1, 2], [1, 2]), ([3], [3]), ([4], [4]), ([], []), ([], []), ([], []), ([7, 8], [7, 8]), ([6, 9], [6, 9]), ([10], [10]), ([11], [11]), ([0, 5, 12], [0, 5, 12]), ([13, 13, 0, 1, 2, 3, 4, 5, 6, 7, 8, 9, 10, 11, 12, 13], [13])])
def poly_Fit.B13 : List Nat := [0, 0, 0, 6, 14, 30, 0, 0, 0, 384, 960, 1984, 4032, 8191, 16383]
theorem poly_Fit.tab13 : rtab .any (opsOf Try.f149 13) = poly_Fit.T13 := by kernel_rfl
theorem poly_Fit.bits13 : waitsOk poly_Fit.T13.2 poly_Fit.B13 = true := by kernel_rfl
def poly_Fit.T14 : Bool × List (List Nat × List Nat) := (true, [([], []), ([], []), ([], []), ([], []), ([], []), ([], []), ([4, 5], [4, 5]), ([6], [6]), ([], []), ([], []), ([9], [9]), ([8, 10], [8, 10]), ([11], [11]), ([3, 7, 12], [3, 7, 12]), ([], []), ([], []), ([14, 15, 13], [14, 15]), ([2, 13, 16, 16], [2, 13, 16]), ([0, 1, 0, 1, 2, 3, 4, 5, 6, 7, 8, 9, 10, 11, 12, 13, 14, 15, 16, 17], [0, 1]), ([18, 17, 17, 0, 1, 2, 3, 4, 5, 6, 7, 8, 9, 10, 11, 12, 13, 14, 15, 16, 17], [17, 18])])
def poly_Fit.B14 : List Nat := [0, 0, 0, 0, 0, 0, 48, 112, 0, 0, 512, 1792, 3840, 8184, 0, 0, 65528, 131068, 262143, 524287]
theorem poly_Fit.tab14 : rtab .any (opsOf Try.f149 14) = poly_Fit.T14 := by kernel_rfl
theorem poly_Fit.bits14 : waitsOk poly_Fit.T14.2 poly_Fit.B14 = true := by kernel_rfl
set_option maxHeartbeats 8000000 in
set_option maxRecDepth 100000 in
theorem poly_Fit.calls (k : Nat) (a0 : Int) (A1 : Option Addr) (c1 : Nat) (l1 : List (S86)) (r : List Int) (w : World) (hr1 : Kd.C k86 w A1 l1.length l1) (hc1 : l1.length ≤ c1) (h : poly_Fit.f k a0 l1 = some r) :
  Calls Try.prog 149 #[.int .u64 a0, .slice A1 l1.length c1] w fun e w' => ∃ v0_ : Value, e = .returned (v0_) ∧ Kd.R (Kd.int .u64) 22 w' w.heap.size (fun _ => True) v0_ r ∧ Below w.heap.size w w' := by
 have hu86 := Try.underlying86
 have HR1 := Aside0.mk hr1
 have HC1 := Aside0.mk hc1
 clear hr1 hc1
 have HB := Aside0.mk (Below.refl w.heap.size w)
 have H : (if 0 ≤ (l1.length : Int) then (if ((l1.length : Int) : Int).toNat ≤ 35184372088832 then (poly_Fit.l0 k a0 l1 (List.replicate ((l1.length : Int) : Int).toNat 0) l1 (l1.length : Int) 0) else (none)) else (none)) = some r := h
 clear h
 by_cases c3 : 0 ≤ (l1.length : Int)
 ·rw [if_pos c3] at H
  have c3b0 := eq_true c3
  have c3b1 : decide (0 ≤ (l1.length : Int)) = true := decide_eq_true c3
  clear c3
  by_cases c4 : ((l1.length : Int) : Int).toNat ≤ 35184372088832
  ·rw [if_pos c4] at H
   have c4b0 := eq_true c4
   have c4b1 : decide (((l1.length : Int) : Int).toNat ≤ 35184372088832) = true := decide_eq_true c4
   clear c4
   obtain ⟨y910, hy910⟩ : ∃ y_ : List Int, y_ = (List.replicate ((l1.length : Int) : Int).toNat 0) := ⟨_, rfl⟩
   replace H : (poly_Fit.l0 k a0 l1 y910 l1 (l1.length : Int) 0) = some r := by first | (rw [hy910]; with_reducible exact H) | (have H2_ := (Option.bind_some _ _).symm.trans H; rw [hy910]; with_reducible exact H2_) | (have H2_ := (Option.bind_some _ _).symm.trans H; with_reducible exact H2_) | with_reducible exact H | (rw [hy910]; exact H) | exact H
   have Ny910 := Aside0.mk hy910
   clear hy910
   have H' := Aside0.mk H
   clear H
   go_enter Try.func149, Try.ntmps149
   go_wp2_with (first | ((with_reducible refine gate_dst (N := 15) rfl ?_); refine Kd.R_make (Kd.int .u64) _ 22 rfl (N := 15) rfl 31 _ _ rfl (l1.length : Int) rfl rfl Try.underlying31 (.int .u64 0) 8 info22 rfl (by decide) (by omega) 0 (ok := fun _ => True) (okp := fun _ => True) rfl (fun _ hk => hk) trivial (of_decide_eq_true (by first | (with_reducible assumption) | assumption)) (Nat.le_trans (Nat.mul_le_mul_right _ (of_decide_eq_true (by first | (with_reducible assumption) | assumption) : (l1.length : Int).toNat ≤ 35184372088832)) (by omega)) (Below.refl _ _) (Nat.le_refl _) ?_; intro v911 w5 ho6 hb hg_ hnew_; clear hg_ hnew_; (first | rw [← Ny910.out] at ho6 | (simp only [Int.reduceToNat] at ho6; rw [← Ny910.out] at ho6)); have n0_ := Aside0.mk (Kd.R_lower ho6 (below_size (by repeat (first | (with_reducible first | exact HB.out | apply below_alloc | apply pw_below_drewN | apply below_drew1) | exact HB.out)))); have n1_ := Aside0.mk (below_step (by repeat (first | (with_reducible first | exact HB.out | apply below_alloc | apply pw_below_drewN | apply below_drew1) | exact HB.out)) hb); clear HB; have HO912 := n0_; have HB := n1_; clear n0_ n1_; clear hb ho6))
   go_loopg [18] k (fun kq v18 w' => ∃ (x5_1 : List Int) (x18_1 : Int), v18 = .int .i64 x18_1 ∧ Aside0 (poly_Fit.l0 kq a0 l1 x5_1 l1 (l1.length : Int) x18_1 = some r) ∧ Aside0 (kq ≤ k) ∧ Aside0 (Kd.R (Kd.int .u64) 22 w' w.heap.size (fun _ => True) v911 x5_1) ∧ Aside0 (Below w.heap.size w w'))
   case atStart => exact ⟨(y910), (0), (by first | rfl | (simp; done) | (simp [*]; done)), H', ⟨Nat.le_refl _⟩, ⟨by (with_reducible repeat (first | apply Kd.R_alloc | apply Kd.R_drewN | apply Kd.R_drew)); exact HO912.out⟩, ⟨by repeat (first | (with_reducible first | exact HB.out | apply below_alloc | apply pw_below_drewN | apply below_drew1) | exact HB.out)⟩⟩
   case round =>
    clear H'
    try clear c1
    try clear p2
    try clear c3
    try clear c3b0
    try clear c3b1
    try clear c4
    try clear c4b0
    try clear c4b1
    obtain ⟨x5_1, x18_1, rfl, HA, HK1, HO_5, HB⟩ := hrel
    cases gk with
    | zero => exact absurd HA.out (by simp [poly_Fit.l0])
    | succ k1 =>
     have H := HA.out
     clear HA
     simp only [poly_Fit.l0] at H
     by_cases c7 : x18_1 < (l1.length : Int)
     ·rw [if_pos c7] at H
      have c7b0 : decide (x18_1 < (l1.length : Int)) = true := decide_eq_true c7
      clear c7
      by_cases c8 : 0 ≤ x18_1
      ·rw [if_pos c8] at H
       have c8b0 : decide (0 ≤ x18_1) = true := decide_eq_true c8
       clear c8
       by_cases c9 : x18_1 < (l1.length : Int)
       ·rw [if_pos c9] at H
        have c9b0 : decide (x18_1 < (l1.length : Int)) = true := decide_eq_true c9
        clear c9
        by_cases c10 : x18_1 < (x5_1.length : Int)
        ·rw [if_pos c10] at H
         have c10b0 : decide (x18_1 < (x5_1.length : Int)) = true := decide_eq_true c10
         clear c10
         obtain ⟨y915, hy915⟩ : ∃ y_ : List Int, y_ = (x5_1.set (x18_1 : Int).toNat ((rd_T86 l1 x18_1).f1)) := ⟨_, rfl⟩
         replace H : (poly_Fit.l0 k1 a0 l1 y915 l1 (l1.length : Int) (wrap64 (x18_1 + 1))) = some r := by first | (rw [hy915]; with_reducible exact H) | (have H2_ := (Option.bind_some _ _).symm.trans H; rw [hy915]; with_reducible exact H2_) | (have H2_ := (Option.bind_some _ _).symm.trans H; with_reducible exact H2_) | with_reducible exact H | (rw [hy915]; exact H) | exact H
         have Ny915 := Aside0.mk hy915
         clear hy915
         have H' := Aside0.mk H
         clear H
         have p913 : 0 ≤ (x18_1 : Int) := of_decide_eq_true (by first | (with_reducible assumption) | assumption)
         have q913 : x18_1 < (l1.length : Int) := of_decide_eq_true (by first | (with_reducible assumption) | assumption)
         obtain ⟨ad913, e913, hx913_0, hx913_1⟩ := at_T86 HR1.out x18_1 p913 q913
         cases e913
         replace hx913_0 := (HB.out.cell (World.block_lt_of_cell? w _ hx913_0)).trans hx913_0
         replace hx913_1 := (HB.out.cell (World.block_lt_of_cell? w _ hx913_1)).trans hx913_1
         replace p913 := eq_true p913
         replace q913 := eq_true q913
         go_wp2_with (first | ((with_reducible refine gate_dst (N := 7) rfl ?_); refine box_event ?hg (N := 7) ?hd (cs := #[.int .u64 0, .int .u64 0]) (t := 86) ?hr ?_; (case hd => rfl); (case hg => rfl); (case hr => first | (go_simp; done) | (go_simp; rfl)); intro gb914 hg w12 hbox hb; have n0_ := Aside0.mk (Kd.R_below (by (with_reducible repeat (first | apply Kd.R_alloc | apply Kd.R_drewN | apply Kd.R_drew)); exact HO_5.out) hb); have n1_ := Aside0.mk (below_step (by repeat (first | (with_reducible first | exact HB.out | apply below_alloc | apply pw_below_drewN | apply below_drew1) | exact HB.out)) hb); have n2_ := Aside0.mk (hbox); have n3_ := Aside0.mk ((by rw [hg]; exact (below_size (by repeat (first | (with_reducible first | exact HB.out | apply below_alloc | apply pw_below_drewN | apply below_drew1) | exact HB.out))) : w.heap.size ≤ gb914)); have n4_ := Aside0.mk ((by rw [hg]; exact (below_size (by repeat (first | (with_reducible first | exact HB.out | apply below_alloc | apply pw_below_drewN | apply below_drew1) | exact HB.out))) : w.heap.size ≤ gb914)); clear HO_5; clear HB; have HO_5 := n0_; have HB := n1_; have BK914 := n2_; have GW914 := n3_; have GE914 := n4_; clear n0_ n1_ n2_ n3_ n4_; clear hb hbox hg; have hcz13_0 : w12.cell? ⟨gb914, 0, none⟩ = some (.int .u64 0) := (blk_cell BK914.out 0).trans rfl; have hcz13_1 : w12.cell? ⟨gb914, 1, none⟩ = some (.int .u64 0) := (blk_cell BK914.out 1).trans rfl; have hfz13_0 := blk_frozen BK914.out 0; have hfz13_1 := blk_frozen BK914.out 1) | ((with_reducible refine gate_store (t := 86) (p := 7) rfl ?_); refine store_event (t := 86) (p := 7) (v := ?vo_w14) (w1 := ((w12.setCell ⟨gb914, 0, none⟩ (.int .u64 ((rd_T86 l1 x18_1).f0))).setCell ⟨gb914, 1, none⟩ (.int .u64 ((rd_T86 l1 x18_1).f1)))) ?hg ?ho ?hn ?hr ?_; (case ho => rfl); (case hg => rfl); (case hn => rfl); (case hr => first | (go_simp; done) | (go_simp; rfl)); intro w14 hw; have n0_ : Aside0 (Kd.R (Kd.int .u64) 22 w14 w.heap.size (fun _ => True) v911 x5_1) := ⟨(by rw [hw]; exact (by (with_reducible repeat (first | apply Kd.R_alloc | apply Kd.R_drewN | apply Kd.R_drew)); exact Kd.R_mono (Kd.R_far (p := ⟨gb914, 1, none⟩) (Kd.R_far (p := ⟨gb914, 0, none⟩) (Kd.R_types HO_5.out BK914.out (by decide)) (fun _ hk => hk.2) (.int .u64 ((rd_T86 l1 x18_1).f0))) (fun _ hk => hk.2) (.int .u64 ((rd_T86 l1 x18_1).f1))) (fun _ hk => trivial)))⟩; have n1_ : Aside0 (w14.heap[gb914]? = some (.cells #[.int .u64 ((rd_T86 l1 x18_1).f0), .int .u64 ((rd_T86 l1 x18_1).f1)] 86 (0, 0))) := ⟨(by rw [hw]; exact (by (with_reducible repeat (first | refine blk_drewN ?_ _ | refine blk_drew ?_ | refine blk_alloc ?_ _)); refine blk_put (cs := #[.int .u64 ((rd_T86 l1 x18_1).f0), .int .u64 0]) ?_ 1 _ rfl; (with_reducible repeat (first | refine blk_drewN ?_ _ | refine blk_drew ?_ | refine blk_alloc ?_ _)); refine blk_put (cs := #[.int .u64 0, .int .u64 0]) ?_ 0 _ rfl; (with_reducible repeat (first | refine blk_drewN ?_ _ | refine blk_drew ?_ | refine blk_alloc ?_ _)); exact BK914.out))⟩; have n2_ : Aside0 (Below w.heap.size w w14) := ⟨(by rw [hw]; exact (by repeat (first | (with_reducible first | exact HB.out | apply below_alloc | apply pw_below_drewN | apply below_drew1 | refine below_set ?_ GE914.out) | exact HB.out)))⟩; clear hw; clear HO_5; clear BK914; clear HB; have HO_5 := n0_; have BK914 := n1_; have HB := n2_; clear n0_ n1_ n2_; have hcz15_0 : w14.cell? ⟨gb914, 0, none⟩ = some (.int .u64 ((rd_T86 l1 x18_1).f0)) := (blk_cell BK914.out 0).trans rfl; have hcz15_1 : w14.cell? ⟨gb914, 1, none⟩ = some (.int .u64 ((rd_T86 l1 x18_1).f1)) := (blk_cell BK914.out 1).trans rfl; have hfz15_0 := blk_frozen BK914.out 0; have hfz15_1 := blk_frozen BK914.out 1; have p11 : 0 ≤ (x18_1 : Int) := of_decide_eq_true (by first | (with_reducible assumption) | assumption); have q11 : (x18_1 : Int) < ((x5_1.length : Int) : Int) := of_decide_eq_true (by first | (with_reducible assumption) | assumption); obtain ⟨go11, co11, eo11, gb11, gl11, cl11, HG11⟩ := Kd.R_form HO_5.out (by omega); (first | cases eo11 | (injection eo11 with ea_ en_ ec_; (first | subst ea_ | (injection ea_ with ea_; subst ea_)); subst ec_; clear en_)); have GB11 := Aside0.mk gb11; have GG11 := Aside0.mk HG11; clear gb11 gl11 HG11; obtain ⟨hx11_0, hf11_0⟩ := Kd.R_celln 0 HO_5.out (x18_1 : Int) p11 q11; replace p11 := eq_true p11; replace q11 := eq_true q11; obtain ⟨hy16_, hz16_⟩ := Kd.R_celln 0 HO_5.out (x18_1 : Int) (of_decide_eq_true (by first | (with_reducible assumption) | assumption)) (of_decide_eq_true (by first | (with_reducible assumption) | assumption)); have HP16 := Kd.R_putg HO_5.out (x18_1 : Int) ((rd_T86 l1 x18_1).f1)) | ((with_reducible refine gate_store (t := 22) (p := 27) rfl ?_); refine store_event (t := 22) (p := 27) (v := ?vo_w17) (w1 := (w14.setCell ⟨go11, (x18_1 : Int).toNat, none⟩ (.int .u64 ((rd_T86 l1 x18_1).f1)))) ?hg ?ho ?hn ?hr ?_; (case ho => rfl); (case hg => rfl); (case hn => rfl); (case hr => first | (go_simp; done) | (go_simp; rfl)); intro w17 hw; have hg : w14.grownBy w17 (some go11) := (by rw [hw]; exact HP16.2); have hp_ : Kd.R (Kd.int .u64) 22 w17 w.heap.size (fun _ => True) (.slice (some ⟨go11, 0, none⟩) x5_1.length co11) y915 := (by rw [hw, Ny915.out]; exact HP16.1); clear HP16; have n0_ := Aside0.mk (hp_); have n1_ := Aside0.mk (blk_grown (g := gb914) (o := .cells #[.int .u64 ((rd_T86 l1 x18_1).f0), .int .u64 ((rd_T86 l1 x18_1).f1)] 86 (0, 0)) (by (with_reducible repeat (first | refine blk_drewN ?_ _ | refine blk_drew ?_ | refine blk_alloc ?_ _)); exact BK914.out) hg (Kd.R_ne HO_5.out BK914.out (by decide))); have n2_ := Aside0.mk ((by rw [hw]; exact below_set (HB.out) GB11.out : Below w.heap.size w w17)); clear HO_5; clear BK914; clear HB; have HO_5 := n0_; have BK914 := n1_; have HB := n2_; clear n0_ n1_ n2_; clear hg hw hp_))
         go_roundg k1
         case measure => have := HK1.out; omega
         case rel => exact ⟨(y915), (wrap64 (x18_1 + 1)), (by first | rfl | (simp; done) | (simp [*]; done)), H', ⟨by have := HK1.out; omega⟩, ⟨by (with_reducible repeat (first | apply Kd.R_alloc | apply Kd.R_drewN | apply Kd.R_drew)); exact HO_5.out⟩, ⟨by repeat (first | (with_reducible first | exact HB.out | apply below_alloc | apply pw_below_drewN | apply below_drew1 | refine below_set ?_ GE914.out) | exact HB.out)⟩⟩
        ·rw [if_neg c10] at H
         exact absurd H (by simp)
       ·rw [if_neg c9] at H
        exact absurd H (by simp)
      ·rw [if_neg c8] at H
       exact absurd H (by simp)
     ·rw [if_neg c7] at H
      have c7b0 : decide (x18_1 < (l1.length : Int)) = false := decide_eq_false c7
      clear c7
      have H' := Aside0.mk H
      clear H
      go_wp2
      go_loopg [8] k1 (fun kq v8 w' => ∃ (x5_2 : List Int) (x8_2 : Int), v8 = .int .i64 x8_2 ∧ Aside0 (poly_Fit.l1 kq a0 l1 x5_2 x8_2 = some r) ∧ Aside0 (kq ≤ k1) ∧ Aside0 (Kd.R (Kd.int .u64) 22 w' w.heap.size (fun _ => True) v911 x5_2) ∧ Aside0 (Below w.heap.size w w'))
      case atStart => exact ⟨(x5_1), (1), (by first | rfl | (simp; done) | (simp [*]; done)), H', ⟨Nat.le_refl _⟩, ⟨by (with_reducible repeat (first | apply Kd.R_alloc | apply Kd.R_drewN | apply Kd.R_drew)); exact HO_5.out⟩, ⟨by repeat (first | (with_reducible first | exact HB.out | apply below_alloc | apply pw_below_drewN | apply below_drew1) | exact HB.out)⟩⟩
      case round =>
       clear H'
       try clear c1
       try clear p1
       try clear q1
       try clear hx1
       try clear p2
       try clear c3
       try clear c3b0
       try clear c3b1
       try clear c4
       try clear c4b0
       try clear c4b1
       try clear p6
       try clear c7
       try clear c7b0
       try clear c8
       try clear c8b0
       try clear c9
       try clear c9b0
       try clear p9
       try clear q9
       try clear hx9
       try clear c10
       try clear c10b0
       try clear p11
       try clear q11
       try clear hx11
       try clear hf11
       try clear c14
       try clear hcz13_0
       try clear hcz13_1
       try clear hcz15_0
       try clear hcz15_1
       try clear hfz13_0
       try clear hfz13_1
       try clear hfz15_0
       try clear hfz15_1
       try clear hx11_0
       try clear hx913_0
       try clear hx913_1
       try clear p11
       try clear p2
       try clear p913
       try clear q11
       try clear q913
       obtain ⟨x5_2, x8_2, rfl, HA, HK2, HO_5, HB⟩ := hrel
       cases gk with
       | zero => exact absurd HA.out (by simp [poly_Fit.l1])
       | succ k2 =>
        have H := HA.out
        clear HA
        simp only [poly_Fit.l1] at H
        by_cases c18 : x8_2 < (l1.length : Int)
        ·rw [if_pos c18] at H
         have c18b0 : decide (x8_2 < (l1.length : Int)) = true := decide_eq_true c18
         clear c18
         have H' := Aside0.mk H
         clear H
         go_wp2
         go_loopg [9] k2 (fun kq v9 w' => ∃ (x5_3 : List Int) (x9_3 : Int), v9 = .int .i64 x9_3 ∧ Aside0 (poly_Fit.l2 kq a0 l1 x5_3 x8_2 x9_3 = some r) ∧ Aside0 (kq ≤ k2) ∧ Aside0 (Kd.R (Kd.int .u64) 22 w' w.heap.size (fun _ => True) v911 x5_3) ∧ Aside0 (Below w.heap.size w w'))
         case atStart => exact ⟨(x5_2), (wrap64 ((l1.length : Int) - 1)), (by first | rfl | (simp; done) | (simp [*]; done)), H', ⟨Nat.le_refl _⟩, ⟨by (with_reducible repeat (first | apply Kd.R_alloc | apply Kd.R_drewN | apply Kd.R_drew)); exact HO_5.out⟩, ⟨by repeat (first | (with_reducible first | exact HB.out | apply below_alloc | apply pw_below_drewN | apply below_drew1) | exact HB.out)⟩⟩
         case round =>
          clear H'
          try clear c1
          try clear p1
          try clear q1
          try clear hx1
          try clear p2
          try clear c3
          try clear c3b0
          try clear c3b1
          try clear c4
          try clear c4b0
          try clear c4b1
          try clear p6
          try clear c7
          try clear c7b0
          try clear c8
          try clear c8b0
          try clear c9
          try clear c9b0
          try clear p9
          try clear q9
          try clear hx9
          try clear c10
          try clear c10b0
          try clear p11
          try clear q11
          try clear hx11
          try clear hf11
          try clear c14
          try clear c18
          try clear c18b0
          try clear hcz13_0
          try clear hcz13_1
          try clear hcz15_0
          try clear hcz15_1
          try clear hfz13_0
          try clear hfz13_1
          try clear hfz15_0
          try clear hfz15_1
          try clear hx11_0
          try clear hx913_0
          try clear hx913_1
          try clear p1
          try clear p11
          try clear p2
          try clear p6
          try clear p9
          try clear p913
          try clear q1
          try clear q11
          try clear q9
          try clear q913
          obtain ⟨x5_3, x9_3, rfl, HA, HK3, HO_5, HB⟩ := hrel
          cases gk with
          | zero => exact absurd HA.out (by simp [poly_Fit.l2])
          | succ k3 =>
           have H := HA.out
           clear HA
           simp only [poly_Fit.l2] at H
           by_cases c19 : x9_3 ≥ x8_2
           ·rw [if_pos c19] at H
            have c19b0 : decide (x8_2 ≤ x9_3) = true := decide_eq_true c19
            clear c19
            by_cases c20 : 0 ≤ x9_3
            ·rw [if_pos c20] at H
             have c20b0 : decide (0 ≤ x9_3) = true := decide_eq_true c20
             clear c20
             by_cases c21 : x9_3 < (l1.length : Int)
             ·rw [if_pos c21] at H
              have c21b0 : decide (x9_3 < (l1.length : Int)) = true := decide_eq_true c21
              clear c21
              obtain ⟨ji22, hji22⟩ : ∃ j_ : Int, (wrap64 (x9_3 - x8_2)) = j_ := ⟨_, rfl⟩
              replace H : (if 0 ≤ (ji22) then (if (ji22) < (l1.length : Int) then ((field_Minus.f a0 ((rd_T86 l1 x9_3).f0) ((rd_T86 l1 (ji22)).f0)).bind fun t918 => (if x9_3 < (x5_3.length : Int) then (if 0 ≤ (wrap64 (x9_3 - 1)) then (if (wrap64 (x9_3 - 1)) < (x5_3.length : Int) then ((field_Minus.f a0 (rd x5_3 x9_3) (rd x5_3 (wrap64 (x9_3 - 1)))).bind fun t921 => ((field_Over.f k3 a0 t918).bind fun t922 => ((field_Times.f a0 t921 t922).bind fun t923 => (poly_Fit.l2 k3 a0 l1 (x5_3.set (x9_3 : Int).toNat t923) x8_2 (wrap64 (x9_3 - 1)))))) else (none)) else (none)) else (none))) else (none)) else (none)) = some r := by first | (rw [hji22] at H; exact H) | (simp only [hji22] at H ⊢; exact H)
              have hji22w : (IntKind.i64.wrap (x9_3 - x8_2)) = ji22 := (i64_w _).trans hji22
              by_cases c23 : 0 ≤ (ji22)
              ·rw [if_pos c23] at H
               have c23b0 : decide (0 ≤ (ji22)) = true := decide_eq_true c23
               clear c23
               by_cases c24 : (ji22) < (l1.length : Int)
               ·rw [if_pos c24] at H
                have c24b0 : decide ((ji22) < (l1.length : Int)) = true := decide_eq_true c24
                clear c24
                replace H := Option.bind_eq_some_iff.mp H
                obtain ⟨t918, A250, H⟩ := H
                replace H : (if x9_3 < (x5_3.length : Int) then (if 0 ≤ (wrap64 (x9_3 - 1)) then (if (wrap64 (x9_3 - 1)) < (x5_3.length : Int) then ((field_Minus.f a0 (rd x5_3 x9_3) (rd x5_3 (wrap64 (x9_3 - 1)))).bind fun t921 => ((field_Over.f k3 a0 t918).bind fun t922 => ((field_Times.f a0 t921 t922).bind fun t923 => (poly_Fit.l2 k3 a0 l1 (x5_3.set (x9_3 : Int).toNat t923) x8_2 (wrap64 (x9_3 - 1)))))) else (none)) else (none)) else (none)) = some r := H
                have A25 := Aside0.mk A250
                clear A250
                by_cases c26 : x9_3 < (x5_3.length : Int)
                ·rw [if_pos c26] at H
                 have c26b0 : decide (x9_3 < (x5_3.length : Int)) = true := decide_eq_true c26
                 clear c26
                 obtain ⟨ji27, hji27⟩ : ∃ j_ : Int, (wrap64 (x9_3 - 1)) = j_ := ⟨_, rfl⟩
                 replace H : (if 0 ≤ (ji27) then (if (ji27) < (x5_3.length : Int) then ((field_Minus.f a0 (rd x5_3 x9_3) (rd x5_3 (ji27))).bind fun t921 => ((field_Over.f k3 a0 t918).bind fun t922 => ((field_Times.f a0 t921 t922).bind fun t923 => (poly_Fit.l2 k3 a0 l1 (x5_3.set (x9_3 : Int).toNat t923) x8_2 ji27)))) else (none)) else (none)) = some r := by first | (rw [hji27] at H; exact H) | (simp only [hji27] at H ⊢; exact H)
                 (try rw [hji27] at A25)
                 have hji27w : (IntKind.i64.wrap (x9_3 - 1)) = ji27 := (i64_w _).trans hji27
                 by_cases c28 : 0 ≤ (ji27)
                 ·rw [if_pos c28] at H
                  have c28b0 : decide (0 ≤ (ji27)) = true := decide_eq_true c28
                  clear c28
                  by_cases c29 : (ji27) < (x5_3.length : Int)
                  ·rw [if_pos c29] at H
                   have c29b0 : decide ((ji27) < (x5_3.length : Int)) = true := decide_eq_true c29
                   clear c29
                   replace H := Option.bind_eq_some_iff.mp H
                   obtain ⟨t921, A300, H⟩ := H
                   replace H : ((field_Over.f k3 a0 t918).bind fun t922 => ((field_Times.f a0 t921 t922).bind fun t923 => (poly_Fit.l2 k3 a0 l1 (x5_3.set (x9_3 : Int).toNat t923) x8_2 ji27))) = some r := H
                   have A30 := Aside0.mk A300
                   clear A300
                   replace H := Option.bind_eq_some_iff.mp H
                   obtain ⟨t922, A310, H⟩ := H
                   replace H : ((field_Times.f a0 t921 t922).bind fun t923 => (poly_Fit.l2 k3 a0 l1 (x5_3.set (x9_3 : Int).toNat t923) x8_2 ji27)) = some r := H
                   have A31 := Aside0.mk A310
                   clear A310
                   replace H := Option.bind_eq_some_iff.mp H
                   obtain ⟨t923, A320, H⟩ := H
                   replace H : (poly_Fit.l2 k3 a0 l1 (x5_3.set (x9_3 : Int).toNat t923) x8_2 ji27) = some r := H
                   have A32 := Aside0.mk A320
                   clear A320
                   obtain ⟨y924, hy924⟩ : ∃ y_ : List Int, y_ = (x5_3.set (x9_3 : Int).toNat t923) := ⟨_, rfl⟩
                   replace H : (poly_Fit.l2 k3 a0 l1 y924 x8_2 ji27) = some r := by first | (rw [hy924]; with_reducible exact H) | (have H2_ := (Option.bind_some _ _).symm.trans H; rw [hy924]; with_reducible exact H2_) | (have H2_ := (Option.bind_some _ _).symm.trans H; with_reducible exact H2_) | with_reducible exact H | (rw [hy924]; exact H) | exact H
                   have Ny924 := Aside0.mk hy924
                   clear hy924
                   have H' := Aside0.mk H
                   clear H
                   try go_wp2
                   have n0_ := Aside0.mk (Kd.R_drew HO_5.out)
                   have n1_ := Aside0.mk (below_drew1 HB.out)
                   clear HO_5
                   clear HB
                   have HO_5 := n0_
                   have HB := n1_
                   clear n0_ n1_
                   have p916 : 0 ≤ (x9_3 : Int) := of_decide_eq_true (by first | (with_reducible assumption) | assumption)
                   have q916 : x9_3 < (l1.length : Int) := of_decide_eq_true (by first | (with_reducible assumption) | assumption)
                   obtain ⟨ad916, e916, hx916_0, hx916_1⟩ := at_T86 HR1.out x9_3 p916 q916
                   have hw916_1 := hx916_1
                   have hw916_0 := hx916_0
                   cases e916
                   replace hx916_0 := (HB.out.cell (World.block_lt_of_cell? w _ hx916_0)).trans hx916_0
                   replace hx916_1 := (HB.out.cell (World.block_lt_of_cell? w _ hx916_1)).trans hx916_1
                   replace p916 := eq_true p916
                   replace q916 := eq_true q916
                   have p917 : 0 ≤ ((ji22) : Int) := of_decide_eq_true (by first | (with_reducible assumption) | assumption)
                   have q917 : (ji22) < (l1.length : Int) := of_decide_eq_true (by first | (with_reducible assumption) | assumption)
                   obtain ⟨ad917, e917, hx917_0, hx917_1⟩ := at_T86 HR1.out (ji22) p917 q917
                   have hw917_1 := hx917_1
                   have hw917_0 := hx917_0
                   obtain rfl : ad916 = ad917 := (by injection e917)
                   replace hx917_0 := (HB.out.cell (World.block_lt_of_cell? w _ hx917_0)).trans hx917_0
                   replace hx917_1 := (HB.out.cell (World.block_lt_of_cell? w _ hx917_1)).trans hx917_1
                   replace p917 := eq_true p917
                   replace q917 := eq_true q917
                   refine start_ (n := 15) (S := fun w' => w'.cell? (ad916.add ((x9_3).toNat * 2)) = some (.int .u64 ((rd_T86 l1 x9_3).f0)) ∧ w'.cell? ⟨(ad916.add ((x9_3).toNat * 2)).block, (ad916.add ((x9_3).toNat * 2)).off + 1, none⟩ = some (.int .u64 ((rd_T86 l1 x9_3).f1)) ∧ w'.cell? (ad916.add (((ji22)).toNat * 2)) = some (.int .u64 ((rd_T86 l1 (ji22)).f0)) ∧ w'.cell? ⟨(ad916.add (((ji22)).toNat * 2)).block, (ad916.add (((ji22)).toNat * 2)).off + 1, none⟩ = some (.int .u64 ((rd_T86 l1 (ji22)).f1))) (ds := []) #[false, false, false, false, false, false, false, false, false, false, false, false, false, false, false] (by kernel_rfl) rfl rfl ⟨((HB.out.cell (World.block_lt_of_cell? w _ hw916_0)).trans hw916_0), ((HB.out.cell (World.block_lt_of_cell? w _ hw916_1)).trans hw916_1), ((HB.out.cell (World.block_lt_of_cell? w _ hw917_0)).trans hw917_0), ((HB.out.cell (World.block_lt_of_cell? w _ hw917_1)).trans hw917_1)⟩ (fun hHeld => ?_); refine with_tabW poly_Fit.tab13 poly_Fit.bits13 (fun HT_ HW_ => ?_)
                   generalize wr.drew = w34 at HO_5 HB hx916_0 hx916_1 hx917_0 hx917_1 hHeld ⊢
                   refine pure_ (i := 0) (N := some 43) (v := ?_) (a' := ?_) #[true, false, false, false, false, false, false, false, false, false, false, false, false, false, false] rfl rfl (any_of HT_.out (by kernel_rfl)) (fun _ _ _ h => h) (Or.inl ⟨by rfl, ?_⟩) ?_ ?_
                   rotate_left
                   ·intro w'
                    go_simp
                    with_reducible rfl
                   rotate_left
                   ·simp only [Act.put, List.setIfInBounds_toArray, List.set_cons_zero, List.set_cons_succ, i64_w, i32_w]
                    rfl
                   refine pure_ (i := 1) (N := some 44) (v := ?_) (a' := ?_) #[true, true, false, false, false, false, false, false, false, false, false, false, false, false, false] rfl rfl (any_of HT_.out (by kernel_rfl)) (fun _ _ _ h => h) (Or.inl ⟨by rfl, ?_⟩) ?_ ?_
                   rotate_left
                   ·intro w'
                    go_simp
                    with_reducible rfl
                   rotate_left
                   ·simp only [Act.put, List.setIfInBounds_toArray, List.set_cons_zero, List.set_cons_succ, i64_w, i32_w]
                    rfl
                   refine pure_ (i := 2) (N := some 45) (v := ?_) (a' := ?_) #[true, true, true, false, false, false, false, false, false, false, false, false, false, false, false] rfl rfl (any_of HT_.out (by kernel_rfl)) (fun _ _ _ h => h) (Or.inl ⟨by rfl, ?_⟩) ?_ ?_
                   rotate_left
                   ·intro w'
                    go_simp
                    with_reducible rfl
                   rotate_left
                   ·simp only [Act.put, List.setIfInBounds_toArray, List.set_cons_zero, List.set_cons_succ, i64_w, i32_w]
                    rfl
                   refine pure_ (i := 3) (N := some 46) (v := ?_) (a' := ?_) #[true, true, true, true, false, false, false, false, false, false, false, false, false, false, false] rfl rfl (any_of HT_.out (by kernel_rfl)) (fun _ _ _ h => h) (Or.inl ⟨by rfl, ?_⟩) ?_ ?_
                   rotate_left
                   ·intro w'
                    go_simp
                    with_reducible rfl
                   rotate_left
                   ·simp only [Act.put, List.setIfInBounds_toArray, List.set_cons_zero, List.set_cons_succ, i64_w, i32_w]
                    rfl
                   refine pure_ (i := 4) (N := some 47) (v := ?_) (a' := ?_) #[true, true, true, true, true, false, false, false, false, false, false, false, false, false, false] rfl rfl (any_of HT_.out (by kernel_rfl)) (fun _ _ _ h => h) (Or.inl ⟨by rfl, ?_⟩) ?_ ?_
                   rotate_left
                   ·intro w'
                    go_simp
                    with_reducible rfl
                   rotate_left
                   ·simp only [Act.put, List.setIfInBounds_toArray, List.set_cons_zero, List.set_cons_succ, i64_w, i32_w]
                    rfl
                   refine pure_ (i := 6) (N := some 49) (v := ?_) (a' := ?_) #[true, true, true, true, true, false, true, false, false, false, false, false, false, false, false] rfl rfl (any_of HT_.out (by kernel_rfl)) (fun _ _ _ h => h) (Or.inl ⟨by rfl, ?_⟩) ?_ ?_
                   rotate_left
                   ·intro w'
                    go_simp
                    with_reducible rfl
                   rotate_left
                   ·simp only [Act.put, List.setIfInBounds_toArray, List.set_cons_zero, List.set_cons_succ, i64_w, i32_w]
                    rfl
                   refine pure_ (i := 7) (N := some 50) (v := ?_) (a' := ?_) #[true, true, true, true, true, false, true, true, false, false, false, false, false, false, false] rfl rfl (any_of HT_.out (by kernel_rfl)) (fun _ _ _ h => h) (Or.inl ⟨by rfl, ?_⟩) ?_ ?_
                   rotate_left
                   ·intro w'
                    go_simp
                    with_reducible rfl
                   rotate_left
                   ·simp only [Act.put, List.setIfInBounds_toArray, List.set_cons_zero, List.set_cons_succ, i64_w, i32_w]
                    rfl
                   refine pure_ (i := 8) (N := some 51) (v := ?_) (a' := ?_) #[true, true, true, true, true, false, true, true, true, false, false, false, false, false, false] rfl rfl (any_of HT_.out (by kernel_rfl)) (fun _ _ _ h => h) (Or.inl ⟨by rfl, ?_⟩) ?_ ?_
                   rotate_left
                   ·intro w'
                    go_simp
                    with_reducible rfl
                   rotate_left
                   ·simp only [Act.put, List.setIfInBounds_toArray, List.set_cons_zero, List.set_cons_succ, i64_w, i32_w]
                    rfl
                   refine pure_ (i := 9) (N := some 52) (v := ?_) (a' := ?_) #[true, true, true, true, true, false, true, true, true, true, false, false, false, false, false] rfl rfl (any_of HT_.out (by kernel_rfl)) (fun _ _ _ h => h) (Or.inl ⟨by rfl, ?_⟩) ?_ ?_
                   rotate_left
                   ·intro w'
                    go_simp
                    with_reducible rfl
                   rotate_left
                   ·simp only [Act.put, List.setIfInBounds_toArray, List.set_cons_zero, List.set_cons_succ, i64_w, i32_w]
                    rfl
                   refine pure_ (i := 10) (N := some 53) (v := ?_) (a' := ?_) #[true, true, true, true, true, false, true, true, true, true, true, false, false, false, false] rfl rfl (any_of HT_.out (by kernel_rfl)) (fun _ _ _ h => h) (Or.inl ⟨by rfl, ?_⟩) ?_ ?_
                   rotate_left
                   ·intro w'
                    go_simp
                    with_reducible rfl
                   rotate_left
                   ·simp only [Act.put, List.setIfInBounds_toArray, List.set_cons_zero, List.set_cons_succ, i64_w, i32_w]
                    rfl
                   refine pure_ (i := 11) (N := some 54) (v := ?_) (a' := ?_) #[true, true, true, true, true, false, true, true, true, true, true, true, false, false, false] rfl rfl (any_of HT_.out (by kernel_rfl)) (fun _ _ _ h => h) (Or.inl ⟨by rfl, ?_⟩) ?_ ?_
                   rotate_left
                   ·intro w'
                    go_simp
                    with_reducible rfl
                   rotate_left
                   ·simp only [Act.put, List.setIfInBounds_toArray, List.set_cons_zero, List.set_cons_succ, i64_w, i32_w]
                    rfl
                   refine take_ (i := 5) (N := some 48) (v := ?_) (a' := ?_) #[true, true, true, true, true, true, true, true, true, true, true, true, false, false, false] rfl rfl (take_ofW HT_.out HW_.out (by kernel_rfl)) (fun _ _ _ h => h) (Or.inl ⟨by rfl, ?_⟩) hHeld ?_ ?_
                   rotate_left
                   ·rintro w' ⟨s0, s1, s2, s3⟩
                    go_simp
                    with_reducible rfl
                   rotate_left
                   ·simp only [Act.put, List.setIfInBounds_toArray, List.set_cons_zero, List.set_cons_succ, i64_w, i32_w]
                    rfl
                   refine take_ (i := 12) (N := some 55) (v := ?_) (a' := ?_) #[true, true, true, true, true, true, true, true, true, true, true, true, true, false, false] rfl rfl (take_ofW HT_.out HW_.out (by kernel_rfl)) (fun _ _ _ h => h) (Or.inl ⟨by rfl, ?_⟩) hHeld ?_ ?_
                   rotate_left
                   ·rintro w' ⟨s0, s1, s2, s3⟩
                    go_simp
                    with_reducible rfl
                   rotate_left
                   ·simp only [Act.put, List.setIfInBounds_toArray, List.set_cons_zero, List.set_cons_succ, i64_w, i32_w]
                    rfl
                   refine one_ (i := 13) (N := some 56) #[true, true, true, true, true, true, true, true, true, true, true, true, true, true, false] rfl rfl (one_of HT_.out (by kernel_rfl)) (by decide) (fun K hK => ?_)
                   refine goes_ Try.func142 (by kernel_rfl) rfl #[.int .u64 a0, .int .u64 ((rd_T86 l1 x9_3).f0), .int .u64 ((rd_T86 l1 (ji22)).f0)] (by rfl) rfl rfl (by (try simp only [List.map_toArray, List.map_cons, List.map_nil]); first | done | (simp only [hji22]; rfl) | rfl | (simp only [List.length_drop, List.length_take]; rfl)) ?_
                   with_reducible refine (field_Minus.calls a0 ((rd_T86 l1 x9_3).f0) ((rd_T86 l1 (ji22)).f0) t918 _ A25.out).mono ?_
                   rintro e w' ⟨rfl, ⟨nd, rfl⟩⟩
                   refine ⟨_, rfl, ?_⟩
                   refine hK.out _ _ ⟨((HB.out.cell (World.block_lt_of_cell? w _ hw916_0)).trans hw916_0), ((HB.out.cell (World.block_lt_of_cell? w _ hw916_1)).trans hw916_1), ((HB.out.cell (World.block_lt_of_cell? w _ hw917_0)).trans hw917_0), ((HB.out.cell (World.block_lt_of_cell? w _ hw917_1)).trans hw917_1)⟩ (fun hHeld => ?_)
                   clear hK K
                   refine norm_ (a' := ?_) ?_ ?_
                   rotate_left
                   ·show Act.put _ (some 56) _ = _
                    simp only [Act.put, List.setIfInBounds_toArray, List.set_cons_zero, List.set_cons_succ, i64_w, i32_w]
                    rfl
                   refine pure_ (i := 14) (N := some 10) (v := ?_) (a' := ?_) #[true, true, true, true, true, true, true, true, true, true, true, true, true, true, true] rfl rfl (any_of HT_.out (by kernel_rfl)) (fun _ _ _ h => h) (Or.inl ⟨by rfl, ?_⟩) ?_ ?_
                   rotate_left
                   ·intro w'
                    go_simp
                    with_reducible rfl
                   rotate_left
                   ·simp only [Act.put, List.setIfInBounds_toArray, List.set_cons_zero, List.set_cons_succ, i64_w, i32_w]
                    rfl
                   refine done_ (done_of HT_.out (by kernel_rfl)) ?_
                   try go_wp2
                   (try (rw [drewN_self w34]; generalize hq_ : World.drewN w34 _ = w34; have n0_ : Aside0 (Kd.R (Kd.int .u64) 22 w34 w.heap.size (fun _ => True) v911 x5_3) := ⟨by rw [← hq_]; exact (by (with_reducible repeat (first | apply Kd.R_alloc | apply Kd.R_drewN | apply Kd.R_drew)); exact HO_5.out)⟩; have n1_ : Aside0 (Below w.heap.size w w34) := ⟨by rw [← hq_]; exact (by repeat (first | (with_reducible first | exact HB.out | apply below_alloc | apply pw_below_drewN | apply below_drew1) | exact HB.out))⟩; clear HO_5 HB hq_; have HO_5 := n0_; have HB := n1_; clear n0_ n1_))
                   have n0_ := Aside0.mk (Kd.R_drew HO_5.out)
                   have n1_ := Aside0.mk (below_drew1 HB.out)
                   clear HO_5
                   clear HB
                   have HO_5 := n0_
                   have HB := n1_
                   clear n0_ n1_
                   obtain ⟨Ao36, co36, eo36⟩ := Kd.R_slice HO_5.out
                   (first | subst eo36 | (injection eo36 with f1_ f2_ f3_; have f4_ := f1_.symm; have f5_ := f3_.symm; clear f1_ f2_ f3_; subst f4_; subst f5_))
                   have p919 : 0 ≤ (x9_3 : Int) := of_decide_eq_true (by first | (with_reducible assumption) | assumption)
                   have q919 : x9_3 < (x5_3.length : Int) := of_decide_eq_true (by first | (with_reducible assumption) | assumption)
                   obtain ⟨ad919, e919, hx919_0⟩ := Kd.at_int (Kd.R_reads' HO_5.out).2.2 x9_3 p919 q919
                   cases e919
                   replace p919 := eq_true p919
                   replace q919 := eq_true q919
                   have p920 : 0 ≤ ((ji27) : Int) := of_decide_eq_true (by first | (with_reducible assumption) | assumption)
                   have q920 : (ji27) < (x5_3.length : Int) := of_decide_eq_true (by first | (with_reducible assumption) | assumption)
                   obtain ⟨ad920, e920, hx920_0⟩ := Kd.at_int (Kd.R_reads' HO_5.out).2.2 (ji27) p920 q920
                   obtain rfl : ad919 = ad920 := (by injection e920)
                   replace p920 := eq_true p920
                   replace q920 := eq_true q920
                   refine start_ (n := 20) (S := fun w' => w'.cell? (ad919.add (x9_3).toNat) = some (.int .u64 (rd x5_3 x9_3)) ∧ w'.cell? (ad919.add ((ji27)).toNat) = some (.int .u64 (rd x5_3 (ji27)))) (ds := [19]) #[false, false, false, false, false, false, false, false, false, false, false, false, false, false, false, false, false, false, false, false] (by kernel_rfl) rfl rfl ⟨hx919_0, hx920_0⟩ (fun hHeld => ?_); refine with_tabW poly_Fit.tab14 poly_Fit.bits14 (fun HT_ HW_ => ?_)
                   generalize w34.drew = w35 at HO_5 HB hx919_0 hx920_0 hHeld ⊢
                   refine pure_ (i := 0) (N := some 57) (v := ?_) (a' := ?_) #[true, false, false, false, false, false, false, false, false, false, false, false, false, false, false, false, false, false, false, false] rfl rfl (any_of HT_.out (by kernel_rfl)) (fun _ _ _ h => h) (Or.inl ⟨by rfl, ?_⟩) ?_ ?_
                   rotate_left
                   ·intro w'
                    go_simp
                    with_reducible rfl
                   rotate_left
                   ·simp only [Act.put, List.setIfInBounds_toArray, List.set_cons_zero, List.set_cons_succ, i64_w, i32_w]
                    rfl
                   refine pure_ (i := 1) (N := some 58) (v := ?_) (a' := ?_) #[true, true, false, false, false, false, false, false, false, false, false, false, false, false, false, false, false, false, false, false] rfl rfl (any_of HT_.out (by kernel_rfl)) (fun _ _ _ h => h) (Or.inl ⟨by rfl, ?_⟩) ?_ ?_
                   rotate_left
                   ·intro w'
                    go_simp
                    with_reducible rfl
                   rotate_left
                   ·simp only [Act.put, List.setIfInBounds_toArray, List.set_cons_zero, List.set_cons_succ, i64_w, i32_w]
                    rfl
                   refine pure_ (i := 2) (N := some 59) (v := ?_) (a' := ?_) #[true, true, true, false, false, false, false, false, false, false, false, false, false, false, false, false, false, false, false, false] rfl rfl (any_of HT_.out (by kernel_rfl)) (fun _ _ _ h => h) (Or.inl ⟨by rfl, ?_⟩) ?_ ?_
                   rotate_left
                   ·intro w'
                    go_simp
                    with_reducible rfl
                   rotate_left
                   ·simp only [Act.put, List.setIfInBounds_toArray, List.set_cons_zero, List.set_cons_succ, i64_w, i32_w]
                    rfl
                   refine pure_ (i := 3) (N := some 60) (v := ?_) (a' := ?_) #[true, true, true, true, false, false, false, false, false, false, false, false, false, false, false, false, false, false, false, false] rfl rfl (any_of HT_.out (by kernel_rfl)) (fun _ _ _ h => h) (Or.inl ⟨by rfl, ?_⟩) ?_ ?_
                   rotate_left
                   ·intro w'
                    go_simp
                    with_reducible rfl
                   rotate_left
                   ·simp only [Act.put, List.setIfInBounds_toArray, List.set_cons_zero, List.set_cons_succ, i64_w, i32_w]
                    rfl
                   refine pure_ (i := 4) (N := some 61) (v := ?_) (a' := ?_) #[true, true, true, true, true, false, false, false, false, false, false, false, false, false, false, false, false, false, false, false] rfl rfl (any_of HT_.out (by kernel_rfl)) (fun _ _ _ h => h) (Or.inl ⟨by rfl, ?_⟩) ?_ ?_
                   rotate_left
                   ·intro w'
                    go_simp
                    with_reducible rfl
                   rotate_left
                   ·simp only [Act.put, List.setIfInBounds_toArray, List.set_cons_zero, List.set_cons_succ, i64_w, i32_w]
                    rfl
                   refine pure_ (i := 5) (N := some 62) (v := ?_) (a' := ?_) #[true, true, true, true, true, true, false, false, false, false, false, false, false, false, false, false, false, false, false, false] rfl rfl (any_of HT_.out (by kernel_rfl)) (fun _ _ _ h => h) (Or.inl ⟨by rfl, ?_⟩) ?_ ?_
                   rotate_left
                   ·intro w'
                    go_simp
                    with_reducible rfl
                   rotate_left
                   ·simp only [Act.put, List.setIfInBounds_toArray, List.set_cons_zero, List.set_cons_succ, i64_w, i32_w]
                    rfl
                   refine pure_ (i := 6) (N := some 63) (v := ?_) (a' := ?_) #[true, true, true, true, true, true, true, false, false, false, false, false, false, false, false, false, false, false, false, false] rfl rfl (any_of HT_.out (by kernel_rfl)) (fun _ _ _ h => h) (Or.inl ⟨by rfl, ?_⟩) ?_ ?_
                   rotate_left
                   ·intro w'
                    go_simp
                    with_reducible rfl
                   rotate_left
                   ·simp only [Act.put, List.setIfInBounds_toArray, List.set_cons_zero, List.set_cons_succ, i64_w, i32_w]
                    rfl
                   refine pure_ (i := 8) (N := some 65) (v := ?_) (a' := ?_) #[true, true, true, true, true, true, true, false, true, false, false, false, false, false, false, false, false, false, false, false] rfl rfl (any_of HT_.out (by kernel_rfl)) (fun _ _ _ h => h) (Or.inl ⟨by rfl, ?_⟩) ?_ ?_
                   rotate_left
                   ·intro w'
                    go_simp
                    with_reducible rfl
                   rotate_left
                   ·simp only [Act.put, List.setIfInBounds_toArray, List.set_cons_zero, List.set_cons_succ, i64_w, i32_w]
                    rfl
                   refine pure_ (i := 9) (N := some 66) (v := ?_) (a' := ?_) #[true, true, true, true, true, true, true, false, true, true, false, false, false, false, false, false, false, false, false, false] rfl rfl (any_of HT_.out (by kernel_rfl)) (fun _ _ _ h => h) (Or.inl ⟨by rfl, ?_⟩) ?_ ?_
                   rotate_left
                   ·intro w'
                    go_simp
                    with_reducible rfl
                   rotate_left
                   ·simp only [Act.put, List.setIfInBounds_toArray, List.set_cons_zero, List.set_cons_succ, i64_w, i32_w]
                    rfl
                   refine pure_ (i := 10) (N := some 67) (v := ?_) (a' := ?_) #[true, true, true, true, true, true, true, false, true, true, true, false, false, false, false, false, false, false, false, false] rfl rfl (any_of HT_.out (by kernel_rfl)) (fun _ _ _ h => h) (Or.inl ⟨by rfl, ?_⟩) ?_ ?_
                   rotate_left
                   ·intro w'
                    go_simp
                    with_reducible rfl
                   rotate_left
                   ·simp only [Act.put, List.setIfInBounds_toArray, List.set_cons_zero, List.set_cons_succ, i64_w, i32_w]
                    rfl
                   refine pure_ (i := 11) (N := some 68) (v := ?_) (a' := ?_) #[true, true, true, true, true, true, true, false, true, true, true, true, false, false, false, false, false, false, false, false] rfl rfl (any_of HT_.out (by kernel_rfl)) (fun _ _ _ h => h) (Or.inl ⟨by rfl, ?_⟩) ?_ ?_
                   rotate_left
                   ·intro w'
                    go_simp
                    with_reducible rfl
                   rotate_left
                   ·simp only [Act.put, List.setIfInBounds_toArray, List.set_cons_zero, List.set_cons_succ, i64_w, i32_w]
                    rfl
                   refine pure_ (i := 14) (N := some 71) (v := ?_) (a' := ?_) #[true, true, true, true, true, true, true, false, true, true, true, true, false, false, true, false, false, false, false, false] rfl rfl (any_of HT_.out (by kernel_rfl)) (fun _ _ _ h => h) (Or.inl ⟨by rfl, ?_⟩) ?_ ?_
                   rotate_left
                   ·intro w'
                    go_simp
                    with_reducible rfl
                   rotate_left
                   ·simp only [Act.put, List.setIfInBounds_toArray, List.set_cons_zero, List.set_cons_succ, i64_w, i32_w]
                    rfl
                   refine pure_ (i := 15) (N := some 72) (v := ?_) (a' := ?_) #[true, true, true, true, true, true, true, false, true, true, true, true, false, false, true, true, false, false, false, false] rfl rfl (any_of HT_.out (by kernel_rfl)) (fun _ _ _ h => h) (Or.inl ⟨by rfl, ?_⟩) ?_ ?_
                   rotate_left
                   ·intro w'
                    go_simp
                    with_reducible rfl
                   rotate_left
                   ·simp only [Act.put, List.setIfInBounds_toArray, List.set_cons_zero, List.set_cons_succ, i64_w, i32_w]
                    rfl
                   refine take_ (i := 7) (N := some 64) (v := ?_) (a' := ?_) #[true, true, true, true, true, true, true, true, true, true, true, true, false, false, true, true, false, false, false, false] rfl rfl (take_ofW HT_.out HW_.out (by kernel_rfl)) (fun _ _ _ h => h) (Or.inl ⟨by rfl, ?_⟩) hHeld ?_ ?_
                   rotate_left
                   ·rintro w' ⟨s0, s1⟩
                    go_simp
                    with_reducible rfl
                   rotate_left
                   ·simp only [Act.put, List.setIfInBounds_toArray, List.set_cons_zero, List.set_cons_succ, i64_w, i32_w]
                    rfl
                   refine take_ (i := 12) (N := some 69) (v := ?_) (a' := ?_) #[true, true, true, true, true, true, true, true, true, true, true, true, true, false, true, true, false, false, false, false] rfl rfl (take_ofW HT_.out HW_.out (by kernel_rfl)) (fun _ _ _ h => h) (Or.inl ⟨by rfl, ?_⟩) hHeld ?_ ?_
                   rotate_left
                   ·rintro w' ⟨s0, s1⟩
                    go_simp
                    with_reducible rfl
                   rotate_left
                   ·simp only [Act.put, List.setIfInBounds_toArray, List.set_cons_zero, List.set_cons_succ, i64_w, i32_w]
                    rfl
                   refine one_ (i := 13) (N := some 70) #[true, true, true, true, true, true, true, true, true, true, true, true, true, true, true, true, false, false, false, false] rfl rfl (one_of HT_.out (by kernel_rfl)) (by decide) (fun K hK => ?_)
                   refine goes_ Try.func142 (by kernel_rfl) rfl #[.int .u64 a0, .int .u64 (rd x5_3 x9_3), .int .u64 (rd x5_3 (ji27))] (by rfl) rfl rfl (by (try simp only [List.map_toArray, List.map_cons, List.map_nil]); first | done | (simp only [hji27]; rfl) | rfl | (simp only [List.length_drop, List.length_take]; rfl)) ?_
                   with_reducible refine (field_Minus.calls a0 (rd x5_3 x9_3) (rd x5_3 (ji27)) t921 _ A30.out).mono ?_
                   rintro e w' ⟨rfl, ⟨nd, rfl⟩⟩
                   refine ⟨_, rfl, ?_⟩
                   refine hK.out _ _ ⟨hHeld.1, hHeld.2⟩ (fun hHeld => ?_)
                   clear hK K
                   refine norm_ (a' := ?_) ?_ ?_
                   rotate_left
                   ·show Act.put _ (some 70) _ = _
                    simp only [Act.put, List.setIfInBounds_toArray, List.set_cons_zero, List.set_cons_succ, i64_w, i32_w]
                    rfl
                   refine one_ (i := 16) (N := some 73) #[true, true, true, true, true, true, true, true, true, true, true, true, true, true, true, true, true, false, false, false] rfl rfl (one_of HT_.out (by kernel_rfl)) (by decide) (fun K hK => ?_)
                   refine goes_ Try.func159 (by kernel_rfl) rfl #[.int .u64 a0, .int .u64 t918] (by rfl) rfl rfl (by (try simp only [List.map_toArray, List.map_cons, List.map_nil]); first | done | rfl | (simp only [List.length_drop, List.length_take]; rfl)) ?_
                   with_reducible refine (field_Over.calls k3 a0 t918 t922 _ A31.out).mono ?_
                   rintro e w' ⟨rfl, ⟨nd, rfl⟩⟩
                   refine ⟨_, rfl, ?_⟩
                   refine hK.out _ _ ⟨hHeld.1, hHeld.2⟩ (fun hHeld => ?_)
                   clear hK K
                   refine norm_ (a' := ?_) ?_ ?_
                   rotate_left
                   ·show Act.put _ (some 73) _ = _
                    simp only [Act.put, List.setIfInBounds_toArray, List.set_cons_zero, List.set_cons_succ, i64_w, i32_w]
                    rfl
                   refine one_ (i := 17) (N := some 74) #[true, true, true, true, true, true, true, true, true, true, true, true, true, true, true, true, true, true, false, false] rfl rfl (one_of HT_.out (by kernel_rfl)) (by decide) (fun K hK => ?_)
                   refine goes_ Try.func148 (by kernel_rfl) rfl #[.int .u64 a0, .int .u64 t921, .int .u64 t922] (by rfl) rfl rfl (by (try simp only [List.map_toArray, List.map_cons, List.map_nil]); first | done | rfl | (simp only [List.length_drop, List.length_take]; rfl)) ?_
                   with_reducible refine (field_Times.calls a0 t921 t922 t923 _ A32.out).mono ?_
                   rintro e w' ⟨rfl, ⟨nd, rfl⟩⟩
                   refine ⟨_, rfl, ?_⟩
                   have p33 : 0 ≤ (x9_3 : Int) := of_decide_eq_true (by first | (with_reducible assumption) | assumption)
                   have q33 : (x9_3 : Int) < ((x5_3.length : Int) : Int) := of_decide_eq_true (by first | (with_reducible assumption) | assumption)
                   obtain ⟨go33, co33, eo33, gb33, gl33, cl33, HG33⟩ := Kd.R_form HO_5.out (by omega)
                   (first | cases eo33 | (injection eo33 with ea_ en_ ec_; (first | subst ea_ | (injection ea_ with ea_; subst ea_)); subst ec_; clear en_))
                   have GB33 := Aside0.mk gb33
                   have GG33 := Aside0.mk HG33
                   clear gb33 gl33 HG33
                   (first | simp only [add_plain] at hx919_0 | skip)
                   (first | simp only [add_plain] at hx920_0 | skip)
                   obtain ⟨hx33_0, hf33_0⟩ := Kd.R_celln 0 HO_5.out (x9_3 : Int) p33 q33
                   replace p33 := eq_true p33
                   replace q33 := eq_true q33
                   have HP37 := Kd.R_putn HO_5.out (x9_3 : Int) t923
                   rw [← Ny924.out] at HP37
                   have HQ37 := Aside0.mk HP37
                   clear HP37
                   refine hK.out _ _ ⟨hHeld.1, hHeld.2⟩ (fun hHeld => ?_)
                   clear hK K
                   refine norm_ (a' := ?_) ?_ ?_
                   rotate_left
                   ·show Act.put _ (some 74) _ = _
                    simp only [Act.put, List.setIfInBounds_toArray, List.set_cons_zero, List.set_cons_succ, i64_w, i32_w]
                    rfl
                   refine pure_ (i := 18) (N := some 75) (v := ?_) (a' := ?_) #[true, true, true, true, true, true, true, true, true, true, true, true, true, true, true, true, true, true, true, false] rfl rfl (any_of HT_.out (by kernel_rfl)) (fun _ _ _ h => h) (Or.inl ⟨by rfl, ?_⟩) ?_ ?_
                   rotate_left
                   ·intro w'
                    go_simp
                    with_reducible rfl
                   rotate_left
                   ·simp only [Act.put, List.setIfInBounds_toArray, List.set_cons_zero, List.set_cons_succ, i64_w, i32_w]
                    rfl
                   refine last_ (i := 19) (N := none) #[true, true, true, true, true, true, true, true, true, true, true, true, true, true, true, true, true, true, true, true] rfl rfl (one_of HT_.out (by kernel_rfl)) (by decide) (fun K hK => ?_)
                   refine skip_ (w1 := ?_) (by rfl) rfl ?_ ?_
                   rotate_left
                   ·go_simp
                    rfl
                   refine hK.out _ _ ?_
                   clear hK K
                   refine done_ (done_of HT_.out (by kernel_rfl)) ?_
                   try go_wp2
                   go_roundg k3
                   case measure => have := HK1.out; have := HK2.out; have := HK3.out; omega
                   case rel => exact ⟨(y924), (ji27), (by first | rfl | (simp; done) | (simp only [← hji27] <;> (first | rfl | simp)) | (simp [*]; done)), H', ⟨by have := HK1.out; have := HK2.out; have := HK3.out; omega⟩, ⟨by (with_reducible repeat (first | apply Kd.R_alloc | apply Kd.R_drewN | apply Kd.R_drew)); exact HQ37.out⟩, ⟨by repeat (first | (with_reducible first | exact HB.out | apply below_alloc | apply pw_below_drewN | apply below_drew1 | refine below_set ?_ GB33.out) | exact HB.out)⟩⟩
                  ·rw [if_neg c29] at H
                   exact absurd H (by simp)
                 ·rw [if_neg c28] at H
                  exact absurd H (by simp)
                ·rw [if_neg c26] at H
                 exact absurd H (by simp)
               ·rw [if_neg c24] at H
                exact absurd H (by simp)
              ·rw [if_neg c23] at H
               exact absurd H (by simp)
             ·rw [if_neg c21] at H
              exact absurd H (by simp)
            ·rw [if_neg c20] at H
             exact absurd H (by simp)
           ·rw [if_neg c19] at H
            have c19b0 : decide (x8_2 ≤ x9_3) = false := decide_eq_false c19
            clear c19
            have H' := Aside0.mk H
            clear H
            go_wp2
            go_roundg k3
            case measure => have := HK1.out; have := HK2.out; have := HK3.out; omega
            case rel => exact ⟨(x5_3), (wrap64 (x8_2 + 1)), (by first | rfl | (simp; done) | (simp [*]; done)), H', ⟨by have := HK1.out; have := HK2.out; have := HK3.out; omega⟩, ⟨by (with_reducible repeat (first | apply Kd.R_alloc | apply Kd.R_drewN | apply Kd.R_drew)); exact HO_5.out⟩, ⟨by repeat (first | (with_reducible first | exact HB.out | apply below_alloc | apply pw_below_drewN | apply below_drew1) | exact HB.out)⟩⟩
        ·rw [if_neg c18] at H
         have c18b0 : decide (x8_2 < (l1.length : Int)) = false := decide_eq_false c18
         clear c18
         have H' := Aside0.mk H
         clear H
         go_wp2
         go_loopg [11, 12] k2 (fun kq v11 v12 w' => ∃ (x11_3 : List Int) (x12_3 : Int), v12 = .int .i64 x12_3 ∧ Aside0 (poly_Fit.l3 kq a0 l1 x5_2 x11_3 x12_3 = some r) ∧ Aside0 (kq ≤ k2) ∧ Aside0 (Kd.R (Kd.int .u64) 22 w' w.heap.size (fun k_ => some k_ ≠ (v11 : Value).ownBlock) v911 x5_2) ∧ Aside0 (Kd.R (Kd.int .u64) 22 w' w.heap.size (fun k_ => some k_ ≠ (v911 : Value).ownBlock) v11 x11_3) ∧ Aside0 (Below w.heap.size w w'))
         case atStart => exact ⟨(([] : List Int)), (wrap64 ((l1.length : Int) - 1)), (by first | rfl | (simp; done) | (simp [*]; done)), H', ⟨Nat.le_refl _⟩, ⟨by (with_reducible repeat (first | apply Kd.R_alloc | apply Kd.R_drewN | apply Kd.R_drew)); exact Kd.R_mono HO_5.out (fun _ hk => (by simp [Value.ownBlock]))⟩, ⟨by first | exact Kd.R_nil _ _ _ _ _ | exact Kd.N_nil _ _ _ _ _ | exact Kd.V_nil _ _ _ _ _ | exact Kd.Q_nil _ _ _ _ _ | exact Kd.S_nil _ _ _ _ _⟩, ⟨by repeat (first | (with_reducible first | exact HB.out | apply below_alloc | apply pw_below_drewN | apply below_drew1) | exact HB.out)⟩⟩
         case round =>
          clear H'
          try clear c1
          try clear p1
          try clear q1
          try clear hx1
          try clear c2
          try clear p2
          try clear c3
          try clear c3b0
          try clear c3b1
          try clear p3
          try clear q3
          try clear hx3
          try clear hf3
          try clear c4
          try clear c4b0
          try clear c4b1
          try clear p6
          try clear c7
          try clear c7b0
          try clear c8
          try clear c8b0
          try clear c9
          try clear c9b0
          try clear p9
          try clear q9
          try clear hx9
          try clear c10
          try clear c10b0
          try clear p11
          try clear q11
          try clear hx11
          try clear hf11
          try clear c14
          try clear c15
          try clear c18
          try clear c18b0
          try clear c19
          try clear c19b0
          try clear c20
          try clear c20b0
          try clear c21
          try clear c21b0
          try clear c23
          try clear c23b0
          try clear c24
          try clear c24b0
          try clear c26
          try clear c26b0
          try clear c28
          try clear c28b0
          try clear c29
          try clear c29b0
          try clear p33
          try clear q33
          try clear hx33
          try clear hf33
          try clear hcz13_0
          try clear hcz13_1
          try clear hcz15_0
          try clear hcz15_1
          try clear hfz13_0
          try clear hfz13_1
          try clear hfz15_0
          try clear hfz15_1
          try clear hx11_0
          try clear hx33_0
          try clear hx913_0
          try clear hx913_1
          try clear hx916_0
          try clear hx916_1
          try clear hx917_0
          try clear hx917_1
          try clear hx919_0
          try clear hx920_0
          try clear p1
          try clear p11
          try clear p2
          try clear p33
          try clear p6
          try clear p9
          try clear p913
          try clear p916
          try clear p917
          try clear p919
          try clear p920
          try clear q1
          try clear q11
          try clear q33
          try clear q9
          try clear q913
          try clear q916
          try clear q917
          try clear q919
          try clear q920
          obtain ⟨x11_3, x12_3, rfl, HA, HK3, HO_5, HO_11, HB⟩ := hrel
          cases gk with
          | zero => exact absurd HA.out (by simp [poly_Fit.l3])
          | succ k3 =>
           have H := HA.out
           clear HA
           simp only [poly_Fit.l3] at H
           by_cases c38 : x12_3 ≥ 0
           ·rw [if_pos c38] at H
            have c38b0 : decide (0 ≤ x12_3) = true := decide_eq_true c38
            clear c38
            by_cases c39 : 0 ≤ x12_3
            ·rw [if_pos c39] at H
             have c39b0 : decide (0 ≤ x12_3) = true := decide_eq_true c39
             clear c39
             by_cases c40 : x12_3 < (l1.length : Int)
             ·rw [if_pos c40] at H
              have c40b0 : decide (x12_3 < (l1.length : Int)) = true := decide_eq_true c40
              clear c40
              replace H := Option.bind_eq_some_iff.mp H
              obtain ⟨t926, A410, H⟩ := H
              replace H : ((poly_Times.f k3 a0 x11_3 (([t926, 1] : List Int))).bind fun t930 => (if x12_3 < (x5_2.length : Int) then ((poly_Plus.f k3 a0 t930 (([rd x5_2 x12_3] : List Int))).bind fun t937 => (poly_Fit.l3 k3 a0 l1 x5_2 t937 (wrap64 (x12_3 - 1)))) else (none))) = some r := H
              have A41 := Aside0.mk A410
              clear A410
              obtain ⟨y927, hy927⟩ : ∃ y_ : List Int, y_ = (([t926, 1] : List Int)) := ⟨_, rfl⟩
              replace H : ((poly_Times.f k3 a0 x11_3 y927).bind fun t930 => (if x12_3 < (x5_2.length : Int) then ((poly_Plus.f k3 a0 t930 (([rd x5_2 x12_3] : List Int))).bind fun t937 => (poly_Fit.l3 k3 a0 l1 x5_2 t937 (wrap64 (x12_3 - 1)))) else (none))) = some r := by first | (rw [hy927]; with_reducible exact H) | (have H2_ := (Option.bind_some _ _).symm.trans H; rw [hy927]; with_reducible exact H2_) | (have H2_ := (Option.bind_some _ _).symm.trans H; with_reducible exact H2_) | with_reducible exact H | (rw [hy927]; exact H) | exact H
              have Ny927 := Aside0.mk hy927
              clear hy927
              replace H := Option.bind_eq_some_iff.mp H
              obtain ⟨t930, A420, H⟩ := H
              replace H : (if x12_3 < (x5_2.length : Int) then ((poly_Plus.f k3 a0 t930 (([rd x5_2 x12_3] : List Int))).bind fun t937 => (poly_Fit.l3 k3 a0 l1 x5_2 t937 (wrap64 (x12_3 - 1)))) else (none)) = some r := H
              have A42 := Aside0.mk A420
              clear A420
              by_cases c43 : x12_3 < (x5_2.length : Int)
              ·rw [if_pos c43] at H
               have c43b0 : decide (x12_3 < (x5_2.length : Int)) = true := decide_eq_true c43
               clear c43
               obtain ⟨y934, hy934⟩ : ∃ y_ : List Int, y_ = (([rd x5_2 x12_3] : List Int)) := ⟨_, rfl⟩
               replace H : ((poly_Plus.f k3 a0 t930 y934).bind fun t937 => (poly_Fit.l3 k3 a0 l1 x5_2 t937 (wrap64 (x12_3 - 1)))) = some r := by first | (rw [hy934]; with_reducible exact H) | (have H2_ := (Option.bind_some _ _).symm.trans H; rw [hy934]; with_reducible exact H2_) | (have H2_ := (Option.bind_some _ _).symm.trans H; with_reducible exact H2_) | with_reducible exact H | (rw [hy934]; exact H) | exact H
               have Ny934 := Aside0.mk hy934
               clear hy934
               replace H := Option.bind_eq_some_iff.mp H
               obtain ⟨t937, A440, H⟩ := H
               replace H : (poly_Fit.l3 k3 a0 l1 x5_2 t937 (wrap64 (x12_3 - 1))) = some r := H
               have A44 := Aside0.mk A440
               clear A440
               have H' := Aside0.mk H
               clear H
               have p925 : 0 ≤ (x12_3 : Int) := of_decide_eq_true (by first | (with_reducible assumption) | assumption)
               have q925 : x12_3 < (l1.length : Int) := of_decide_eq_true (by first | (with_reducible assumption) | assumption)
               obtain ⟨ad925, e925, hx925_0, hx925_1⟩ := at_T86 HR1.out x12_3 p925 q925
               cases e925
               replace hx925_0 := (HB.out.cell (World.block_lt_of_cell? w _ hx925_0)).trans hx925_0
               replace hx925_1 := (HB.out.cell (World.block_lt_of_cell? w _ hx925_1)).trans hx925_1
               replace p925 := eq_true p925
               replace q925 := eq_true q925
               go_wp2_with (first | ((with_reducible refine gate_callee (f := 142) rfl ?_); refine goesL_ (some 91) rfl rfl Try.func142 (by kernel_rfl) rfl #[.int .u64 a0, .int .u64 0, .int .u64 ((rd_T86 l1 x12_3).f0)] rfl (by (try simp only [List.map_toArray, List.map_cons, List.map_nil]); first | done | rfl | (simp only [List.length_drop, List.length_take]; rfl)) ?_; (with_reducible refine (field_Minus.calls a0 0 ((rd_T86 l1 x12_3).f0) t926 _ A41.out).mono ?_); rintro e w' ⟨rfl, ⟨nd, rfl⟩⟩; refine ⟨_, rfl, ?_⟩) | ((with_reducible refine gate_dst (N := 92) rfl ?_); refine Kd.R_lit (Kd.int .u64) _ 22 ?hg (N := 92) ?hd (xs := ([t926, 1] : List Int)) (inner := [.int .u64 t926, .int .u64 1]) (ok := fun _ => True) (okp := fun _ => True) ?hr ?hp (fun _ hk => hk) trivial (Below.refl _ _) (Nat.le_refl _) (by simp) ?_; (case hd => rfl); (case hg => rfl); (case hr => first | (go_simp; done) | (go_simp; rfl)); (case hp => exact (Reps.one (show Kd.M (Kd.int .u64) _ _ _ t926 [.int .u64 t926] from rfl) (Reps.one (show Kd.M (Kd.int .u64) _ _ _ 1 [.int .u64 1] from rfl) (Reps.none _ _)))); intro v928 w45 ho46 hb hg_ hnew_; clear hg_ hnew_; (first | rw [← Ny927.out] at ho46 | (simp only [Int.reduceToNat] at ho46; rw [← Ny927.out] at ho46)); have n0_ := Aside0.mk (Kd.R_elder' (by (with_reducible repeat (first | apply Kd.R_alloc | apply Kd.R_drewN | apply Kd.R_drew)); exact HO_5.out) (Kd.R_base ho46) hb); have n1_ := Aside0.mk (Kd.R_elder' (by (with_reducible repeat (first | apply Kd.R_alloc | apply Kd.R_drewN | apply Kd.R_drew)); exact HO_11.out) (Kd.R_base ho46) hb); have n2_ := Aside0.mk (Kd.R_lower (Kd.R_new' (Kd.R_new' ho46 (Kd.R_lt (by (with_reducible repeat (first | apply Kd.R_alloc | apply Kd.R_drewN | apply Kd.R_drew)); exact HO_5.out))) (Kd.R_lt (by (with_reducible repeat (first | apply Kd.R_alloc | apply Kd.R_drewN | apply Kd.R_drew)); exact HO_11.out))) (below_size (by repeat (first | (with_reducible first | exact HB.out | apply below_alloc | apply pw_below_drewN | apply below_drew1) | exact HB.out)))); have n3_ := Aside0.mk (below_step (by repeat (first | (with_reducible first | exact HB.out | apply below_alloc | apply pw_below_drewN | apply below_drew1) | exact HB.out)) hb); clear HO_5; clear HO_11; clear HB; have HO_5 := n0_; have HO_11 := n1_; have HO929 := n2_; have HB := n3_; clear n0_ n1_ n2_ n3_; clear hb ho46; obtain ⟨Ao47, co47, eo47⟩ := Kd.R_slice HO_11.out; subst eo47; obtain ⟨Ao48, co48, eo48⟩ := Kd.R_slice HO929.out; subst eo48) | ((with_reducible refine gate_callee (f := 157) rfl ?_); refine goesL_ (some 93) rfl rfl Try.func157 (by kernel_rfl) rfl #[.int .u64 a0, .slice Ao47 x11_3.length co47, .slice Ao48 y927.length co48] rfl (by (try simp only [List.map_toArray, List.map_cons, List.map_nil]); first | done | rfl | (simp only [List.length_drop, List.length_take]; rfl)) ?_; (with_reducible refine (poly_Times.calls k3 a0 _ _ x11_3 _ _ y927 t930 _ ?side1 ?side2 ?side3 ?side4 A42.out).mono ?_); (case side1 => repeat (first | exact (Kd.R_reads' HO_11.out).2.2 | (with_reducible refine Kd.C_alloc ?_ _) | (with_reducible refine Kd.C_drewN ?_ _) | (with_reducible refine Kd.C_drew ?_))); (case side2 => exact (Kd.R_reads' HO_11.out).2.1); (case side3 => repeat (first | exact (Kd.R_reads' HO929.out).2.2 | (with_reducible refine Kd.C_alloc ?_ _) | (with_reducible refine Kd.C_drewN ?_ _) | (with_reducible refine Kd.C_drew ?_))); (case side4 => exact (Kd.R_reads' HO929.out).2.1); rintro e w49 ⟨v931, rfl, ho0, hb⟩; refine ⟨_, rfl, ?_⟩; have n0_ := Aside0.mk (Kd.R_elder' (by (with_reducible repeat (first | apply Kd.R_alloc | apply Kd.R_drewN | apply Kd.R_drew)); exact HO_5.out) (Kd.R_base ho0) hb); have n1_ := Aside0.mk (Kd.R_elder' (by (with_reducible repeat (first | apply Kd.R_alloc | apply Kd.R_drewN | apply Kd.R_drew)); exact HO_11.out) (Kd.R_base ho0) hb); have n2_ := Aside0.mk (Kd.R_elder' (by (with_reducible repeat (first | apply Kd.R_alloc | apply Kd.R_drewN | apply Kd.R_drew)); exact HO929.out) (Kd.R_base ho0) hb); have n3_ := Aside0.mk (Kd.R_lower (Kd.R_new' (Kd.R_new' (Kd.R_new' ho0 (Kd.R_lt (by (with_reducible repeat (first | apply Kd.R_alloc | apply Kd.R_drewN | apply Kd.R_drew)); exact HO_5.out))) (Kd.R_lt (by (with_reducible repeat (first | apply Kd.R_alloc | apply Kd.R_drewN | apply Kd.R_drew)); exact HO_11.out))) (Kd.R_lt (by (with_reducible repeat (first | apply Kd.R_alloc | apply Kd.R_drewN | apply Kd.R_drew)); exact HO929.out))) (below_size (by repeat (first | (with_reducible first | exact HB.out | apply below_alloc | apply pw_below_drewN | apply below_drew1) | exact HB.out)))); have n4_ := Aside0.mk (below_step (by repeat (first | (with_reducible first | exact HB.out | apply below_alloc | apply pw_below_drewN | apply below_drew1) | exact HB.out)) hb); clear HO_5; clear HO_11; clear HO929; clear HB; have HO_5 := n0_; have HO_11 := n1_; have HO929 := n2_; have HO932 := n3_; have HB := n4_; clear n0_ n1_ n2_ n3_ n4_; (try clear hb); (try clear hb2); (try clear hk); (try clear hi); (try clear ho0); obtain ⟨Ao50, co50, eo50⟩ := Kd.R_slice HO_5.out; subst eo50; have p933 : 0 ≤ (x12_3 : Int) := of_decide_eq_true (by first | (with_reducible assumption) | assumption); have q933 : x12_3 < (x5_2.length : Int) := of_decide_eq_true (by first | (with_reducible assumption) | assumption); obtain ⟨ad933, e933, hx933_0⟩ := Kd.at_int (Kd.R_reads' HO_5.out).2.2 x12_3 p933 q933; cases e933; replace p933 := eq_true p933; replace q933 := eq_true q933) | ((with_reducible refine gate_dst (N := 100) rfl ?_); refine Kd.R_lit (Kd.int .u64) _ 22 ?hg (N := 100) ?hd (xs := ([rd x5_2 x12_3] : List Int)) (inner := [.int .u64 (rd x5_2 x12_3)]) (ok := fun _ => True) (okp := fun _ => True) ?hr ?hp (fun _ hk => hk) trivial (Below.refl _ _) (Nat.le_refl _) (by simp) ?_; (case hd => rfl); (case hg => rfl); (case hr => first | (go_simp; done) | (go_simp; rfl)); (case hp => exact (Reps.one (show Kd.M (Kd.int .u64) _ _ _ (rd x5_2 x12_3) [.int .u64 (rd x5_2 x12_3)] from rfl) (Reps.none _ _))); intro v935 w51 ho52 hb hg_ hnew_; clear hg_ hnew_; (first | rw [← Ny934.out] at ho52 | (simp only [Int.reduceToNat] at ho52; rw [← Ny934.out] at ho52)); have n0_ := Aside0.mk (Kd.R_elder' (by (with_reducible repeat (first | apply Kd.R_alloc | apply Kd.R_drewN | apply Kd.R_drew)); exact HO_5.out) (Kd.R_base ho52) hb); have n1_ := Aside0.mk (Kd.R_elder' (by (with_reducible repeat (first | apply Kd.R_alloc | apply Kd.R_drewN | apply Kd.R_drew)); exact HO_11.out) (Kd.R_base ho52) hb); have n2_ := Aside0.mk (Kd.R_elder' (by (with_reducible repeat (first | apply Kd.R_alloc | apply Kd.R_drewN | apply Kd.R_drew)); exact HO929.out) (Kd.R_base ho52) hb); have n3_ := Aside0.mk (Kd.R_elder' (by (with_reducible repeat (first | apply Kd.R_alloc | apply Kd.R_drewN | apply Kd.R_drew)); exact HO932.out) (Kd.R_base ho52) hb); have n4_ := Aside0.mk (Kd.R_lower (Kd.R_new' (Kd.R_new' (Kd.R_new' (Kd.R_new' ho52 (Kd.R_lt (by (with_reducible repeat (first | apply Kd.R_alloc | apply Kd.R_drewN | apply Kd.R_drew)); exact HO_5.out))) (Kd.R_lt (by (with_reducible repeat (first | apply Kd.R_alloc | apply Kd.R_drewN | apply Kd.R_drew)); exact HO_11.out))) (Kd.R_lt (by (with_reducible repeat (first | apply Kd.R_alloc | apply Kd.R_drewN | apply Kd.R_drew)); exact HO929.out))) (Kd.R_lt (by (with_reducible repeat (first | apply Kd.R_alloc | apply Kd.R_drewN | apply Kd.R_drew)); exact HO932.out))) (below_size (by repeat (first | (with_reducible first | exact HB.out | apply below_alloc | apply pw_below_drewN | apply below_drew1) | exact HB.out)))); have n5_ := Aside0.mk (below_step (by repeat (first | (with_reducible first | exact HB.out | apply below_alloc | apply pw_below_drewN | apply below_drew1) | exact HB.out)) hb); clear HO_5; clear HO_11; clear HO929; clear HO932; clear HB; have HO_5 := n0_; have HO_11 := n1_; have HO929 := n2_; have HO932 := n3_; have HO936 := n4_; have HB := n5_; clear n0_ n1_ n2_ n3_ n4_ n5_; clear hb ho52; obtain ⟨Ao53, co53, eo53⟩ := Kd.R_slice HO932.out; subst eo53; obtain ⟨Ao54, co54, eo54⟩ := Kd.R_slice HO936.out; subst eo54) | ((with_reducible refine gate_callee (f := 143) rfl ?_); refine goesL_ (some 101) rfl rfl Try.func143 (by kernel_rfl) rfl #[.int .u64 a0, .slice Ao53 t930.length co53, .slice Ao54 y934.length co54] rfl (by (try simp only [List.map_toArray, List.map_cons, List.map_nil]); first | done | rfl | (simp only [List.length_drop, List.length_take]; rfl)) ?_; (with_reducible refine (poly_Plus.calls k3 a0 _ _ t930 _ _ y934 t937 _ ?side1 ?side2 ?side3 ?side4 A44.out).mono ?_); (case side1 => repeat (first | exact (Kd.R_reads' HO932.out).2.2 | (with_reducible refine Kd.C_alloc ?_ _) | (with_reducible refine Kd.C_drewN ?_ _) | (with_reducible refine Kd.C_drew ?_))); (case side2 => exact (Kd.R_reads' HO932.out).2.1); (case side3 => repeat (first | exact (Kd.R_reads' HO936.out).2.2 | (with_reducible refine Kd.C_alloc ?_ _) | (with_reducible refine Kd.C_drewN ?_ _) | (with_reducible refine Kd.C_drew ?_))); (case side4 => exact (Kd.R_reads' HO936.out).2.1); rintro e w55 ⟨v938, rfl, ho0, hb⟩; refine ⟨_, rfl, ?_⟩; have n0_ := Aside0.mk (Kd.R_elder' (by (with_reducible repeat (first | apply Kd.R_alloc | apply Kd.R_drewN | apply Kd.R_drew)); exact HO_5.out) (Kd.R_base ho0) hb); have n1_ := Aside0.mk (Kd.R_elder' (by (with_reducible repeat (first | apply Kd.R_alloc | apply Kd.R_drewN | apply Kd.R_drew)); exact HO_11.out) (Kd.R_base ho0) hb); have n2_ := Aside0.mk (Kd.R_elder' (by (with_reducible repeat (first | apply Kd.R_alloc | apply Kd.R_drewN | apply Kd.R_drew)); exact HO929.out) (Kd.R_base ho0) hb); have n3_ := Aside0.mk (Kd.R_elder' (by (with_reducible repeat (first | apply Kd.R_alloc | apply Kd.R_drewN | apply Kd.R_drew)); exact HO932.out) (Kd.R_base ho0) hb); have n4_ := Aside0.mk (Kd.R_elder' (by (with_reducible repeat (first | apply Kd.R_alloc | apply Kd.R_drewN | apply Kd.R_drew)); exact HO936.out) (Kd.R_base ho0) hb); have n5_ := Aside0.mk (Kd.R_lower (Kd.R_new' (Kd.R_new' (Kd.R_new' (Kd.R_new' (Kd.R_new' ho0 (Kd.R_lt (by (with_reducible repeat (first | apply Kd.R_alloc | apply Kd.R_drewN | apply Kd.R_drew)); exact HO_5.out))) (Kd.R_lt (by (with_reducible repeat (first | apply Kd.R_alloc | apply Kd.R_drewN | apply Kd.R_drew)); exact HO_11.out))) (Kd.R_lt (by (with_reducible repeat (first | apply Kd.R_alloc | apply Kd.R_drewN | apply Kd.R_drew)); exact HO929.out))) (Kd.R_lt (by (with_reducible repeat (first | apply Kd.R_alloc | apply Kd.R_drewN | apply Kd.R_drew)); exact HO932.out))) (Kd.R_lt (by (with_reducible repeat (first | apply Kd.R_alloc | apply Kd.R_drewN | apply Kd.R_drew)); exact HO936.out))) (below_size (by repeat (first | (with_reducible first | exact HB.out | apply below_alloc | apply pw_below_drewN | apply below_drew1) | exact HB.out)))); have n6_ := Aside0.mk (below_step (by repeat (first | (with_reducible first | exact HB.out | apply below_alloc | apply pw_below_drewN | apply below_drew1) | exact HB.out)) hb); clear HO_5; clear HO_11; clear HO929; clear HO932; clear HO936; clear HB; have HO_5 := n0_; have HO_11 := n1_; have HO929 := n2_; have HO932 := n3_; have HO936 := n4_; have HO939 := n5_; have HB := n6_; clear n0_ n1_ n2_ n3_ n4_ n5_ n6_; (try clear hb); (try clear hb2); (try clear hk); (try clear hi); (try clear ho0)))
               go_roundg k3
               case measure => have := HK1.out; have := HK2.out; have := HK3.out; omega
               case rel => exact ⟨(t937), (wrap64 (x12_3 - 1)), (by first | rfl | (simp; done) | (simp [*]; done)), H', ⟨by have := HK1.out; have := HK2.out; have := HK3.out; omega⟩, ⟨by (with_reducible repeat (first | apply Kd.R_alloc | apply Kd.R_drewN | apply Kd.R_drew)); exact Kd.R_mono HO_5.out (fun _ hk => hk.2)⟩, ⟨by (with_reducible repeat (first | apply Kd.R_alloc | apply Kd.R_drewN | apply Kd.R_drew)); exact Kd.R_mono HO939.out (fun _ hk => hk.1.1.1.1.2)⟩, ⟨by repeat (first | (with_reducible first | exact HB.out | apply below_alloc | apply pw_below_drewN | apply below_drew1) | exact HB.out)⟩⟩
              ·rw [if_neg c43] at H
               exact absurd H (by simp)
             ·rw [if_neg c40] at H
              exact absurd H (by simp)
            ·rw [if_neg c39] at H
             exact absurd H (by simp)
           ·rw [if_neg c38] at H
            have c38b0 : decide (0 ≤ x12_3) = false := decide_eq_false c38
            clear c38
            replace H := Option.bind_eq_some_iff.mp H
            obtain ⟨t940, A560, H⟩ := H
            replace H : (some t940) = some r := H
            have A56 := Aside0.mk A560
            clear A560
            obtain rfl := Option.some.inj H
            obtain ⟨Ao57, co57, eo57⟩ := Kd.R_slice HO_11.out
            subst eo57
            go_wp2_with (first | ((with_reducible refine gate_callee (f := 127) rfl ?_); refine goesL_ (some 103) rfl rfl Try.func127 (by kernel_rfl) rfl #[.slice Ao57 x11_3.length co57] rfl (by (try simp only [List.map_toArray, List.map_cons, List.map_nil]); first | done | rfl | (simp only [List.length_drop, List.length_take]; rfl)) ?_; (with_reducible refine (poly_Short.calls k3 _ _ x11_3 t940 _ ?side1 ?side2 A56.out).mono ?_); (case side1 => repeat (first | exact (Kd.R_reads' HO_11.out).2.2 | (with_reducible refine Kd.C_alloc ?_ _) | (with_reducible refine Kd.C_drewN ?_ _) | (with_reducible refine Kd.C_drew ?_))); (case side2 => exact (Kd.R_reads' HO_11.out).2.1); rintro e w58 ⟨v941, rfl, ho0, hb⟩; refine ⟨_, rfl, ?_⟩; have n0_ := Aside0.mk (Kd.R_elder' (by (with_reducible repeat (first | apply Kd.R_alloc | apply Kd.R_drewN | apply Kd.R_drew)); exact HO_5.out) (Kd.R_base ho0) hb); have n1_ := Aside0.mk (Kd.R_elder' (by (with_reducible repeat (first | apply Kd.R_alloc | apply Kd.R_drewN | apply Kd.R_drew)); exact HO_11.out) (Kd.R_base ho0) hb); have n2_ := Aside0.mk (Kd.R_lower (Kd.R_new' (Kd.R_new' ho0 (Kd.R_lt (by (with_reducible repeat (first | apply Kd.R_alloc | apply Kd.R_drewN | apply Kd.R_drew)); exact HO_5.out))) (Kd.R_lt (by (with_reducible repeat (first | apply Kd.R_alloc | apply Kd.R_drewN | apply Kd.R_drew)); exact HO_11.out))) (below_size (by repeat (first | (with_reducible first | exact HB.out | apply below_alloc | apply pw_below_drewN | apply below_drew1) | exact HB.out)))); have n3_ := Aside0.mk (below_step (by repeat (first | (with_reducible first | exact HB.out | apply below_alloc | apply pw_below_drewN | apply below_drew1) | exact HB.out)) hb); clear HO_5; clear HO_11; clear HB; have HO_5 := n0_; have HO_11 := n1_; have HO942 := n2_; have HB := n3_; clear n0_ n1_ n2_ n3_; (try clear hb); (try clear hb2); (try clear hk); (try clear hi); (try clear ho0)))
            go_ret
            exact ⟨_, by first | rfl | (simp [errW_none, errW_some] <;> rfl) | (simp [*, errW_none, errW_some] <;> rfl), by (with_reducible repeat (first | apply Kd.R_alloc | apply Kd.R_drewN | apply Kd.R_drew)); exact Kd.R_mono HO942.out (fun _ hk => trivial), by repeat (first | (with_reducible first | exact HB.out | apply below_alloc | apply pw_below_drewN | apply below_drew1) | exact HB.out)⟩
  ·rw [if_neg c4] at H
   exact absurd H (by simp)
 ·rw [if_neg c3] at H
  exact absurd H (by simp)

end Go.Proofs.Ytjjnfobeeflnhaa.J

/- What Go functions of the program compute, as plain Lean functions, and that the machine comes to just these answers (written by a program for this seat). -/
namespace Go.Proofs.Ytjjnfobeeflnhaa.J
open Go.RowKit Go.Proofs.YtjjnfobeeflnhaaW.PrintWords Go.Proofs.YtjjnfobeeflnhaaW.PrintLast Go.Proofs.YtjjnfobeeflnhaaW.PrintMore
attribute [local go_sem] max2_int min2_int max_two min_two max_three min_three max_four min_four   -- for this text's walks alone
set_option linter.unusedVariables false
set_option linter.unusedSimpArgs false

/-! ### juntoref04_Line: function 84 -/
def juntoref04_Line.f (k : Nat) (a0 : Int) (a1 : Int) (l2 : List (S86)) : Option (List Int × Bool) := (juntoref02_Through.f k a0 l2).bind fun t959 => (some (t959, decide ((t959.length : Int) ≤ (wrap64 (a1 + 1)))))
theorem juntoref04_Line.mono : ∀ a0 a1 a2 k, LeO (juntoref04_Line.f k a0 a1 a2) (juntoref04_Line.f (k + 1) a0 a1 a2) := by
 intro a0 a1 a2 k
 unfold juntoref04_Line.f
 repeat' first
   | (with_reducible exact juntoref02_Through.mono _ _ _)
   | (with_reducible exact LeO.refl _)
   | (with_reducible exact LeO.none _)
   | (with_reducible refine LeO.ite ?_ ?_)
   | (with_reducible refine LeO.bind ?_ (fun _ => ?_))
   | exact juntoref02_Through.mono _ _ _
   | exact LeO.none _
   | refine LeO.ite ?_ ?_
   | refine LeO.bind ?_ (fun _ => ?_)
set_option maxHeartbeats 8000000 in
set_option maxRecDepth 100000 in
theorem juntoref04_Line.calls (k : Nat) (a0 : Int) (a1 : Int) (A2 : Option Addr) (c2 : Nat) (l2 : List (S86)) (r1 : List Int) (r2 : Bool) (w : World) (hr2 : Kd.C k86 w A2 l2.length l2) (hc2 : l2.length ≤ c2) (h : juntoref04_Line.f k a0 a1 l2 = some (r1, r2)) :
  Calls Try.prog 84 #[.int .u64 a0, .int .i64 a1, .slice A2 l2.length c2] w fun e w' => ∃ v0_ : Value, e = .returned (.tuple #[v0_, .bool r2]) ∧ Kd.R (Kd.int .u64) 22 w' w.heap.size (fun _ => True) v0_ r1 ∧ Below w.heap.size w w' := by
 have HR2 := Aside0.mk hr2
 have HC2 := Aside0.mk hc2
 clear hr2 hc2
 have HB := Aside0.mk (Below.refl w.heap.size w)
 have H : ((juntoref02_Through.f k a0 l2).bind fun t959 => (some (t959, decide ((t959.length : Int) ≤ (wrap64 (a1 + 1)))))) = some (r1, r2) := h
 clear h
 replace H := Option.bind_eq_some_iff.mp H
 obtain ⟨t959, A40, H⟩ := H
 replace H : (some (t959, decide ((t959.length : Int) ≤ (wrap64 (a1 + 1))))) = some (r1, r2) := H
 have A4 := Aside0.mk A40
 clear A40
 simp only [Option.some.injEq, Prod.mk.injEq] at H
 obtain ⟨rfl, rfl⟩ := H
 go_enter Try.func84, Try.ntmps84
 go_wp2_with (first | ((with_reducible refine gate_callee (f := 77) rfl ?_); refine goesL_ (some 11) rfl rfl Try.func77 (by kernel_rfl) rfl #[.int .u64 a0, .slice A2 l2.length c2] rfl (by (try simp only [List.map_toArray, List.map_cons, List.map_nil]); first | done | rfl | (simp only [List.length_drop, List.length_take]; rfl)) ?_; (with_reducible refine (juntoref02_Through.calls k a0 _ _ l2 t959 _ ?side1 ?side2 A4.out).mono ?_); (case side1 => repeat (first | exact HR2.out | (with_reducible refine Kd.C_alloc ?_ _) | (with_reducible refine Kd.C_drewN ?_ _) | (with_reducible refine Kd.C_drew ?_))); (case side2 => exact HC2.out); rintro e w5 ⟨v960, rfl, ho0, hb⟩; refine ⟨_, rfl, ?_⟩; have n0_ := Aside0.mk (Kd.R_lower ho0 (below_size (by repeat (first | (with_reducible first | exact HB.out | apply below_alloc | apply pw_below_drewN | apply below_drew1) | exact HB.out)))); have n1_ := Aside0.mk (below_step (by repeat (first | (with_reducible first | exact HB.out | apply below_alloc | apply pw_below_drewN | apply below_drew1) | exact HB.out)) hb); clear HB; have HO961 := n0_; have HB := n1_; clear n0_ n1_; (try clear hb); (try clear hb2); (try clear hk); (try clear hi); (try clear ho0); obtain ⟨Ao6, co6, eo6⟩ := Kd.R_slice HO961.out; subst eo6))
 go_ret2
 exact ⟨_, by first | rfl | (simp [errW_none, errW_some] <;> rfl) | (simp [*, errW_none, errW_some] <;> rfl), by (with_reducible repeat (first | apply Kd.R_alloc | apply Kd.R_drewN | apply Kd.R_drew)); exact HO961.out, by repeat (first | (with_reducible first | exact HB.out | apply below_alloc | apply pw_below_drewN | apply below_drew1) | exact HB.out)⟩

end Go.Proofs.Ytjjnfobeeflnhaa.J

/- What Go functions of the program compute, as plain Lean functions, and that the machine comes to just these answers (written by a program for this seat). -/
namespace Go.Proofs.Ytjjnfobeeflnhaa.J
open Go.RowKit Go.Proofs.YtjjnfobeeflnhaaW.PrintWords Go.Proofs.YtjjnfobeeflnhaaW.PrintLast Go.Proofs.YtjjnfobeeflnhaaW.PrintMore
attribute [local go_sem] max2_int min2_int max_two min_two max_three min_three max_four min_four   -- for this text's walks alone
set_option linter.unusedVariables false
set_option linter.unusedSimpArgs false

/-! ### slices_Values_uint64_uint64: function 168 -/
section
open Go.Shelf
attribute [local go_sem] Oper.semAt_some
set_option maxRecDepth 100000 in
set_option maxHeartbeats 2000000 in
/-- The closure that Values hands back: every element in its order. -/
theorem slices_Values_uint64_uint64_in (F : Fence) (n : Nat) (h7 : F.fn 176) (hro : F.round = none) (hn : 1 ≤ n) (l Bs n₀ cap : Nat) (A : Option Addr) (zs : List Int) (hA : ∀ ad, A = some ad → 0 < zs.length → ad.block < n₀) (J Jx : List Int → World → Prop)
  (hY : ∀ pre x W, J pre W → pre.length < zs.length → YieldAt F (n - 1) Try.prog l #[.int .u64 x] W fun e W' =>
   (e = .returned (.bool true) ∧ J (pre ++ [x]) W' ∧ Below n₀ W W') ∨ (e = .returned (.bool false) ∧ Jx (pre ++ [x]) W'))
  (W : World) (hBs : W.cell? ⟨Bs, 0, none⟩ = some (.slice A zs.length cap)) (hc : Kd.C (Kd.int .u64) W A zs.length zs) (h0 : J [] W) :
  CallsIn F n Try.prog 176 #[.func (.yield l) #[] #[], .pointer (some ⟨Bs, 0, none⟩)] W fun e W' => (∃ v, e = .returned v) ∧
   ((∃ ys, ys = zs ∧ J ys W') ∨ (∃ pre, (∃ k, k ≤ zs.length ∧ pre = zs.take k) ∧ Jx pre W')) := by
 refine callsIn_of_wp Try.func176 rfl h7 ?_ hro
 simp only [Try.ntmps176, List.size_toArray, List.length_cons, List.length_nil, Nat.reduceAdd, Nat.reduceSub, Array.replicate_succ, Array.replicate_zero, List.push_toArray, List.append_toArray, List.nil_append, List.cons_append]
 have HC := Aside0.mk hc
 clear hc
 have hlen : zs.length ≤ 9223372036854775807 := HC.out.2.1
 generalize hL : zs.length = len at *
 have HL := Aside0.mk hL
 clear hL
 gi_wp2
 gi_loopw [7] (fun i wr => ∃ k : Nat, k ≤ len ∧ i = .int .i64 k ∧ J (zs.take k) wr ∧ Below n₀ W wr)
  (fun i _ => len - (intOf i).toNat)
 case atStart => exact ⟨0, Nat.zero_le _, rfl, h0, Below.refl _ _⟩
 case round =>
  obtain ⟨k, hk, rfl, hJs, hnx⟩ := hrel
  by_cases hlt : k < len
  ·obtain ⟨ad, hcx⟩ : ∃ ad, A = some ad ∧ wr.cell? (ad.add k) = some (.int .u64 (zs[k]?.getD 0)) := by
    obtain ⟨ad, e, h⟩ := Kd.at_int HC.out (k : Int) (by omega) (by omega)
    refine ⟨ad, e, ?_⟩
    have hbl := hA ad e (by omega)
    simp only [Int.toNat_natCast, rd, List.getD_eq_getElem?_getD] at h
    refine (hnx.cell (p := ad.add k) ?_).trans h
    rw [show (ad.add k).block = ad.block by unfold Addr.add; split <;> rfl]
    exact hbl
   obtain ⟨rfl, hcx⟩ := hcx
   have hpl : (zs.take k).length = k := by rw [List.length_take, HL.out]; omega
   have hsucc : zs.take (k + 1) = zs.take k ++ [zs[k]?.getD 0] := by
    have hk' : k < zs.length := by rw [HL.out]; exact hlt
    rw [List.take_succ_eq_append_getElem hk', List.getElem?_eq_getElem hk']; rfl
   obtain ⟨fn, tmps, assign, body, hy, hR⟩ := hY _ (zs[k]?.getD 0) wr hJs (by rw [hpl]; exact hlt)
   have HS := Aside0.mk hsucc
   clear hsucc hpl
   gi_wp2
   refine hR.mono ?_
   rintro e W3 (⟨rfl, hJ3, hk3⟩ | ⟨rfl, hJx3⟩)
   ·gi_wp2
    go_roundw
    case rel => exact ⟨k + 1, by omega, by simp, by rw [HS.out]; exact hJ3, hnx.trans hk3⟩
    case measure => simp [intOf]; omega
   ·gi_wp2
    refine bodyPost_ret (results_none rfl _ _ _) rfl ?_
    exact ⟨⟨_, rfl⟩, .inr ⟨_, ⟨k + 1, by omega, HS.out.symm⟩, hJx3⟩⟩
  ·obtain rfl : k = len := by omega
   have hall : zs.take k = zs := by rw [List.take_of_length_le (by rw [HL.out]; exact Nat.le_refl _)]
   rw [hall] at hJs
   clear hall
   gi_wp2
   go_end0
   exact ⟨⟨_, rfl⟩, .inl ⟨_, rfl, hJs⟩⟩
set_option maxHeartbeats 1000000 in
theorem slices_Values_uint64_uint64_mk (a : Option Addr) (len cap : Nat) (w : World) :
  Calls Try.prog 168 #[.slice a len cap] w fun e w' => e = .returned (.func (.func 176) #[] #[.pointer (some ⟨w.heap.size, 0, none⟩)]) ∧ w' = w.alloc (.cells #[.slice a len cap] 31) := by
 go_enter Try.func168, Try.ntmps168
 go_wp2
 go_ret
 exact ⟨rfl, rfl⟩
theorem slices_Values_uint64_uint64_stops (F : Fence) (n : Nat) (h7 : F.fn 176) (hro : F.round = none) (hn : 1 ≤ n) (Bs n₀ cap : Nat) (A : Option Addr) (zs : List Int) (w : World) (hBs : Bs < w.heap.size) (hn₀ : n₀ ≤ w.heap.size)
  (hc : w.cell? ⟨Bs, 0, none⟩ = some (.slice A zs.length cap)) (hC : Kd.C (Kd.int .u64) w A zs.length zs) (hA : ∀ ad, A = some ad → 0 < zs.length → ad.block < n₀) :
  SeqStopsK F n Try.prog 176 #[.pointer (some ⟨Bs, 0, none⟩)] (fun x : Int => #[Value.int .u64 x]) (Below n₀) (fun ys => ys = zs)
   (fun pre => ∃ k, k ≤ zs.length ∧ pre = zs.take k) zs.length w := fun l J Jx W hW _ _ hY h0 => by
 have hc' := (hW.cell (p := ⟨Bs, 0, none⟩) hBs).trans hc
 exact slices_Values_uint64_uint64_in F n h7 hro hn l Bs n₀ cap A zs hA J Jx hY W hc' (Kd.C_below hC hW) h0
end

end Go.Proofs.Ytjjnfobeeflnhaa.J

/- What comes in laid out as a type says is a value of a kind, within the bounds that its weights leave: once for every type. -/
namespace Go.Proofs.Ytjjnfobeeflnhaa.Op
open Go.RowKit Go.Proofs.YtjjnfobeeflnhaaW.PrintWords Go.Proofs.YtjjnfobeeflnhaaW.PrintLast Go.Proofs.YtjjnfobeeflnhaaW.PrintMore

def Opens {α : Type} (P : Program) (d : Kd α) (t : TypeId) (wf : α → Prop) : Prop :=
  ∀ (H : Type) (enc : TypeId × Value → H) (w : World) (base fuel : Nat) (spare : Nat → Bool) (held : Bool) (cs : List Value) (x : DataW H × List MemPlace), cs.length = d.sz →
    DataW.trod enc P w base spare held fuel t cs = some x → (x.1.weights P t).all (· ≤ reachBytes) = true → ∃ a, d.K w a cs ∧ wf a

theorem op_int {P : Program} {t : TypeId} {k : IntKind} (ht : P.underlying t = some (.int k)) : Opens P (Kd.int k) t (fun n => (Lit.int k n).wf = true) := by
  intro H enc w base fuel spare held cs x _ h _
  obtain ⟨n, rfl, _, hw⟩ := DataW.trod_int ht h
  exact ⟨n, rfl, hw⟩

theorem op_bool {P : Program} {t : TypeId} (ht : P.underlying t = some .bool) : Opens P Kd.bool t (fun _ => True) := by
  intro H enc w base fuel spare held cs x _ h _
  obtain ⟨n, rfl, _⟩ := DataW.trod_bool ht h
  exact ⟨n, rfl, trivial⟩

theorem all_weights {H : Type} {P : Program} {e : TypeId} {p : Nat → Bool} : ∀ (ds : List (DataW H)), (DataW.weightsAll P e ds).all p = true → ∀ d ∈ ds, (d.weights P e).all p = true
  | [], _, d, hd => by simp at hd
  | a :: r, h, d, hd => by
    unfold DataW.weightsAll at h
    rw [List.all_append, Bool.and_eq_true] at h
    rcases List.mem_cons.1 hd with rfl | hd
    · exact h.1
    · exact all_weights r h.2 d hd

theorem add_add_ (a : Addr) (i j : Nat) : a.add (i + j) = (a.add i).add j := by
  cases a
  unfold Addr.add
  rcases Nat.eq_zero_or_pos i with hi | hi <;> rcases Nat.eq_zero_or_pos j with hj | hj
  · simp [hi, hj]
  · simp [hi, show j ≠ 0 by omega]
  · simp [hj, show i ≠ 0 by omega]
  · simp [show i ≠ 0 by omega, show j ≠ 0 by omega, Nat.add_assoc]

theorem pick {β : Type} {p : Nat → β → Prop} : ∀ n, (∀ i : Nat, i < n → ∃ q, p i q) → ∃ l : List β, l.length = n ∧ ∀ (i : Nat) (q : β), l[i]? = some q → p i q
  | 0, _ => ⟨[], rfl, fun i q h => by simp at h⟩
  | n + 1, h => by
    obtain ⟨l, hl, hp⟩ := pick n (fun i hi => h i (by omega))
    obtain ⟨q, hq⟩ := h n (by omega)
    refine ⟨l ++ [q], by simp [hl], fun i r hr => ?_⟩
    rcases Nat.lt_or_ge i l.length with hi | hi
    · rw [List.getElem?_append_left hi] at hr
      exact hp i r hr
    · rw [List.getElem?_append_right hi] at hr
      have h0 : i - l.length = 0 := by
        rcases Nat.eq_zero_or_pos (i - l.length) with h' | h'
        · exact h'
        · rw [List.getElem?_eq_none (by simp; omega)] at hr; cases hr
      rw [h0] at hr
      obtain rfl : q = r := by simpa using hr
      have : i = n := by omega
      rw [this]; exact hq

theorem weights_at {H : Type} {P : Program} {p : Nat → Bool} : ∀ (ts : List TypeId) (ds : List (DataW H)) (j : Nat) {t : TypeId} {d : DataW H}, (DataW.weightsEach P ts ds).all p = true → ts[j]? = some t → ds[j]? = some d → (d.weights P t).all p = true
  | [], _, _, _, _, _, ht, _ => by simp at ht
  | _ :: _, [], _, _, _, _, _, hd => by simp at hd
  | t :: ts, d :: ds, j, t', d', h, ht, hd => by
    unfold DataW.weightsEach at h
    rw [List.all_append, Bool.and_eq_true] at h
    match j, ht, hd with
    | 0, ht, hd =>
      obtain rfl : t = t' := by simpa using ht
      obtain rfl : d = d' := by simpa using hd
      exact h.1
    | j + 1, ht, hd => exact weights_at ts ds j h.2 (by simpa using ht) (by simpa using hd)

theorem op_slice {α : Type} {P : Program} {d : Kd α} {t e : TypeId} {B : Nat} {wf : α → Prop} (ht : P.underlying t = some (.slice e)) (hB : P.bytesOf e = B) (hsz : P.cellsOf e = d.sz) (he : Opens P d e wf) :
    Opens P (Kd.slice e d) t (fun l => l.length ≤ maxLen ∧ l.length * B ≤ 140737488351232 ∧ ∀ a ∈ l, wf a) := by
  intro H enc w base fuel spare held cs x _ h hw
  rcases Go.Deep.open_slice ht h with ⟨rfl, _⟩ | ⟨a, len, cap, m, n, D, Pl, rfl, hb, hl, hm, hmm, rfl, hx⟩
  · exact ⟨[], ⟨none, 0, rfl, Nat.le_refl _, rfl, Nat.zero_le _, fun h0 => absurd h0 (by simp)⟩, by simp, by simp, fun a ha => by simp at ha⟩
  · have hlm : len ≤ m := by rw [hmm]; split <;> omega
    simp only [DataW.weights, ht, List.all_cons, List.all_append, Bool.and_eq_true, List.length_map, List.length_range] at hw
    obtain ⟨hw0, hw1, _⟩ := hw
    have each : ∀ i : Nat, i < len → ∃ q : α, wf q ∧ ∃ c : List Value, c.length = d.sz ∧ d.K w q c ∧ ∀ j u, c[j]? = some u → w.cell? (a.add (i * d.sz + j)) = some u := by
      intro i hi
      obtain ⟨cs', h1, h2⟩ := hx i (by omega)
      rw [hsz] at h1
      obtain ⟨_, hlen, hcell⟩ := World.cells?_some h1
      obtain ⟨y, hK, hwf⟩ := he H enc w base n spare held cs' _ hlen h2 (all_weights _ hw1 _ (List.mem_map.2 ⟨i, List.mem_range.2 hi, rfl⟩))
      refine ⟨y, hwf, cs', hlen, hK, fun j u hu => ?_⟩
      have hj : j < d.sz := by
        rw [← hlen]
        rcases Nat.lt_or_ge j cs'.length with h' | h'
        · exact h'
        · rw [List.getElem?_eq_none h'] at hu; cases hu
      have := hcell j hj
      rw [hu] at this
      rw [show a.add (i * d.sz + j) = (a.add (i * d.sz)).add j from add_add_ _ _ _]
      exact this
    obtain ⟨l, rfl, hl2⟩ := pick len each
    refine ⟨l, ⟨some a, cap, rfl, hl, rfl, Nat.le_trans hl hm, fun _ => ⟨a, rfl, fun j p hj => (hl2 j p hj).2⟩⟩, Nat.le_trans hl hm, ?_, ?_⟩
    · have hw2 := of_decide_eq_true hw0
      rw [hB] at hw2
      exact Nat.le_trans (Nat.mul_le_mul_right _ (by omega)) hw2
    · intro y hy
      obtain ⟨j, hj⟩ := List.mem_iff_getElem?.1 hy
      exact (hl2 j y hj).1

/-- Fields in line, from the place o on. -/
def OpL {β : Type} (P : Program) (d : Kd β) (fs : List Field) (o : Nat) (wf : β → Prop) : Prop :=
  ∀ (H : Type) (enc : TypeId × Value → H) (w : World) (base n : Nat) (spare : Nat → Bool) (held : Bool) (cs : List Value) (xs : List (DataW H × List MemPlace)), cs.length = d.sz → xs.length = fs.length →
    (∀ (i : Nat) (f : Field), fs[i]? = some f → DataW.trod enc P w base spare held n f.type ((cs.drop (f.offset - o)).take (P.cellsOf f.type)) = xs[i]?) →
    (DataW.weightsEach P (fs.map (·.type)) (xs.map (·.1))).all (· ≤ reachBytes) = true → ∃ a, d.K w a cs ∧ wf a

theorem opL_one {β : Type} {P : Program} {d : Kd β} {f : Field} {o : Nat} {wf : β → Prop} (ho : f.offset = o) (hc : P.cellsOf f.type = d.sz) (h : Opens P d f.type wf) : OpL P d [f] o wf := by
  intro H enc w base n spare held cs xs hl hx hf hw
  match xs, hx with
  | [y], _ =>
    have h0 := hf 0 f rfl
    rw [ho, Nat.sub_self, List.drop_zero, hc, ← hl, List.take_length] at h0
    simp only [List.map_cons, List.map_nil, DataW.weightsEach, List.append_nil] at hw
    exact h H enc w base n spare held cs y hl h0 hw

theorem opL_cons {α β : Type} {P : Program} {d1 : Kd α} {d : Kd β} {f : Field} {fs : List Field} {o : Nat} {wf1 : α → Prop} {wf : β → Prop} (ho : f.offset = o) (hc : P.cellsOf f.type = d1.sz) (h1 : Opens P d1 f.type wf1)
    (hfs0 : (fs.all fun g => decide (o + d1.sz ≤ g.offset)) = true) (h : OpL P d fs (o + d1.sz) wf) : OpL P (Kd.pair d1 d) (f :: fs) o (fun x => wf1 x.1 ∧ wf x.2) := by
  have hfs : ∀ g ∈ fs, o + d1.sz ≤ g.offset := fun g hg => of_decide_eq_true (List.all_eq_true.1 hfs0 g hg)
  intro H enc w base n spare held cs xs hl hx hf hw
  have hl' : cs.length = d1.sz + d.sz := hl
  match xs, hx with
  | y :: ys, hx =>
    have h0 := hf 0 f rfl
    rw [ho, Nat.sub_self, List.drop_zero, hc] at h0
    simp only [List.map_cons, DataW.weightsEach, List.all_append, Bool.and_eq_true] at hw
    obtain ⟨a, ka, wa⟩ := h1 H enc w base n spare held (cs.take d1.sz) y (by rw [List.length_take]; omega) h0 hw.1
    obtain ⟨b, kb, wb⟩ := h H enc w base n spare held (cs.drop d1.sz) ys (by rw [List.length_drop]; omega) (by simpa using hx) (fun i g hg => by
      have := hf (i + 1) g (by simpa using hg)
      rw [List.drop_drop]
      have hg2 := hfs g (List.mem_of_getElem? hg)
      rw [show d1.sz + (g.offset - (o + d1.sz)) = g.offset - o by omega, this]
      simp) hw.2
    exact ⟨(a, b), ⟨cs.take d1.sz, cs.drop d1.sz, (List.take_append_drop _ _).symm, ka, kb⟩, wa, wb⟩

theorem op_struct {α β : Type} {P : Program} {d : Kd α} {t : TypeId} {fs : Array Field} {wf : α → Prop} {p : β → α} (g : α → β) (hg : ∀ a, p (g a) = a) (ht : P.underlying t = some (.struct fs)) (h : OpL P d fs.toList 0 wf) :
    Opens P (Kd.iso d p) t (fun b => wf (p b)) := by
  intro H enc w base fuel spare held cs x hl hx hw
  obtain ⟨xs, n, rfl, rfl, _, hxl, hf⟩ := DataW.trod_struct ht hx
  simp only [DataW.weights, ht] at hw
  obtain ⟨a, ka, wa⟩ := h H enc w base n spare held cs xs hl (by simpa using hxl) (fun i f hi => by
    rw [Nat.sub_zero]
    exact hf i f (by simpa using hi)) hw
  refine ⟨g a, ?_, ?_⟩
  · show d.K w (p (g a)) cs
    rw [hg]; exact ka
  · show wf (p (g a))
    rw [hg]; exact wa

theorem op_agg {α : Type} {P : Program} {d : Kd α} {t : TypeId} {fs : Array Field} {wf : α → Prop} (ht : P.underlying t = some (.struct fs)) (h : OpL P d fs.toList 0 wf) : Opens P d t wf :=
  op_struct (d := d) (p := fun a => a) (fun a => a) (fun _ => rfl) ht h

/-- An array of two. -/
theorem op_array2 {α : Type} {P : Program} {d : Kd α} {t e : TypeId} {wf : α → Prop} (ht : P.underlying t = some (.array 2 e)) (hc : P.cellsOf e = d.sz) (h : Opens P d e wf) : Opens P (Kd.pair d d) t (fun x => wf x.1 ∧ wf x.2) := by
  intro H enc w base fuel spare held cs x hl hx hw
  obtain ⟨xs, m, rfl, rfl, _, hxl, hf⟩ := DataW.trod_array ht hx
  simp only [DataW.weights, ht] at hw
  have hl' : cs.length = d.sz + d.sz := hl
  match xs, hxl with
  | [y, z], _ =>
    have h0 := hf 0 (by omega)
    have h1 := hf 1 (by omega)
    rw [Nat.zero_mul, List.drop_zero, hc] at h0
    rw [Nat.one_mul, hc, List.take_of_length_le (by rw [List.length_drop]; omega)] at h1
    simp only [List.map_cons, List.map_nil, DataW.weightsAll, List.all_append, Bool.and_eq_true] at hw
    obtain ⟨a, ka, wa⟩ := h H enc w base m spare held (cs.take d.sz) y (by rw [List.length_take]; omega) h0 hw.1
    obtain ⟨b, kb, wb⟩ := h H enc w base m spare held (cs.drop d.sz) z (by rw [List.length_drop]; omega) h1 hw.2.1
    exact ⟨(a, b), ⟨cs.take d.sz, cs.drop d.sz, (List.take_append_drop _ _).symm, ka, kb⟩, wa, wb⟩

theorem okWide_arr {P : Program} {W : World} {r : Reach} {b0 : Nat} {t e : TypeId} {n : Nat} {v : Value} (ht : P.underlying t = some (.array n e)) (h : Value.okWide P W r b0 t v) : ∃ cs, v = .agg cs ∧ cs.size = P.cellsOf t := by
  simp only [Value.okWide, ht] at h
  obtain ⟨cs, h1, h2, _⟩ := h
  exact ⟨cs, h1, h2⟩

theorem okWide_agg {P : Program} {W : World} {r : Reach} {b0 : Nat} {t : TypeId} {fs : Array Field} {v : Value} (ht : P.underlying t = some (.struct fs)) (h : Value.okWide P W r b0 t v) : ∃ cs, v = .agg cs ∧ cs.size = P.cellsOf t := by
  simp only [Value.okWide, ht] at h
  obtain ⟨cs, h1, h2, _⟩ := h
  exact ⟨cs, h1, h2⟩

/-- One argument. -/
theorem arg {α H : Type} {enc : TypeId × Value → H} {P : Program} {d : Kd α} {t : TypeId} {wf : α → Prop} (h : Opens P d t wf) {w : World} {base : Nat} {spare : Nat → Bool} {held : Bool} {v : Value} {x : DataW H} {ps : List MemPlace}
    (hl : v.cells.toList.length = d.sz) (hv : DataW.Trod enc P w base spare held t v x ps) {ts : List TypeId} {ds : List (DataW H)} {j : Nat} (hsz : (DataW.weightsEach P ts ds).all (· ≤ reachBytes) = true) (ht : ts[j]? = some t) (hd : ds[j]? = some x) :
    ∃ a, d.K w a v.cells.toList ∧ wf a := by
  obtain ⟨fuel, hf⟩ := hv
  exact h H enc w base fuel spare held _ _ hl hf (weights_at ts ds j hsz ht hd)

end Go.Proofs.Ytjjnfobeeflnhaa.Op

/- Three closed facts over the whole program, with its header's words as numbers. -/
namespace Go.Proofs.Ytjjnfobeeflnhaa.Facts
theorem toList_of (s : String) (l : List Char) (h : s = String.ofList l) : s.toList = l := by rw [h, String.toList_ofList]
def glue : List (List Char) → List Char
  | [] => []
  | [w] => w
  | w :: v :: r => w ++ Char.ofNat 32 :: glue (v :: r)
theorem signs_space (r : List Char) : wordsSigns (Char.ofNat 32 :: r) = [] :: wordsSigns r := rfl
theorem signs_cons (c : Char) (r : List Char) (h : c ≠ Char.ofNat 32) (w : List Char) (ws : List (List Char)) (e : wordsSigns r = w :: ws) : wordsSigns (c :: r) = (c :: w) :: ws := by
  rw [wordsSigns]
  · rw [e]
  · exact h
theorem signs_one : ∀ (w : List Char), (∀ c ∈ w, c ≠ Char.ofNat 32) → wordsSigns w = [w]
  | [], _ => rfl
  | c :: w, h => signs_cons c w (h c (List.mem_cons_self ..)) _ _ (signs_one w (fun d hd => h d (List.mem_cons_of_mem _ hd)))
theorem signs_more (r : List Char) : ∀ (w : List Char), (∀ c ∈ w, c ≠ Char.ofNat 32) → wordsSigns (w ++ Char.ofNat 32 :: r) = w :: wordsSigns r
  | [], _ => signs_space r
  | c :: w, h => signs_cons c _ (h c (List.mem_cons_self ..)) _ _ (signs_more r w (fun d hd => h d (List.mem_cons_of_mem _ hd)))
theorem signs_glue : ∀ (ws : List (List Char)), ws ≠ [] → (∀ w ∈ ws, ∀ c ∈ w, c ≠ Char.ofNat 32) → wordsSigns (glue ws) = ws
  | [], h, _ => absurd rfl h
  | [w], _, h => signs_one w (h w (List.mem_cons_self ..))
  | w :: v :: r, _, h => by
    rw [glue, signs_more _ w (h w (List.mem_cons_self ..)), signs_glue (v :: r) (by simp) (fun u hu => h u (List.mem_cons_of_mem _ hu))]
def W : List (List Char) := (List.map (List.map Char.ofNat) [[104, 97, 114, 110, 101, 115, 115],
  [56, 98, 98, 99, 100, 53, 56, 100, 55, 50, 48, 97, 53, 56, 100, 57, 52, 98, 55, 57, 101, 52, 50, 101, 52, 51, 102, 99, 99, 49, 53, 53, 57, 54, 97, 50, 97, 48, 101, 99, 97, 98, 49, 48, 54, 55, 52, 48, 102, 55, 97, 48, 53, 52, 57, 55, 52, 100, 97, 52, 102, 54, 100, 56],
  [99, 117, 116],
  [97, 116],
  [106, 117, 110, 116, 111, 47, 106, 117, 110, 116, 111, 108, 97, 119, 48, 55, 46, 84, 119, 105, 99, 101, 67, 104, 101, 99, 107, 115],
  [106, 117, 110, 116, 111, 47, 106, 117, 110, 116, 111, 108, 97, 119, 48, 55, 46, 84, 119, 105, 99, 101, 77, 97, 107, 101, 115],
  [106, 117, 110, 116, 111, 47, 106, 117, 110, 116, 111, 108, 97, 119, 48, 55, 46, 84, 119, 105, 99, 101, 86, 97, 108, 117, 101, 115],
  [106, 117, 110, 116, 111, 47, 106, 117, 110, 116, 111, 108, 97, 119, 48, 55, 46, 84, 119, 105, 99, 101, 80, 114, 111, 100, 117, 99, 116],
  [106, 117, 110, 116, 111, 47, 106, 117, 110, 116, 111, 108, 97, 119, 48, 55, 46, 84, 119, 105, 99, 101, 74, 111, 105, 110, 115],
  [106, 117, 110, 116, 111, 47, 106, 117, 110, 116, 111, 108, 97, 119, 48, 55, 46, 84, 119, 105, 99, 101, 79, 110, 101],
  [106, 117, 110, 116, 111, 47, 106, 117, 110, 116, 111, 108, 97, 119, 48, 55, 46, 84, 119, 105, 99, 101, 77, 111, 118, 101, 115],
  [106, 117, 110, 116, 111, 47, 106, 117, 110, 116, 111, 108, 97, 119, 48, 52, 46, 83, 104, 97, 114, 101, 83, 101, 116, 117, 112, 115],
  [106, 117, 110, 116, 111, 47, 106, 117, 110, 116, 111, 108, 97, 119, 48, 52, 46, 83, 104, 97, 114, 101, 77, 97, 107, 101, 115],
  [106, 117, 110, 116, 111, 47, 106, 117, 110, 116, 111, 108, 97, 119, 48, 52, 46, 83, 104, 97, 114, 101, 86, 97, 108, 117, 101, 115],
  [106, 117, 110, 116, 111, 47, 106, 117, 110, 116, 111, 108, 97, 119, 48, 52, 46, 83, 104, 97, 114, 101, 77, 111, 118, 101, 115],
  [106, 117, 110, 116, 111, 47, 106, 117, 110, 116, 111, 108, 97, 119, 48, 52, 46, 83, 104, 97, 114, 101, 78, 111, 116, 104, 105, 110, 103],
  [106, 117, 110, 116, 111, 47, 106, 117, 110, 116, 111, 108, 97, 119, 48, 52, 46, 83, 104, 97, 114, 101, 79, 110, 108, 121],
  [106, 117, 110, 116, 111, 47, 106, 117, 110, 116, 111, 108, 97, 119, 48, 52, 46, 83, 104, 97, 114, 101, 84, 104, 101, 114, 101],
  [106, 117, 110, 116, 111, 47, 106, 117, 110, 116, 111, 108, 97, 119, 48, 52, 46, 83, 104, 97, 114, 101, 83, 117, 109, 115],
  [106, 117, 110, 116, 111, 47, 106, 117, 110, 116, 111, 108, 97, 119, 48, 52, 46, 83, 104, 97, 114, 101, 70, 105, 116, 115],
  [106, 117, 110, 116, 111, 47, 106, 117, 110, 116, 111, 108, 97, 119, 48, 55, 46, 84, 119, 105, 99, 101, 67, 117, 116, 115],
  [106, 117, 110, 116, 111, 47, 106, 117, 110, 116, 111, 108, 97, 119, 48, 55, 46, 84, 119, 105, 99, 101, 77, 111, 118, 101, 100],
  [106, 117, 110, 116, 111, 47, 106, 117, 110, 116, 111, 108, 97, 119, 48, 50, 46, 80, 111, 108, 121, 84, 104, 114, 111, 117, 103, 104],
  [106, 117, 110, 116, 111, 47, 106, 117, 110, 116, 111, 108, 97, 119, 48, 50, 46, 80, 111, 108, 121, 87, 101, 105, 103, 104, 116, 115],
  [106, 117, 110, 116, 111, 47, 106, 117, 110, 116, 111, 108, 97, 119, 48, 50, 46, 80, 111, 108, 121, 65, 119, 97, 121],
  [106, 117, 110, 116, 111, 47, 106, 117, 110, 116, 111, 108, 97, 119, 48, 50, 46, 80, 111, 108, 121, 83, 108, 111, 112, 101, 115],
  [106, 117, 110, 116, 111, 47, 106, 117, 110, 116, 111, 108, 97, 119, 48, 50, 46, 80, 111, 108, 121, 80, 114, 111, 100, 117, 99, 116, 115],
  [106, 117, 110, 116, 111, 47, 106, 117, 110, 116, 111, 108, 97, 119, 48, 50, 46, 80, 111, 108, 121, 83, 117, 109, 115],
  [106, 117, 110, 116, 111, 47, 106, 117, 110, 116, 111, 108, 97, 119, 48, 50, 46, 80, 111, 108, 121, 66, 97, 99, 107],
  [106, 117, 110, 116, 111, 47, 106, 117, 110, 116, 111, 108, 97, 119, 48, 50, 46, 80, 111, 108, 121, 86, 97, 108, 117, 101, 115],
  [106, 117, 110, 116, 111, 47, 106, 117, 110, 116, 111, 108, 97, 119, 48, 50, 46, 80, 111, 108, 121, 82, 111, 111, 116, 115],
  [106, 117, 110, 116, 111, 47, 106, 117, 110, 116, 111, 108, 97, 119, 48, 50, 46, 80, 111, 108, 121, 70, 101, 119],
  [106, 117, 110, 116, 111, 47, 106, 117, 110, 116, 111, 108, 97, 119, 48, 50, 46, 80, 111, 108, 121, 86, 97, 108, 117, 101, 100],
  [106, 117, 110, 116, 111, 47, 106, 117, 110, 116, 111, 108, 97, 119, 48, 50, 46, 80, 111, 108, 121, 81, 117, 111, 116, 105, 101, 110, 116, 115],
  [106, 117, 110, 116, 111, 47, 106, 117, 110, 116, 111, 108, 97, 119, 48, 50, 46, 80, 111, 108, 121, 65, 112, 97, 114, 116],
  [106, 117, 110, 116, 111, 47, 106, 117, 110, 116, 111, 108, 97, 119, 48, 52, 46, 83, 104, 97, 114, 101, 83, 101, 99, 114, 101, 116, 115],
  [106, 117, 110, 116, 111, 47, 106, 117, 110, 116, 111, 108, 97, 119, 48, 52, 46, 83, 104, 97, 114, 101, 66, 97, 99, 107]])
set_option maxRecDepth 100000 in
theorem head : Try.pinned.checked.prog.initOrder.toList = glue W := toList_of _ _ (by kernel_rfl)
theorem plain : (W.all fun w => w.all fun c => c.toNat != 32) = true := by kernel_rfl
theorem signs : wordsSigns Try.pinned.checked.prog.initOrder.toList = W := by
  rw [head]
  refine signs_glue W (by simp [W]) fun w hw c hc e => ?_
  have h := List.all_eq_true.1 (List.all_eq_true.1 plain w hw) c hc
  rw [e] at h
  cases h
theorem words : behindMainWord (wordsSigns Try.pinned.checked.prog.initOrder.toList) = W.drop 2 := by
  rw [signs]
  kernel_rfl
theorem lifts : Try.pinned.checked.prog.headLifts = [] := by
  unfold Program.headLifts
  rw [words]
  kernel_rfl
theorem final : Try.pinned.checked.prog.liftsFinal = false := by
  unfold Program.liftsFinal
  rw [words, lifts]
  kernel_rfl
theorem made_of (P : Program) (rest : List (List Char)) (h : behindMainWord (wordsSigns P.initOrder.toList) = [Char.ofNat 99, Char.ofNat 117, Char.ofNat 116] :: rest) : P.make = some .cut := by
  unfold Program.make
  rw [h]
  kernel_rfl
theorem enters_of (P : Program) (rest : List (List Char)) (h : behindMainWord (wordsSigns P.initOrder.toList) = [Char.ofNat 99, Char.ofNat 117, Char.ofNat 116] :: rest) (hl : P.laysLater = false) (hb : P.bearsReflect = false) (hd : P.doorFits [] = true)
    (hs : stripLifts liftWords ([Char.ofNat 99, Char.ofNat 117, Char.ofNat 116] :: rest) = ([], [Char.ofNat 99, Char.ofNat 117, Char.ofNat 116] :: rest)) : P.mayEnter = true := by
  unfold Program.mayEnter
  rw [h]
  simp only [hs, hl, hb, hd]
  kernel_rfl
theorem made : Try.pinned.checked.prog.make = some .cut := made_of _ (W.drop 3) (words.trans (by kernel_rfl))
theorem enters : Try.pinned.checked.prog.mayEnter = true := enters_of _ (W.drop 3) (words.trans (by kernel_rfl)) (by kernel_rfl) (by kernel_rfl) (by kernel_rfl) (by kernel_rfl)
end Go.Proofs.Ytjjnfobeeflnhaa.Facts

/- Both tests of a prime and both tests of a setup answer alike, and what they answer. -/
namespace Go.Proofs.Ytjjnfobeeflnhaa.L
open Go.RowKit Go.Proofs.YtjjnfobeeflnhaaW.PrintWords Go.Proofs.Ytjjnfobeeflnhaa.J
set_option linter.unusedVariables false
set_option linter.unusedSimpArgs false

theorem u64_small {n : Int} (h0 : 0 ≤ n) (h1 : n < 18446744073709551616) : IntKind.u64.wrap n = n := by
  simp [IntKind.wrap, IntKind.signed, IntKind.bits]
  omega
theorem w64_small {n : Int} (h0 : -9223372036854775808 ≤ n) (h1 : n < 9223372036854775808) : wrap64 n = n := by
  unfold wrap64
  omega

/-- No divisor from 2 on whose square is at most a. -/
def free (a : Int) : Prop := ∀ y : Fin 257, 2 ≤ y.val → ((y.val : Int) * (y.val : Int)) ≤ a → a % (y.val : Int) ≠ 0
def isP (a : Int) : Bool := decide (3 ≤ a ∧ a ≤ 65537 ∧ ∀ y : Fin 257, 2 ≤ y.val → ((y.val : Int) * (y.val : Int)) ≤ a → a % (y.val : Int) ≠ 0)
theorem free_of {a : Int} (h : a ≤ 65537) (hf : ∀ y : Fin 257, 2 ≤ y.val → ((y.val : Int) * (y.val : Int)) ≤ a → a % (y.val : Int) ≠ 0) (y : Int) (h2 : 2 ≤ y) (hy : y * y ≤ a) : a % y ≠ 0 := by
  have hb : y < 257 := by
    rcases Int.lt_or_le y 257 with h' | h'
    · exact h'
    · have : 257 * 257 ≤ y * y := Int.mul_le_mul h' h' (by omega) (by omega)
      omega
  have := hf ⟨y.toNat, by omega⟩ (show 2 ≤ y.toNat by omega)
  simp only at this
  rw [show ((y.toNat : Nat) : Int) = y by omega] at this
  exact this hy
theorem isP_iff (a : Int) : isP a = true ↔ 3 ≤ a ∧ a ≤ 65537 ∧ ∀ y : Int, 2 ≤ y → y * y ≤ a → a % y ≠ 0 := by
  unfold isP
  rw [decide_eq_true_iff]
  constructor
  · rintro ⟨h1, h2, h3⟩
    exact ⟨h1, h2, fun y hy => free_of h2 h3 y hy⟩
  · rintro ⟨h1, h2, h3⟩
    exact ⟨h1, h2, fun y hy hq => h3 y.val (by omega) hq⟩

theorem sq_small {x : Int} (h0 : 0 ≤ x) (h1 : x ≤ 300) : 0 ≤ x * x ∧ x * x ≤ 90000 :=
  ⟨Int.mul_nonneg h0 h0, Int.mul_le_mul h1 h1 h0 (by omega)⟩

theorem ref_loop (a : Int) (h3 : 3 ≤ a) (ha : a ≤ 65537) : ∀ (m : Nat) (x : Int), 2 ≤ x → x + m = 258 → (∀ y : Int, 2 ≤ y → y < x → y * y ≤ a → a % y ≠ 0) → Ev (fun k => juntoref01_Is.l0 k a x) (isP a)
  | 0, x, h2, hx, hy => by
    have hb : isP a = true := (isP_iff a).2 ⟨h3, ha, fun y y2 yq => hy y y2 (by
      rcases Int.lt_or_le y x with h' | h'
      · exact h'
      · have : 257 * 257 ≤ y * y := Int.mul_le_mul (by omega) (by omega) (by omega) (by omega)
        omega) yq⟩
    rw [hb]
    refine Ev.step (f := fun k => some true) (fun k => ?_) (Ev.now _)
    have hq := sq_small (x := x) (by omega) (by omega)
    have : ¬ (x * x ≤ a) := by
      have : 257 * 257 ≤ x * x := Int.mul_le_mul (by omega) (by omega) (by omega) (by omega)
      omega
    simp only [juntoref01_Is.l0]
    rw [u64_small hq.1 (by omega), if_neg this]
  | m + 1, x, h2, hx, hy => by
    have hq := sq_small (x := x) (by omega) (by omega)
    by_cases hle : x * x ≤ a
    · by_cases hd : a % x = 0
      · have hb : isP a = false := by
          rw [Bool.eq_false_iff]
          intro h'
          exact ((isP_iff a).1 h').2.2 x h2 hle hd
        rw [hb]
        refine Ev.step (f := fun k => some false) (fun k => ?_) (Ev.now _)
        simp only [juntoref01_Is.l0]
        rw [u64_small hq.1 (by omega), if_pos hle, if_neg (show ¬ x = 0 by omega), if_pos (by rw [Int.tmod_eq_emod_of_nonneg (by omega)]; exact hd)]
      · refine Ev.step (f := fun k => juntoref01_Is.l0 k a (x + 1)) (fun k => ?_) (ref_loop a h3 ha m (x + 1) (by omega) (by omega) fun y y2 yx yq => ?_)
        · conv => lhs; simp only [juntoref01_Is.l0]
          rw [u64_small hq.1 (by omega), if_pos hle, if_neg (show ¬ x = 0 by omega), if_neg (by rw [Int.tmod_eq_emod_of_nonneg (by omega)]; exact hd), u64_small (show 0 ≤ x + 1 by omega) (by omega)]
        · rcases Int.lt_or_le y x with h' | h'
          · exact hy y y2 h' yq
          · obtain rfl : y = x := by omega
            exact hd
    · have hb : isP a = true := (isP_iff a).2 ⟨h3, ha, fun y y2 yq => hy y y2 (by
        rcases Int.lt_or_le y x with h' | h'
        · exact h'
        · have : x * x ≤ y * y := Int.mul_le_mul h' h' (by omega) (by omega)
          omega) yq⟩
      rw [hb]
      refine Ev.step (f := fun k => some true) (fun k => ?_) (Ev.now _)
      simp only [juntoref01_Is.l0]
      rw [u64_small hq.1 (by omega), if_neg hle]

theorem odd_loop (a : Int) (h3 : 3 ≤ a) (ha : a ≤ 65537) (hodd : a % 2 = 1) : ∀ (m : Nat) (x : Int), 3 ≤ x → x % 2 = 1 → x + 2 * m = 259 → (∀ y : Int, 2 ≤ y → y < x → y * y ≤ a → a % y ≠ 0) → Ev (fun k => field_Is.l0 k a x) (isP a)
  | 0, x, h2, hxo, hx, hy => by
    have hb : isP a = true := (isP_iff a).2 ⟨h3, ha, fun y y2 yq => hy y y2 (by
      rcases Int.lt_or_le y x with h' | h'
      · exact h'
      · have : 257 * 257 ≤ y * y := Int.mul_le_mul (by omega) (by omega) (by omega) (by omega)
        omega) yq⟩
    rw [hb]
    refine Ev.step (f := fun k => some true) (fun k => ?_) (Ev.now _)
    have hq := sq_small (x := x) (by omega) (by omega)
    have : ¬ (x * x ≤ a) := by
      have : 257 * 257 ≤ x * x := Int.mul_le_mul (by omega) (by omega) (by omega) (by omega)
      omega
    simp only [field_Is.l0]
    rw [u64_small hq.1 (by omega), if_neg this]
  | m + 1, x, h2, hxo, hx, hy => by
    have hq := sq_small (x := x) (by omega) (by omega)
    by_cases hle : x * x ≤ a
    · by_cases hd : a % x = 0
      · have hb : isP a = false := by
          rw [Bool.eq_false_iff]
          intro h'
          exact ((isP_iff a).1 h').2.2 x (by omega) hle hd
        rw [hb]
        refine Ev.step (f := fun k => some false) (fun k => ?_) (Ev.now _)
        simp only [field_Is.l0]
        rw [u64_small hq.1 (by omega), if_pos hle, if_neg (show ¬ x = 0 by omega), if_pos (by rw [Int.tmod_eq_emod_of_nonneg (by omega)]; exact hd)]
      · refine Ev.step (f := fun k => field_Is.l0 k a (x + 2)) (fun k => ?_) (odd_loop a h3 ha hodd m (x + 2) (by omega) (by omega) (by omega) fun y y2 yx yq => ?_)
        · conv => lhs; simp only [field_Is.l0]
          rw [u64_small hq.1 (by omega), if_pos hle, if_neg (show ¬ x = 0 by omega), if_neg (by rw [Int.tmod_eq_emod_of_nonneg (by omega)]; exact hd), u64_small (show 0 ≤ x + 2 by omega) (by omega)]
        · rcases Int.lt_or_le y x with h' | h'
          · exact hy y y2 h' yq
          · rcases Int.lt_or_le x y with h'' | h''
            · obtain rfl : y = x + 1 := by omega
              intro h0
              have h1 : (2 : Int) ∣ a := Int.dvd_trans (Int.dvd_of_emod_eq_zero (by omega)) (Int.dvd_of_emod_eq_zero h0)
              have := Int.emod_eq_zero_of_dvd h1
              omega
            · obtain rfl : y = x := by omega
              exact hd
    · have hb : isP a = true := (isP_iff a).2 ⟨h3, ha, fun y y2 yq => hy y y2 (by
        rcases Int.lt_or_le y x with h' | h'
        · exact h'
        · have : x * x ≤ y * y := Int.mul_le_mul h' h' (by omega) (by omega)
          omega) yq⟩
      rw [hb]
      refine Ev.step (f := fun k => some true) (fun k => ?_) (Ev.now _)
      simp only [field_Is.l0]
      rw [u64_small hq.1 (by omega), if_neg hle]

theorem not_isP {a : Int} (h : ¬ (3 ≤ a ∧ a ≤ 65537)) : isP a = false := by
  rw [Bool.eq_false_iff]
  intro h'
  have := (isP_iff a).1 h'
  exact h ⟨this.1, this.2.1⟩

theorem ref_is (a : Int) : Ev (fun k => juntoref01_Is.f k a) (isP a) := by
  by_cases h3 : a < 3
  · rw [not_isP (by omega)]
    refine Ev.step (f := fun k => some false) (fun k => ?_) (Ev.now _)
    simp [juntoref01_Is.f, juntoref01_Is.j0, h3]
  · by_cases hb : a > 65537
    · rw [not_isP (by omega)]
      refine Ev.step (f := fun k => some false) (fun k => ?_) (Ev.now _)
      simp [juntoref01_Is.f, juntoref01_Is.j0, h3, hb]
    · refine Ev.step (f := fun k => juntoref01_Is.l0 k a 2) (fun k => ?_) (ref_loop a (by omega) (by omega) 256 2 (by omega) (by omega) fun y y2 yx => by omega)
      simp [juntoref01_Is.f, juntoref01_Is.j0, h3, hb]

theorem field_is (a : Int) : Ev (fun k => field_Is.f k a) (isP a) := by
  by_cases h3 : a < 3
  · rw [not_isP (by omega)]
    refine Ev.step (f := fun k => some false) (fun k => ?_) (Ev.now _)
    simp [field_Is.f, field_Is.j0, h3]
  · by_cases hb : a > 65537
    · rw [not_isP (by omega)]
      refine Ev.step (f := fun k => some false) (fun k => ?_) (Ev.now _)
      simp [field_Is.f, field_Is.j0, h3, hb]
    · by_cases ho : a % 2 = 0
      · have hp : isP a = false := by
          rw [Bool.eq_false_iff]
          intro h'
          exact ((isP_iff a).1 h').2.2 2 (by omega) (by omega) ho
        rw [hp]
        refine Ev.step (f := fun k => some false) (fun k => ?_) (Ev.now _)
        have ht : Int.tmod a 2 = 0 := by rw [Int.tmod_eq_emod_of_nonneg (by omega)]; exact ho
        simp [field_Is.f, field_Is.j0, h3, hb, ht]
      · refine Ev.step (f := fun k => field_Is.l0 k a 3) (fun k => ?_) (odd_loop a (by omega) (by omega) (by omega) 128 3 (by omega) (by omega) (by omega) fun y y2 yx yq => ?_)
        · have ht : ¬ Int.tmod a 2 = 0 := by rw [Int.tmod_eq_emod_of_nonneg (by omega)]; exact ho
          simp [field_Is.f, field_Is.j0, h3, hb, ht]
        · obtain rfl : y = 2 := by omega
          exact ho

/-- What the tests of a row answer: 0 or 2. -/
def belowV (p : Int) (l : List Int) : Int := if ∀ x ∈ l, x < p then 0 else 2

theorem below_loop (p : Int) (l : List Int) (hl : l.length ≤ maxLen) : ∀ (m i : Nat), i + m = l.length → (∀ x ∈ l.take i, x < p) → Ev (fun k => field_Below.l0 k p l (l.length : Int) (i : Int)) (belowV p l)
  | 0, i, hi, hx => by
    have hv : belowV p l = 0 := by
      unfold belowV
      rw [if_pos]
      rw [List.take_of_length_le (by omega)] at hx
      exact hx
    rw [hv]
    refine Ev.step (f := fun k => some 0) (fun k => ?_) (Ev.now _)
    simp only [field_Below.l0]
    rw [if_neg (by omega)]
  | m + 1, i, hi, hx => by
    have hm : (l.length : Int) ≤ 9223372036854775807 := by simp only [maxLen] at hl; omega
    have hlt : i < l.length := by omega
    have hr : rd l (i : Int) = l[i] := by simp [rd, List.getD_eq_getElem?_getD, hlt]
    by_cases hge : l[i] ≥ p
    · have hv : belowV p l = 2 := by
        unfold belowV
        rw [if_neg]
        intro h'
        have := h' _ (List.getElem_mem hlt)
        omega
      rw [hv]
      refine Ev.step (f := fun k => some 2) (fun k => ?_) (Ev.now _)
      simp only [field_Below.l0]
      rw [if_pos (by omega), if_pos (by omega), if_pos (by omega), if_pos (by rw [hr]; exact hge)]
    · refine Ev.step (f := fun k => field_Below.l0 k p l (l.length : Int) ((i + 1 : Nat) : Int)) (fun k => ?_) (below_loop p l hl m (i + 1) (by omega) fun x hx' => ?_)
      · conv => lhs; simp only [field_Below.l0]
        rw [if_pos (by omega), if_pos (by omega), if_pos (by omega), if_neg (by rw [hr]; exact hge), w64_small (by omega) (by omega)]
        rfl
      · rw [List.take_add_one, List.mem_append] at hx'
        rcases hx' with h' | h'
        · exact hx x h'
        · rw [List.getElem?_eq_getElem hlt] at h'
          simp only [Option.toList_some, List.mem_singleton] at h'
          rw [h']; omega

theorem field_below (p : Int) (l : List Int) (hl : l.length ≤ maxLen) : Ev (fun k => field_Below.f k p l) (belowV p l) :=
  below_loop p l hl l.length 0 (by omega) (fun x hx => by simp at hx)

end Go.Proofs.Ytjjnfobeeflnhaa.L

/- Both ways to evaluate a polynomial answer alike, and what they answer. -/
namespace Go.Proofs.Ytjjnfobeeflnhaa.L
open Go.RowKit Go.Proofs.YtjjnfobeeflnhaaW.PrintWords Go.Proofs.Ytjjnfobeeflnhaa.J
set_option linter.unusedVariables false
set_option linter.unusedSimpArgs false

theorem mul_small {p a b : Int} (hp : p ≤ 65537) (ha : 0 ≤ a) (ha' : a < p) (hb : 0 ≤ b) (hb' : b < p) : 0 ≤ a * b ∧ a * b < 18446744073709551616 := by
  have h1 : a * b ≤ 65537 * 65537 := Int.mul_le_mul (by omega) (by omega) hb (by omega)
  exact ⟨Int.mul_nonneg ha hb, by omega⟩

theorem times_at {p a b : Int} (h0 : 0 < p) (hp : p ≤ 65537) (ha : 0 ≤ a) (ha' : a < p) (hb : 0 ≤ b) (hb' : b < p) : field_Times.f p a b = some (a * b % p) := by
  obtain ⟨h1, h2⟩ := mul_small hp ha ha' hb hb'
  unfold field_Times.f field_mul.f
  simp only [u64_small h1 h2, if_neg (show ¬ p = 0 by omega), Option.bind_some, Int.tmod_eq_emod_of_nonneg h1]

theorem ref_mul {p a b : Int} (h0 : 0 < p) (hp : p ≤ 65537) (ha : 0 ≤ a) (ha' : a < p) (hb : 0 ≤ b) (hb' : b < p) : juntoref01_Mul.f p a b = some (a * b % p) := by
  obtain ⟨h1, h2⟩ := mul_small hp ha ha' hb hb'
  unfold juntoref01_Mul.f
  rw [u64_small h1 h2, if_neg (show ¬ p = 0 by omega), Int.tmod_eq_emod_of_nonneg h1]

theorem ref_add {p a b : Int} (h0 : 0 < p) (hp : p ≤ 65537) (ha : 0 ≤ a) (ha' : a < p) (hb : 0 ≤ b) (hb' : b < p) : juntoref01_Add.f p a b = some ((a + b) % p) := by
  unfold juntoref01_Add.f
  rw [u64_small (by omega) (by omega), if_neg (show ¬ p = 0 by omega), Int.tmod_eq_emod_of_nonneg (by omega)]

theorem plus_at {p a b : Int} (h0 : 0 < p) (hp : p ≤ 65537) (ha : 0 ≤ a) (ha' : a < p) (hb : 0 ≤ b) (hb' : b < p) : field_Plus.f p a b = some ((a + b) % p) := by
  unfold field_Plus.f
  rw [u64_small (n := a + b) (by omega) (by omega)]
  by_cases h : a + b ≥ p
  · rw [if_pos h, u64_small (by omega) (by omega)]
    rw [show (a + b) % p = a + b - p by rw [← Int.sub_emod_right, Int.emod_eq_of_lt (by omega) (by omega)]]
  · rw [if_neg h, Int.emod_eq_of_lt (by omega) (by omega)]

/-- The value of a row of coefficients at x. -/
def valV (p x : Int) : List Int → Int
  | [] => 0
  | c :: cs => (valV p x cs * x % p + c) % p

theorem valV_range {p : Int} (h0 : 0 < p) (x : Int) : ∀ l, 0 ≤ valV p x l ∧ valV p x l < p
  | [] => ⟨Int.le_refl _, h0⟩
  | _ :: _ => ⟨Int.emod_nonneg _ (by omega), Int.emod_lt_of_pos _ h0⟩

theorem at_run {p x : Int} (h0 : 0 < p) (hp : p ≤ 65537) (hx : 0 ≤ x) (hx' : x < p) : ∀ (l : List Int), (∀ c ∈ l, 0 ≤ c ∧ c < p) → poly_At.run p x l.reverse (some 0) = some (valV p x l)
  | [], _ => rfl
  | c :: cs, h => by
    rw [List.reverse_cons, poly_At.run_snoc, at_run h0 hp hx hx' cs (fun d hd => h d (List.mem_cons_of_mem _ hd))]
    have hc := h c (List.mem_cons_self ..)
    have hv := valV_range h0 x cs
    show poly_At.step p x (valV p x cs) c = _
    unfold poly_At.step
    rw [times_at h0 hp hv.1 hv.2 hx hx']
    exact plus_at h0 hp (Int.emod_nonneg _ (by omega)) (Int.emod_lt_of_pos _ h0) hc.1 hc.2

theorem poly_at {p x : Int} (h0 : 0 < p) (hp : p ≤ 65537) (hx : 0 ≤ x) (hx' : x < p) (l : List Int) (h : ∀ c ∈ l, 0 ≤ c ∧ c < p) : poly_At.f p l x = some (valV p x l) := at_run h0 hp hx hx' l h

theorem drop_mod (a b z p : Int) : (a + b * (z % p)) % p = (a + b * z) % p := by
  rw [Int.emod_def z p, show a + b * (z - p * (z / p)) = a + b * z + p * (-(b * (z / p))) by generalize z / p = q; grind, Int.add_mul_emod_self_left]

theorem step_mod (acc pw v c x p : Int) : (acc + pw * ((v * x % p + c) % p)) % p = ((acc + c * pw % p) % p + pw * x % p * v) % p := by
  rw [drop_mod]
  have r1 : ((acc + c * pw % p) % p + pw * x % p * v) % p = (pw * x % p * v + 1 * ((acc + c * pw % p) % p)) % p := by
    generalize (acc + c * pw % p) % p = u
    rw [Int.one_mul, Int.add_comm]
  rw [r1, drop_mod]
  have r2 : pw * x % p * v + 1 * (acc + c * pw % p) = acc + v * (pw * x % p) + 1 * (c * pw % p) := by
    generalize pw * x % p = u
    generalize c * pw % p = z
    grind
  rw [r2, drop_mod]
  have r3 : acc + v * (pw * x % p) + 1 * (c * pw) = acc + c * pw + v * (pw * x % p) := by
    generalize pw * x % p = u
    grind
  rw [r3, drop_mod]
  have r4 : acc + pw * (v * x % p + c) = acc + pw * c + pw * (v * x % p) := by
    generalize v * x % p = u
    grind
  rw [r4, drop_mod]
  congr 1
  grind

theorem ref_eval_loop {p x : Int} (h0 : 0 < p) (hp : p ≤ 65537) (hx : 0 ≤ x) (hx' : x < p) (l : List Int) (hs : l.length ≤ maxLen) (h : ∀ c ∈ l, 0 ≤ c ∧ c < p) : ∀ (m i : Nat) (acc pw : Int), i + m = l.length → 0 ≤ acc → acc < p → 0 ≤ pw → pw < p →
    Ev (fun k => juntoref02_Eval.l0 k p x acc pw l (l.length : Int) (i : Int)) ((acc + pw * valV p x (l.drop i)) % p)
  | 0, i, acc, pw, hi, ha, ha', hw, hw' => by
    rw [List.drop_of_length_le (by omega)]
    have e : (acc + pw * valV p x []) % p = acc := by
      show (acc + pw * 0) % p = acc
      rw [Int.mul_zero, Int.add_zero, Int.emod_eq_of_lt ha ha']
    rw [e]
    refine Ev.step (f := fun k => some acc) (fun k => ?_) (Ev.now _)
    simp only [juntoref02_Eval.l0]
    rw [if_neg (by omega)]
  | m + 1, i, acc, pw, hi, ha, ha', hw, hw' => by
    have hm : (l.length : Int) ≤ 9223372036854775807 := by simp only [maxLen] at hs; omega
    have hlt : i < l.length := by omega
    have hr : rd l (i : Int) = l[i] := by simp [rd, List.getD_eq_getElem?_getD, hlt]
    have hc := h l[i] (List.getElem_mem hlt)
    rw [List.drop_eq_getElem_cons hlt]
    have m1 : 0 ≤ l[i] * pw % p ∧ l[i] * pw % p < p := ⟨Int.emod_nonneg _ (by omega), Int.emod_lt_of_pos _ h0⟩
    have m2 : 0 ≤ (acc + l[i] * pw % p) % p ∧ (acc + l[i] * pw % p) % p < p := ⟨Int.emod_nonneg _ (by omega), Int.emod_lt_of_pos _ h0⟩
    have m3 : 0 ≤ pw * x % p ∧ pw * x % p < p := ⟨Int.emod_nonneg _ (by omega), Int.emod_lt_of_pos _ h0⟩
    have e : (acc + pw * valV p x (l[i] :: l.drop (i + 1))) % p = ((acc + l[i] * pw % p) % p + pw * x % p * valV p x (l.drop (i + 1))) % p := by
      show (acc + pw * ((valV p x (l.drop (i + 1)) * x % p + l[i]) % p)) % p = _
      exact step_mod _ _ _ _ _ _
    rw [e]
    refine Ev.step (f := fun k => juntoref02_Eval.l0 k p x ((acc + l[i] * pw % p) % p) (pw * x % p) l (l.length : Int) ((i + 1 : Nat) : Int)) (fun k => ?_) (ref_eval_loop h0 hp hx hx' l hs h m (i + 1) _ _ (by omega) m2.1 m2.2 m3.1 m3.2)
    conv => lhs; simp only [juntoref02_Eval.l0]
    rw [if_pos (by omega), if_pos (by omega), if_pos (by omega), hr, ref_mul h0 hp hc.1 hc.2 hw hw', Option.bind_some, ref_add h0 hp ha ha' m1.1 m1.2, Option.bind_some, ref_mul h0 hp hw hw' hx hx', Option.bind_some, w64_small (by omega) (by omega)]
    rfl

theorem ref_eval {p x : Int} (h1 : 1 < p) (hp : p ≤ 65537) (hx : 0 ≤ x) (hx' : x < p) (l : List Int) (hs : l.length ≤ maxLen) (h : ∀ c ∈ l, 0 ≤ c ∧ c < p) : Ev (fun k => juntoref02_Eval.f k p l x) (valV p x l) := by
  have e := ref_eval_loop (by omega) hp hx hx' l hs h l.length 0 0 1 (by omega) (by omega) (by omega) (by omega) h1
  have hv := valV_range (p := p) (by omega) x l
  rw [List.drop_zero, Int.zero_add, Int.one_mul, Int.emod_eq_of_lt hv.1 hv.2] at e
  exact e

end Go.Proofs.Ytjjnfobeeflnhaa.L

/- The field of the residues modulo a prime: primes by trial division, no zero divisors, Fermat. Plain Lean, no program in sight. -/
namespace Go.Proofs.Ytjjnfobeeflnhaa.Fld

/-- A prime. -/
def Pr (p : Nat) : Prop := 2 ≤ p ∧ ∀ d, d ∣ p → d = 1 ∨ d = p

theorem Pr.dvd_mul {p a b : Nat} (hp : Pr p) (h : p ∣ a * b) : p ∣ a ∨ p ∣ b := by
  by_cases ha : p ∣ a
  · exact .inl ha
  · right
    have hc : Nat.Coprime p a := by
      rcases hp.2 _ (Nat.gcd_dvd_left p a) with h' | h'
      · exact h'
      · exact absurd (h' ▸ Nat.gcd_dvd_right p a) ha
    exact hc.dvd_of_dvd_mul_left h

/-- Trial division up to the root is enough. -/
theorem pr_of_trial {p : Nat} (h2 : 2 ≤ p) (h : ∀ d, 2 ≤ d → d * d ≤ p → p % d ≠ 0) : Pr p := by
  refine ⟨h2, fun d hd => ?_⟩
  obtain ⟨e, he⟩ := hd
  by_cases h1 : d = 1
  · exact .inl h1
  by_cases h3 : e = 1
  · right; rw [he, h3, Nat.mul_one]
  exfalso
  have hd0 : d ≠ 0 := by rintro rfl; omega
  have he0 : e ≠ 0 := by rintro rfl; omega
  by_cases hle : d ≤ e
  · refine h d (by omega) ?_ (Nat.mod_eq_zero_of_dvd ⟨e, he⟩)
    rw [he]; exact Nat.mul_le_mul_left d hle
  · refine h e (by omega) ?_ (Nat.mod_eq_zero_of_dvd ⟨d, by rw [he, Nat.mul_comm]⟩)
    rw [he]; exact Nat.mul_le_mul_right e (by omega)

set_option linter.unusedVariables false
set_option linter.unusedSimpArgs false

section
variable {p : Nat} [NeZero p]

theorem mul_eq_zero (hp : Pr p) {a b : Fin p} (h : a * b = 0) : a = 0 ∨ b = 0 := by
  have h1 : (a.val * b.val) % p = 0 := by have := congrArg Fin.val h; simpa [Fin.val_mul] using this
  rcases hp.dvd_mul (Nat.dvd_of_mod_eq_zero h1) with h | h
  · left; apply Fin.ext; exact Nat.eq_zero_of_dvd_of_lt h a.isLt
  · right; apply Fin.ext; exact Nat.eq_zero_of_dvd_of_lt h b.isLt

theorem one_ne_zero (hp : Pr p) : (1 : Fin p) ≠ 0 := by
  intro h
  have := congrArg Fin.val h
  have h2 := hp.1
  have h1 : ((1 : Fin p) : Nat) = 1 % p := rfl
  rw [h1, Nat.mod_eq_of_lt (by omega)] at this
  simp at this

theorem mul_cancel (hp : Pr p) {a b c : Fin p} (ha : a ≠ 0) (h : a * b = a * c) : b = c := by
  have : a * (b - c) = 0 := by grind
  rcases mul_eq_zero hp this with h | h
  · exact absurd h ha
  · grind

/-- The product of a list. -/
def pr (l : List (Fin p)) : Fin p := l.foldr (· * ·) 1
theorem pr_cons (a : Fin p) (l : List (Fin p)) : pr (a :: l) = a * pr l := rfl
theorem pr_perm {l l' : List (Fin p)} (h : l.Perm l') : pr l = pr l' := by
  induction h with
  | nil => rfl
  | cons x _ ih => rw [pr_cons, pr_cons, ih]
  | swap x y l => simp only [pr_cons]; grind
  | trans _ _ ih1 ih2 => exact ih1.trans ih2
theorem pr_ne_zero (hp : Pr p) {l : List (Fin p)} (h : ∀ a, a ∈ l → a ≠ 0) : pr l ≠ 0 := by
  induction l with
  | nil => exact one_ne_zero hp
  | cons a l ih =>
    intro h'
    rcases mul_eq_zero hp (pr_cons a l ▸ h') with h0 | h0
    · exact h a (by simp) h0
    · exact ih (fun b hb => h b (by simp [hb])) h0
theorem pr_map_mul (a : Fin p) (l : List (Fin p)) : pr (l.map (a * ·)) = a ^ l.length * pr l := by
  induction l with
  | nil => simp only [List.map_nil, List.length_nil]; show (1 : Fin p) = a ^ 0 * 1; grind
  | cons b l ih => rw [List.map_cons, pr_cons, pr_cons, ih, List.length_cons]; grind

theorem perm_of_subset {α : Type} [BEq α] [LawfulBEq α] : ∀ (l l' : List α), l.Nodup → (∀ a, a ∈ l → a ∈ l') → l'.length ≤ l.length → l.Perm l'
  | [], l', _, _, h => by
    have : l' = [] := List.eq_nil_of_length_eq_zero (by simpa using h)
    rw [this]
  | a :: l, l', hn, hs, h => by
    have ha := hs a (by simp)
    have hp := List.perm_cons_erase ha
    have hlen : (l'.erase a).length + 1 = l'.length := by have := hp.length_eq; simpa using this.symm
    obtain ⟨hna, hn⟩ := List.nodup_cons.1 hn
    refine List.Perm.trans ?_ hp.symm
    refine List.Perm.cons a (perm_of_subset l (l'.erase a) hn ?_ (by simp at h; omega))
    intro b hb
    have hne : b ≠ a := by rintro rfl; exact hna hb
    exact (List.mem_erase_of_ne hne).2 (hs b (by simp [hb]))

/-- The elements that are not 0. -/
def units (p : Nat) [NeZero p] : List (Fin p) := (List.range (p - 1)).map fun i => Fin.ofNat p (i + 1)
theorem units_length : (units p).length = p - 1 := by simp [units]
theorem units_ne {a : Fin p} (h : a ∈ units p) : a ≠ 0 := by
  obtain ⟨i, hi, rfl⟩ := List.mem_map.1 h
  have hi := List.mem_range.1 hi
  intro h
  have := congrArg Fin.val h
  simp only [Fin.ofNat, Fin.val_zero] at this
  rw [Nat.mod_eq_of_lt (by omega)] at this
  omega
theorem mem_units {a : Fin p} (h : a ≠ 0) : a ∈ units p := by
  have h0 : a.val ≠ 0 := fun h' => h (Fin.ext h')
  refine List.mem_map.2 ⟨a.val - 1, List.mem_range.2 (by have := a.isLt; omega), ?_⟩
  apply Fin.ext
  simp only [Fin.ofNat]
  rw [Nat.mod_eq_of_lt (by have := a.isLt; omega)]
  omega
theorem units_nodup : (units p).Nodup := by
  unfold units List.Nodup
  rw [List.pairwise_map]
  refine List.Pairwise.imp_of_mem ?_ List.nodup_range
  intro i j hi hj hne h
  have hi := List.mem_range.1 hi
  have hj := List.mem_range.1 hj
  have := congrArg Fin.val h
  simp only [Fin.ofNat] at this
  rw [Nat.mod_eq_of_lt (by omega), Nat.mod_eq_of_lt (by omega)] at this
  omega

theorem fermat (hp : Pr p) {a : Fin p} (ha : a ≠ 0) : a ^ (p - 1) = 1 := by
  have hperm : ((units p).map (a * ·)).Perm (units p) := by
    refine perm_of_subset _ _ ?_ ?_ (by simp)
    · unfold List.Nodup
      rw [List.pairwise_map]
      refine List.Pairwise.imp ?_ (units_nodup (p := p))
      intro x y hne h
      exact hne (mul_cancel hp ha h)
    · intro x hx
      obtain ⟨y, hy, rfl⟩ := List.mem_map.1 hx
      refine mem_units fun h => ?_
      rcases mul_eq_zero hp h with h | h
      · exact ha h
      · exact units_ne hy h
  have h1 := pr_perm hperm
  rw [pr_map_mul, units_length] at h1
  have h2 : pr (units p) ≠ 0 := pr_ne_zero hp fun a h => units_ne h
  exact mul_cancel hp (a := pr (units p)) h2 (by grind)

/-- The inverse, as a power. -/
def inv (a : Fin p) : Fin p := a ^ (p - 2)
theorem inv_mul (hp : Pr p) {a : Fin p} (ha : a ≠ 0) : inv a * a = 1 := by
  have h := fermat hp ha
  have h2 := hp.1
  have : p - 1 = (p - 2) + 1 := by omega
  rw [this] at h
  unfold inv
  grind
theorem mul_inv (hp : Pr p) {a : Fin p} (ha : a ≠ 0) : a * inv a = 1 := by have := inv_mul hp ha; grind
theorem pow_double (a : Fin p) (n : Nat) : (a * a) ^ n = a ^ (2 * n) := by
  induction n with
  | zero => simp only [Nat.mul_zero]; grind
  | succ n ih =>
    have : 2 * (n + 1) = 2 * n + 1 + 1 := by omega
    rw [this]; grind

end
end Go.Proofs.Ytjjnfobeeflnhaa.Fld

/- Polynomials over the residues modulo a prime, as lists of coefficients: sums, products, values, trailing zeros, division, interpolation. Plain Lean, no program in sight. -/
namespace Go.Proofs.Ytjjnfobeeflnhaa.Fld
set_option linter.unusedVariables false
set_option linter.unusedSimpArgs false

section
variable {p : Nat} [NeZero p]

/-! ### sums -/
def sm : Nat → (Nat → Fin p) → Fin p
  | 0, _ => 0
  | n + 1, g => sm n g + g n
theorem sm_succ (n : Nat) (g : Nat → Fin p) : sm (n + 1) g = sm n g + g n := rfl
theorem sm_congr {n : Nat} {g h : Nat → Fin p} (e : ∀ i, i < n → g i = h i) : sm n g = sm n h := by
  induction n with
  | zero => rfl
  | succ n ih => rw [sm_succ, sm_succ, ih (fun i hi => e i (by omega)), e n (by omega)]
theorem sm_zero {n : Nat} {g : Nat → Fin p} (e : ∀ i, i < n → g i = 0) : sm n g = 0 := by
  induction n with
  | zero => rfl
  | succ n ih => rw [sm_succ, ih (fun i hi => e i (by omega)), e n (by omega)]; grind
theorem sm_add (n : Nat) (g h : Nat → Fin p) : sm n (fun i => g i + h i) = sm n g + sm n h := by
  induction n with
  | zero => show (0 : Fin p) = 0 + 0; grind
  | succ n ih => rw [sm_succ, sm_succ, sm_succ, ih]; grind
theorem sm_mul (n : Nat) (c : Fin p) (g : Nat → Fin p) : sm n (fun i => c * g i) = c * sm n g := by
  induction n with
  | zero => show (0 : Fin p) = c * 0; grind
  | succ n ih => rw [sm_succ, sm_succ, ih]; grind
theorem sm_mul' (n : Nat) (c : Fin p) (g : Nat → Fin p) : sm n (fun i => g i * c) = sm n g * c := by
  induction n with
  | zero => show (0 : Fin p) = 0 * c; grind
  | succ n ih => rw [sm_succ, sm_succ, ih]; grind
theorem sm_front (n : Nat) (g : Nat → Fin p) : sm (n + 1) g = g 0 + sm n (fun i => g (i + 1)) := by
  induction n with
  | zero => show 0 + g 0 = g 0 + 0; grind
  | succ n ih => rw [sm_succ, ih, sm_succ]; grind
theorem sm_rev (n : Nat) (g : Nat → Fin p) : sm (n + 1) g = sm (n + 1) (fun i => g (n - i)) := by
  induction n generalizing g with
  | zero => rfl
  | succ n ih =>
    rw [sm_front, ih (fun i => g (i + 1)), sm_succ (n + 1) (fun i => g (n + 1 - i))]
    have : sm (n + 1) (fun i => g (n - i + 1)) = sm (n + 1) (fun i => g (n + 1 - i)) := sm_congr fun i hi => by congr 1; omega
    rw [this, show n + 1 - (n + 1) = 0 by omega]; grind
theorem sm_more {n m : Nat} {g : Nat → Fin p} (h : n ≤ m) (e : ∀ i, n ≤ i → i < m → g i = 0) : sm m g = sm n g := by
  induction m with
  | zero => rw [show n = 0 by omega]
  | succ m ih =>
    by_cases hn : n = m + 1
    · rw [hn]
    · rw [sm_succ, ih (by omega) (fun i h1 h2 => e i h1 (by omega)), e m (by omega) (by omega)]; grind
theorem sm_one {n k : Nat} {g : Nat → Fin p} (hk : k < n) (e : ∀ i, i < n → i ≠ k → g i = 0) : sm n g = g k := by
  induction n with
  | zero => omega
  | succ n ih =>
    rw [sm_succ]
    by_cases h : k = n
    · rw [h, sm_zero (fun i hi => e i (by omega) (by omega))]; grind
    · rw [ih (by omega) (fun i h1 h2 => e i (by omega) h2), e n (by omega) (by omega)]; grind

/-! ### coefficients, values -/
def co (f : List (Fin p)) (i : Nat) : Fin p := f.getD i 0
theorem co_nil (i : Nat) : co ([] : List (Fin p)) i = 0 := by simp [co]
theorem co_cons_zero (a : Fin p) (f : List (Fin p)) : co (a :: f) 0 = a := by simp [co]
theorem co_cons_succ (a : Fin p) (f : List (Fin p)) (i : Nat) : co (a :: f) (i + 1) = co f i := by simp [co]
theorem co_ge {f : List (Fin p)} {i : Nat} (h : f.length ≤ i) : co f i = 0 := by simp [co, List.getD_eq_getElem?_getD, List.getElem?_eq_none h]
theorem co_lt {f : List (Fin p)} {i : Nat} (h : i < f.length) : co f i = f[i] := by simp [co, List.getD_eq_getElem?_getD, h]
/-- The value at a place (Horner). -/
def ev (f : List (Fin p)) (x : Fin p) : Fin p := f.foldr (fun c v => v * x + c) 0
theorem ev_nil (x : Fin p) : ev [] x = 0 := rfl
theorem ev_cons (a : Fin p) (f : List (Fin p)) (x : Fin p) : ev (a :: f) x = ev f x * x + a := rfl
theorem ev_sm (f : List (Fin p)) (x : Fin p) : ∀ n, f.length ≤ n → ev f x = sm n (fun i => co f i * x ^ i) := by
  induction f with
  | nil => intro n _; rw [ev_nil, sm_zero]; intro i _; rw [co_nil]; grind
  | cons a f ih =>
    intro n hn
    obtain ⟨m, rfl⟩ : ∃ m, n = m + 1 := ⟨n - 1, by simp at hn; omega⟩
    rw [ev_cons, sm_front, ih m (by simp at hn; omega), co_cons_zero]
    have : sm m (fun i => co (a :: f) (i + 1) * x ^ (i + 1)) = sm m (fun i => co f i * x ^ i * x) := sm_congr fun i _ => by rw [co_cons_succ]; grind
    rw [this, sm_mul']; grind
/-- Equal as polynomials. -/
def Eqv (f g : List (Fin p)) : Prop := ∀ i, co f i = co g i
theorem Eqv.refl (f : List (Fin p)) : Eqv f f := fun _ => rfl
theorem Eqv.symm {f g : List (Fin p)} (h : Eqv f g) : Eqv g f := fun i => (h i).symm
theorem Eqv.trans {f g k : List (Fin p)} (h : Eqv f g) (h' : Eqv g k) : Eqv f k := fun i => (h i).trans (h' i)
theorem Eqv.ev {f g : List (Fin p)} (h : Eqv f g) (x : Fin p) : ev f x = ev g x := by
  rw [ev_sm f x (max f.length g.length) (by omega), ev_sm g x (max f.length g.length) (by omega)]
  exact sm_congr fun i _ => by rw [h i]

/-! ### trailing zeros -/
def trim (f : List (Fin p)) : List (Fin p) := f.foldr (fun c r => if r = [] ∧ c = 0 then [] else c :: r) []
theorem trim_nil : trim ([] : List (Fin p)) = [] := rfl
theorem trim_cons (a : Fin p) (f : List (Fin p)) : trim (a :: f) = if trim f = [] ∧ a = 0 then [] else a :: trim f := rfl
theorem trim_co (f : List (Fin p)) : Eqv (trim f) f := by
  induction f with
  | nil => exact Eqv.refl _
  | cons a f ih =>
    intro i
    rw [trim_cons]
    split
    · rename_i h
      obtain ⟨h1, rfl⟩ := h
      cases i with
      | zero => rw [co_nil, co_cons_zero]
      | succ i => rw [co_nil, co_cons_succ, ← ih i, h1, co_nil]
    · cases i with
      | zero => rw [co_cons_zero, co_cons_zero]
      | succ i => rw [co_cons_succ, co_cons_succ, ih i]
theorem trim_eq_nil {f : List (Fin p)} (h : ∀ i, co f i = 0) : trim f = [] := by
  induction f with
  | nil => rfl
  | cons a f ih =>
    rw [trim_cons, if_pos ⟨ih (fun i => by rw [← co_cons_succ a, h]), by rw [← co_cons_zero a f, h]⟩]
theorem trim_congr {f g : List (Fin p)} (h : Eqv f g) : trim f = trim g := by
  induction f generalizing g with
  | nil => rw [trim_nil, trim_eq_nil (fun i => by rw [← h i, co_nil])]
  | cons a f ih =>
    cases g with
    | nil => rw [trim_nil, trim_eq_nil (fun i => by rw [h i, co_nil])]
    | cons b g =>
      have h0 : a = b := by have := h 0; rwa [co_cons_zero, co_cons_zero] at this
      have h1 : Eqv f g := fun i => by have := h (i + 1); rwa [co_cons_succ, co_cons_succ] at this
      rw [trim_cons, trim_cons, ih h1, h0]
theorem trim_trim (f : List (Fin p)) : trim (trim f) = trim f := trim_congr (trim_co f)
theorem trim_length_le (f : List (Fin p)) : (trim f).length ≤ f.length := by
  induction f with
  | nil => simp [trim_nil]
  | cons a f ih => rw [trim_cons]; split <;> simp <;> omega
theorem trim_length_of {f : List (Fin p)} {n : Nat} (h : ∀ i, n ≤ i → co f i = 0) : (trim f).length ≤ n := by
  induction f generalizing n with
  | nil => simp [trim_nil]
  | cons a f ih =>
    rw [trim_cons]
    split
    · simp
    · rename_i hne
      cases n with
      | zero =>
        exfalso; apply hne
        exact ⟨trim_eq_nil fun i => by rw [← co_cons_succ a, h _ (by omega)], by rw [← co_cons_zero a f, h 0 (by omega)]⟩
      | succ n =>
        have := ih (n := n) (fun i hi => by rw [← co_cons_succ a, h _ (by omega)])
        simp; omega
theorem trim_last {f : List (Fin p)} (h : trim f ≠ []) : co f ((trim f).length - 1) ≠ 0 := by
  intro h0
  have hl : 0 < (trim f).length := List.length_pos_iff.2 h
  have := trim_length_of (f := f) (n := (trim f).length - 1) (fun i hi => by
    by_cases e : i = (trim f).length - 1
    · rw [e]; exact h0
    · rw [← trim_co f i]; exact co_ge (by omega))
  omega
/-- Nothing to trim. -/
def Tr (f : List (Fin p)) : Prop := trim f = f
theorem Tr.trim (f : List (Fin p)) : Tr (trim f) := trim_trim f
theorem Tr.ext {f g : List (Fin p)} (hf : Tr f) (hg : Tr g) (h : Eqv f g) : f = g := by rw [← hf, ← hg, trim_congr h]
theorem Tr.last {f : List (Fin p)} (hf : Tr f) (h : f ≠ []) : co f (f.length - 1) ≠ 0 := by
  have := trim_last (f := f) (by rw [hf]; exact h)
  rwa [hf] at this
/-! ### making a list out of its coefficients -/
def mk (n : Nat) (c : Nat → Fin p) : List (Fin p) := (List.range n).map c
end
section
variable {p : Nat}
theorem mk_length (n : Nat) (c : Nat → Fin p) : (mk n c).length = n := by simp [mk]
end
section
variable {p : Nat} [NeZero p]
theorem co_mk (n : Nat) (c : Nat → Fin p) (i : Nat) : co (mk n c) i = if i < n then c i else 0 := by
  by_cases h : i < n
  · rw [co_lt (by rw [mk_length]; exact h), if_pos h]; simp [mk]
  · rw [co_ge (by rw [mk_length]; omega), if_neg h]

/-! ### sums, products -/
def add (f g : List (Fin p)) : List (Fin p) := mk (max f.length g.length) (fun i => co f i + co g i)
def sub (f g : List (Fin p)) : List (Fin p) := mk (max f.length g.length) (fun i => co f i - co g i)
def smul (c : Fin p) (f : List (Fin p)) : List (Fin p) := f.map (c * ·)
theorem co_add (f g : List (Fin p)) (i : Nat) : co (add f g) i = co f i + co g i := by
  unfold add; rw [co_mk]; split
  · rfl
  · rw [co_ge (f := f) (by omega), co_ge (f := g) (by omega)]; grind
theorem co_sub (f g : List (Fin p)) (i : Nat) : co (sub f g) i = co f i - co g i := by
  unfold sub; rw [co_mk]; split
  · rfl
  · rw [co_ge (f := f) (by omega), co_ge (f := g) (by omega)]; grind
theorem co_smul (c : Fin p) (f : List (Fin p)) (i : Nat) : co (smul c f) i = c * co f i := by
  unfold smul
  by_cases h : i < f.length
  · rw [co_lt (by simpa using h), co_lt h]; simp
  · rw [co_ge (by simp; omega), co_ge (by omega)]; grind
end
section
variable {p : Nat}
theorem smul_length (c : Fin p) (f : List (Fin p)) : (smul c f).length = f.length := by simp [smul]
end
section
variable {p : Nat} [NeZero p]
theorem add_length (f g : List (Fin p)) : (add f g).length = max f.length g.length := mk_length _ _
theorem sub_length (f g : List (Fin p)) : (sub f g).length = max f.length g.length := mk_length _ _
theorem ev_add (f g : List (Fin p)) (x : Fin p) : ev (add f g) x = ev f x + ev g x := by
  rw [ev_sm (add f g) x (max f.length g.length) (by rw [add_length]; omega), ev_sm f x (max f.length g.length) (by omega), ev_sm g x (max f.length g.length) (by omega), ← sm_add]
  exact sm_congr fun i _ => by rw [co_add]; grind
theorem ev_sub (f g : List (Fin p)) (x : Fin p) : ev (sub f g) x = ev f x - ev g x := by
  have h : Eqv (add (sub f g) g) f := fun i => by rw [co_add, co_sub]; grind
  have := h.ev x
  rw [ev_add] at this
  grind
theorem ev_smul (c : Fin p) (f : List (Fin p)) (x : Fin p) : ev (smul c f) x = c * ev f x := by
  rw [ev_sm (smul c f) x f.length (by rw [smul_length]; omega), ev_sm f x f.length (by omega), ← sm_mul]
  exact sm_congr fun i _ => by rw [co_smul]; grind

/-- A product of coefficients. -/
def cv (c d : Nat → Fin p) (n : Nat) : Fin p := sm (n + 1) (fun i => c i * d (n - i))
theorem cv_congr {c c' d d' : Nat → Fin p} (h : ∀ i, c i = c' i) (h' : ∀ i, d i = d' i) (n : Nat) : cv c d n = cv c' d' n := sm_congr fun i _ => by rw [h, h']
theorem cv_comm (c d : Nat → Fin p) (n : Nat) : cv c d n = cv d c n := by
  unfold cv
  rw [sm_rev]
  exact sm_congr fun i hi => by rw [show n - (n - i) = i by omega]; grind
theorem cv_add (c d d' : Nat → Fin p) (n : Nat) : cv c (fun i => d i + d' i) n = cv c d n + cv c d' n := by
  unfold cv; rw [← sm_add]; exact sm_congr fun i _ => by grind
theorem cv_add' (c c' d : Nat → Fin p) (n : Nat) : cv (fun i => c i + c' i) d n = cv c d n + cv c' d n := by
  unfold cv; rw [← sm_add]; exact sm_congr fun i _ => by grind
/-- A product. -/
def mul : List (Fin p) → List (Fin p) → List (Fin p)
  | [], _ => []
  | a :: f, g => add (smul a g) (0 :: mul f g)
theorem co_mul (f g : List (Fin p)) (n : Nat) : co (mul f g) n = cv (co f) (co g) n := by
  induction f generalizing n with
  | nil => rw [mul, co_nil]; unfold cv; rw [sm_zero]; intro i _; rw [co_nil]; grind
  | cons a f ih =>
    rw [mul, co_add, co_smul]
    unfold cv
    rw [sm_front, co_cons_zero]
    cases n with
    | zero => rw [co_cons_zero]; show a * co g 0 + 0 = a * co g 0 + 0; rfl
    | succ n =>
      rw [co_cons_succ, ih n]
      unfold cv
      congr 1
      exact sm_congr fun i _ => by rw [co_cons_succ, show n + 1 - (i + 1) = n - i by omega]
theorem ev_mul (f g : List (Fin p)) (x : Fin p) : ev (mul f g) x = ev f x * ev g x := by
  induction f with
  | nil => rw [mul, ev_nil]; grind
  | cons a f ih => rw [mul, ev_add, ev_smul, ev_cons, ih, ev_cons]; grind
theorem co_mul_ge {f g : List (Fin p)} {n : Nat} (h : f.length + g.length ≤ n + 1) : co (mul f g) n = 0 := by
  rw [co_mul]; unfold cv
  refine sm_zero fun i hi => ?_
  by_cases h1 : f.length ≤ i
  · rw [co_ge h1]; grind
  · rw [co_ge (f := g) (by omega)]; grind
theorem co_mul_top {f g : List (Fin p)} (hf : f ≠ []) (hg : g ≠ []) : co (mul f g) (f.length + g.length - 2) = co f (f.length - 1) * co g (g.length - 1) := by
  have h1 := List.length_pos_iff.2 hf
  have h2 := List.length_pos_iff.2 hg
  rw [co_mul]; unfold cv
  rw [sm_one (k := f.length - 1) (by omega)]
  · rw [show f.length + g.length - 2 - (f.length - 1) = g.length - 1 by omega]
  · intro i hi hne
    by_cases h : f.length ≤ i
    · rw [co_ge h]; grind
    · rw [co_ge (f := g) (by omega)]; grind

/-! ### equations between polynomials -/
theorem Eqv.add {f f' g g' : List (Fin p)} (h : Eqv f f') (h' : Eqv g g') : Eqv (add f g) (add f' g') := fun i => by rw [co_add, co_add, h i, h' i]
theorem Eqv.sub {f f' g g' : List (Fin p)} (h : Eqv f f') (h' : Eqv g g') : Eqv (sub f g) (sub f' g') := fun i => by rw [co_sub, co_sub, h i, h' i]
theorem Eqv.mul {f f' g g' : List (Fin p)} (h : Eqv f f') (h' : Eqv g g') : Eqv (mul f g) (mul f' g') := fun i => by rw [co_mul, co_mul, cv_congr h h']
theorem Eqv.smul {f f' : List (Fin p)} (c : Fin p) (h : Eqv f f') : Eqv (smul c f) (smul c f') := fun i => by rw [co_smul, co_smul, h i]
theorem mul_comm (f g : List (Fin p)) : Eqv (mul f g) (mul g f) := fun i => by rw [co_mul, co_mul, cv_comm]
theorem mul_add (f g k : List (Fin p)) : Eqv (mul f (Fld.add g k)) (Fld.add (mul f g) (mul f k)) := fun i => by
  rw [co_mul, co_add, co_mul, co_mul, cv_congr (fun _ => rfl) (co_add g k), cv_add]
theorem add_mul (f g k : List (Fin p)) : Eqv (mul (Fld.add f g) k) (Fld.add (mul f k) (mul g k)) := fun i => by
  rw [co_mul, co_add, co_mul, co_mul, cv_congr (co_add f g) (fun _ => rfl), cv_add']
theorem mul_sub (f g k : List (Fin p)) : Eqv (mul f (Fld.sub g k)) (Fld.sub (mul f g) (mul f k)) := fun i => by
  have h : Eqv (Fld.add (Fld.sub g k) k) g := fun i => by rw [co_add, co_sub]; grind
  have h1 := (mul_add f (Fld.sub g k) k).symm.trans ((Eqv.refl f).mul h) i
  rw [co_add] at h1
  rw [co_sub, ← h1]; grind
theorem sub_mul (f g k : List (Fin p)) : Eqv (mul (Fld.sub f g) k) (Fld.sub (mul f k) (mul g k)) :=
  (mul_comm _ _).trans ((mul_sub k f g).trans ((mul_comm _ _).sub (mul_comm _ _)))
theorem mul_nil (f : List (Fin p)) : Eqv (mul f []) [] := fun i => by
  rw [co_mul, co_nil]; unfold cv; exact sm_zero fun j _ => by rw [co_nil]; grind
theorem mul_one (f : List (Fin p)) : Eqv (mul f [1]) f := fun i => by
  rw [co_mul, cv_comm]; unfold cv
  rw [sm_one (k := 0) (by omega)]
  · rw [co_cons_zero]; show 1 * co f i = co f i; grind
  · intro j _ hj
    obtain ⟨m, rfl⟩ : ∃ m, j = m + 1 := ⟨j - 1, by omega⟩
    rw [co_cons_succ, co_nil]; grind

/-! ### degrees of products, roots -/
theorem trim_mul_length (hp : Pr p) {f g : List (Fin p)} (hf : trim f ≠ []) (hg : trim g ≠ []) : (trim (mul f g)).length + 1 = (trim f).length + (trim g).length := by
  have e : Eqv (mul f g) (mul (trim f) (trim g)) := (trim_co f).symm.mul (trim_co g).symm
  rw [trim_congr e]
  have h1 := List.length_pos_iff.2 hf
  have h2 := List.length_pos_iff.2 hg
  have ht := co_mul_top hf hg
  have hn : co (mul (trim f) (trim g)) ((trim f).length + (trim g).length - 2) ≠ 0 := by
    rw [ht]
    intro h
    rcases mul_eq_zero hp h with h | h
    · exact (Tr.trim f).last hf h
    · exact (Tr.trim g).last hg h
  have hle := trim_length_of (f := mul (trim f) (trim g)) (n := (trim f).length + (trim g).length - 1) (fun i hi => co_mul_ge (by omega))
  have hge : (trim f).length + (trim g).length - 2 < (trim (mul (trim f) (trim g))).length := by
    apply Nat.lt_of_not_le
    intro h
    exact hn (by rw [← trim_co]; exact co_ge h)
  omega
theorem trim_mul_le (f g : List (Fin p)) : (trim (mul f g)).length ≤ f.length + g.length - 1 := trim_length_of fun i hi => co_mul_ge (by omega)
/-- Synthetic division by x - a. -/
theorem root_factor (f : List (Fin p)) (a : Fin p) : ∃ q : List (Fin p), q.length = f.length - 1 ∧ Eqv f (add (mul [-a, 1] q) [ev f a]) := by
  induction f with
  | nil => exact ⟨[], rfl, fun i => by
      rw [co_add, co_mul, ev_nil]
      have : cv (co [-a, 1]) (co []) i = 0 := by unfold cv; exact sm_zero fun j _ => by rw [co_nil]; grind
      rw [this, co_nil]
      cases i with
      | zero => rw [co_cons_zero]; grind
      | succ i => rw [co_cons_succ, co_nil]; grind⟩
  | cons c f ih =>
    obtain ⟨q, hq, he⟩ := ih
    cases f with
    | nil =>
      refine ⟨[], rfl, fun i => ?_⟩
      rw [co_add, co_mul]
      have : cv (co [-a, 1]) (co []) i = 0 := by unfold cv; exact sm_zero fun j _ => by rw [co_nil]; grind
      rw [this, ev_cons, ev_nil]
      cases i with
      | zero => rw [co_cons_zero, co_cons_zero]; grind
      | succ i => rw [co_cons_succ, co_cons_succ]; grind
    | cons d f =>
      refine ⟨ev (d :: f) a :: q, by simp at hq ⊢; omega, fun i => ?_⟩
      have key : ∀ j, co (mul [-a, 1] q) j = co (d :: f) j - co [ev (d :: f) a] j := fun j => by have := he j; rw [co_add] at this; grind
      have hm : ∀ (r : List (Fin p)) j, co (mul [-a, 1] r) j = -a * co r j + (if j = 0 then 0 else co r (j - 1)) := by
        intro r j
        rw [mul, mul, mul, co_add, co_smul]
        cases j with
        | zero => rw [co_cons_zero]; simp
        | succ j =>
          rw [co_cons_succ, co_add, co_smul]
          have : co (0 :: ([] : List (Fin p))) j = 0 := by cases j with
            | zero => rfl
            | succ j => rw [co_cons_succ, co_nil]
          rw [this]; simp; grind
      have hE : ev (c :: d :: f) a = ev (d :: f) a * a + c := rfl
      rw [co_add, hm, hE]
      generalize ev (d :: f) a = z at *
      cases i with
      | zero => rw [co_cons_zero, co_cons_zero, co_cons_zero]; simp; grind
      | succ i =>
        rw [co_cons_succ, co_cons_succ, co_cons_succ, co_nil]
        have k := key i
        rw [hm] at k
        clear he key hm hE
        cases i with
        | zero =>
          simp only [co_cons_zero, co_cons_succ, if_true] at k ⊢
          simp only [Nat.succ_ne_zero, if_false, Nat.add_sub_cancel, Nat.zero_add, Nat.sub_self, co_cons_zero]
          grind
        | succ i =>
          simp only [co_cons_succ, co_nil, Nat.succ_ne_zero, if_false, Nat.add_sub_cancel] at k ⊢
          grind
/-- Not more roots than the degree. -/
theorem roots_le (hp : Pr p) : ∀ (n : Nat) (f : List (Fin p)) (xs : List (Fin p)), xs.Nodup → (∀ x, x ∈ xs → ev f x = 0) → f.length ≤ n → xs.length = n → ∀ i, co f i = 0
  | 0, f, _, _, _, h, _ => by
    intro i; rw [List.eq_nil_of_length_eq_zero (by omega : f.length = 0), co_nil]
  | n + 1, f, xs, hn, hr, h, hl => by
    cases xs with
    | nil => simp at hl
    | cons a xs =>
      obtain ⟨hna, hn⟩ := List.nodup_cons.1 hn
      obtain ⟨q, hq, he⟩ := root_factor f a
      have ha := hr a (by simp)
      have hz : ∀ i, co q i = 0 := by
        refine roots_le hp n q xs hn (fun x hx => ?_) (by omega) (by simpa using hl)
        have h1 := he.ev x
        rw [ev_add, ev_mul, hr x (by simp [hx]), ev_cons, ev_cons, ev_nil, ev_cons, ev_nil, ha] at h1
        have h2 : (x - a) * ev q x = 0 := by grind
        rcases mul_eq_zero hp h2 with h3 | h3
        · exact absurd (by grind : x = a) (by rintro rfl; exact hna hx)
        · exact h3
      intro i
      rw [he i, co_add, co_mul, ha]
      have : cv (co [-a, 1]) (co q) i = 0 := by unfold cv; exact sm_zero fun j _ => by rw [hz]; grind
      rw [this]
      cases i with
      | zero => rw [co_cons_zero]; grind
      | succ i => rw [co_cons_succ, co_nil]; grind
/-- Polynomials of degree less than n that have the same values at n places are the same. -/
theorem unique (hp : Pr p) {f g xs : List (Fin p)} (hn : xs.Nodup) (hf : (trim f).length ≤ xs.length) (hg : (trim g).length ≤ xs.length) (h : ∀ x, x ∈ xs → ev f x = ev g x) : Eqv f g := by
  have e : Eqv (sub (trim f) (trim g)) (sub f g) := (trim_co f).sub (trim_co g)
  have := roots_le hp xs.length (sub (trim f) (trim g)) xs hn (fun x hx => by rw [e.ev, ev_sub, h x hx]; grind) (by rw [sub_length]; omega) rfl
  intro i
  have h1 := (e i).symm.trans (this i)
  rw [co_sub] at h1
  grind
end
end Go.Proofs.Ytjjnfobeeflnhaa.Fld

/- The program's words over the residues modulo a number: numbers, rows of coefficients, sums, products, values. -/
namespace Go.Proofs.Ytjjnfobeeflnhaa.L
open Go.RowKit Go.Proofs.YtjjnfobeeflnhaaW.PrintWords Go.Proofs.Ytjjnfobeeflnhaa.J
set_option linter.unusedVariables false
set_option linter.unusedSimpArgs false

section
variable {q : Nat} [NeZero q]
/-- The number that a residue is. -/
def nI (a : Fin q) : Int := (a.val : Int)
/-- A row of residues as numbers. -/
def oI (f : List (Fin q)) : List Int := f.map nI

theorem q_pos : 0 < q := Nat.pos_of_ne_zero (NeZero.ne q)
end
section
variable {q : Nat}
theorem nI_range (a : Fin q) : 0 ≤ nI a ∧ nI a < (q : Int) := by
  have := a.isLt
  unfold nI; omega
theorem nI_inj {a b : Fin q} (h : nI a = nI b) : a = b := Fin.ext (by unfold nI at h; omega)
end
section
variable {q : Nat} [NeZero q]
theorem nI_zero : nI (0 : Fin q) = 0 := by simp [nI]
theorem nI_eq_zero {a : Fin q} : nI a = 0 ↔ a = 0 := ⟨fun h => nI_inj (h.trans nI_zero.symm), fun h => by rw [h, nI_zero]⟩
theorem nI_one (h : 1 < q) : nI (1 : Fin q) = 1 := by
  have : ((1 : Fin q) : Nat) = 1 % q := rfl
  unfold nI; rw [this, Nat.mod_eq_of_lt h]; rfl
end
section
variable {q : Nat}
theorem nI_of {x : Int} (h0 : 0 ≤ x) (h1 : x < (q : Int)) : ∃ a : Fin q, nI a = x := ⟨⟨x.toNat, by omega⟩, by show ((x.toNat : Nat) : Int) = x; omega⟩
theorem nI_mul (a b : Fin q) : nI (a * b) = nI a * nI b % (q : Int) := by
  unfold nI; rw [Fin.val_mul]; simp
theorem nI_add (a b : Fin q) : nI (a + b) = (nI a + nI b) % (q : Int) := by
  unfold nI; rw [Fin.val_add]; simp
theorem nI_sub (a b : Fin q) : nI (a - b) = (nI a + (q : Int) - nI b) % (q : Int) := by
  have hb := b.isLt
  have e : (a - b).val = (q - b.val + a.val) % q := by rw [Fin.sub_def]
  unfold nI; rw [e]
  have : (a.val : Int) + (q : Int) - (b.val : Int) = ((q - b.val + a.val : Nat) : Int) := by omega
  rw [this]; simp

theorem oI_nil : oI ([] : List (Fin q)) = [] := rfl
theorem oI_cons (a : Fin q) (f : List (Fin q)) : oI (a :: f) = nI a :: oI f := rfl
theorem oI_append (f g : List (Fin q)) : oI (f ++ g) = oI f ++ oI g := by simp [oI]
theorem oI_length (f : List (Fin q)) : (oI f).length = f.length := by simp [oI]
theorem oI_inj : ∀ {f g : List (Fin q)}, oI f = oI g → f = g
  | [], [], _ => rfl
  | [], _ :: _, h => by cases h
  | _ :: _, [], h => by cases h
  | a :: f, b :: g, h => by
    rw [oI_cons, oI_cons] at h
    injection h with h1 h2
    rw [nI_inj h1, oI_inj h2]
theorem oI_range (f : List (Fin q)) : ∀ c ∈ oI f, 0 ≤ c ∧ c < (q : Int) := by
  intro c hc
  obtain ⟨a, _, rfl⟩ := List.mem_map.1 hc
  exact nI_range a
end
section
variable {q : Nat} [NeZero q]
theorem oI_getD (f : List (Fin q)) (i : Nat) : (oI f).getD i 0 = nI (Fld.co f i) := by
  by_cases h : i < f.length
  · rw [Fld.co_lt h]; simp [oI, List.getD_eq_getElem?_getD, h]
  · rw [Fld.co_ge (by omega), nI_zero]; simp [oI, List.getD_eq_getElem?_getD, List.getElem?_eq_none (show f.length ≤ i by omega)]
theorem rd_oI (f : List (Fin q)) (i : Nat) : rd (oI f) (i : Int) = nI (Fld.co f i) := by
  rw [← oI_getD]; simp [rd]
end
section
variable {q : Nat}
theorem oI_set (f : List (Fin q)) (i : Nat) (a : Fin q) : (oI f).set i (nI a) = oI (f.set i a) := by simp [oI, List.map_set]
end
section
variable {q : Nat} [NeZero q]
theorem oI_zeros (n : Nat) : List.replicate n (0 : Int) = oI (List.replicate n (0 : Fin q)) := by simp [oI, nI_zero]
theorem short_oI (f : List (Fin q)) : shortI (oI f) = oI (Fld.trim f) := by
  induction f with
  | nil => rfl
  | cons a f ih =>
    have e : shortI (oI (a :: f)) = if shortI (oI f) = [] ∧ nI a = 0 then [] else nI a :: shortI (oI f) := rfl
    rw [e, ih, Fld.trim_cons]
    by_cases h : Fld.trim f = [] ∧ a = 0
    · rw [if_pos h, if_pos (by rw [h.1, h.2]; exact ⟨rfl, nI_zero⟩)]; rfl
    · rw [if_neg h, if_neg (fun h' => h ⟨oI_inj (h'.1.trans oI_nil.symm), nI_eq_zero.1 h'.2⟩)]; rfl

theorem co_set (f : List (Fin q)) (i : Nat) (a : Fin q) (hi : i < f.length) (s : Nat) : Fld.co (f.set i a) s = if s = i then a else Fld.co f s := by
  unfold Fld.co
  rw [List.getD_eq_getElem?_getD, List.getD_eq_getElem?_getD]
  by_cases h : s = i
  · subst h; rw [if_pos rfl, List.getElem?_set_self hi]; rfl
  · rw [if_neg h, List.getElem?_set_ne (by omega)]
theorem co_zeros (n s : Nat) : Fld.co (List.replicate n (0 : Fin q)) s = 0 := by
  unfold Fld.co
  rw [List.getD_eq_getElem?_getD, List.getElem?_replicate]
  split <;> rfl
/-! what the field's words tell -/
section
variable (hq : q ≤ 65537)
include hq
theorem times_fp (a b : Fin q) : field_Times.f (q : Int) (nI a) (nI b) = some (nI (a * b)) := by
  have hp := q_pos (q := q)
  rw [times_at (by omega) (by omega) (nI_range a).1 (nI_range a).2 (nI_range b).1 (nI_range b).2, nI_mul]
theorem mul_fp (a b : Fin q) : juntoref01_Mul.f (q : Int) (nI a) (nI b) = some (nI (a * b)) := by
  have hp := q_pos (q := q)
  rw [ref_mul (by omega) (by omega) (nI_range a).1 (nI_range a).2 (nI_range b).1 (nI_range b).2, nI_mul]
theorem plus_fp (a b : Fin q) : field_Plus.f (q : Int) (nI a) (nI b) = some (nI (a + b)) := by
  have hp := q_pos (q := q)
  rw [plus_at (by omega) (by omega) (nI_range a).1 (nI_range a).2 (nI_range b).1 (nI_range b).2, nI_add]
theorem add_fp (a b : Fin q) : juntoref01_Add.f (q : Int) (nI a) (nI b) = some (nI (a + b)) := by
  have hp := q_pos (q := q)
  rw [ref_add (by omega) (by omega) (nI_range a).1 (nI_range a).2 (nI_range b).1 (nI_range b).2, nI_add]
theorem fmul_fp (a b : Fin q) : field_mul.f (q : Int) (nI a) (nI b) = some (nI (a * b)) := by
  have := times_fp hq a b
  unfold field_Times.f at this
  generalize field_mul.f (q : Int) (nI a) (nI b) = o at this
  cases o with
  | none => cases this
  | some v => exact this
theorem minus_fp (a b : Fin q) : field_Minus.f (q : Int) (nI a) (nI b) = some (nI (a - b)) := by
  have hp := q_pos (q := q)
  have ha := nI_range a
  have hb := nI_range b
  unfold field_Minus.f
  rw [if_neg (by omega), u64_small (by omega) (by omega), Int.tmod_eq_emod_of_nonneg (by omega)]
  have e : ((q : Int) - nI b) % (q : Int) = nI (0 - b) := by rw [nI_sub, nI_zero, Int.zero_add]
  rw [e, plus_fp hq, Option.bind_some]
  congr 2
  grind
end

/-! rows -/
theorem short_fp (f : List (Fin q)) (hl : f.length ≤ 1000000000) : Ev (fun k => poly_Short.f k (oI f)) (oI (Fld.trim f)) := by
  rw [← short_oI]
  exact ⟨f.length + 1, fun k hk => short_spec (oI f) (by rw [oI_length]; omega) k (by rw [oI_length]; omega)⟩
theorem zip_fp (D : Int → Int → Int) (O : Fin q → Fin q → Fin q) (h : ∀ a b : Fin q, D (nI a) (nI b) = nI (O a b)) (f g : List (Fin q)) : zipI D (oI f) (oI g) = oI (Fld.trim (Fld.mk (max f.length g.length) (fun i => O (Fld.co f i) (Fld.co g i)))) := by
  unfold zipI
  rw [← short_oI, oI_length, oI_length]
  unfold Fld.mk oI
  rw [List.map_map]
  congr 1
  apply List.map_congr_left
  intro i _
  show D ((oI f).getD i 0) ((oI g).getD i 0) = nI (O (Fld.co f i) (Fld.co g i))
  rw [oI_getD, oI_getD, h]
theorem plusI_fp (hq : q ≤ 65537) (f g : List (Fin q)) : plusI (q : Int) (oI f) (oI g) = oI (Fld.trim (Fld.add f g)) :=
  zip_fp _ (· + ·) (fun a b => by rw [plus_fp hq]; rfl) f g
theorem plus_rows (hq : q ≤ 65537) (f g : List (Fin q)) (hf : f.length ≤ 1000000000) (hg : g.length ≤ 1000000000) : Ev (fun k => poly_Plus.f k (q : Int) (oI f) (oI g)) (oI (Fld.trim (Fld.add f g))) := by
  rw [← plusI_fp hq]
  exact ⟨2 * max f.length g.length + 2, fun k hk => plusI_spec (q : Int) (oI f) (oI g) (by rw [oI_length, oI_length]; omega) k (by rw [oI_length, oI_length]; omega)⟩

theorem at_fp (hq : q ≤ 65537) (f : List (Fin q)) (x : Fin q) : valV (q : Int) (nI x) (oI f) = nI (Fld.ev f x) := by
  induction f with
  | nil => exact nI_zero.symm
  | cons a f ih =>
    rw [Fld.ev_cons, nI_add, nI_mul, ← ih]; rfl
theorem at_rows (hq : q ≤ 65537) (f : List (Fin q)) (x : Fin q) : poly_At.f (q : Int) (oI f) (nI x) = some (nI (Fld.ev f x)) := by
  have hp := q_pos (q := q)
  rw [poly_at (by omega) (by omega) (nI_range x).1 (nI_range x).2 (oI f) (oI_range f), at_fp hq]
theorem eval_rows (h1 : 1 < q) (hq : q ≤ 65537) (f : List (Fin q)) (x : Fin q) (hf : f.length ≤ 1000000000) : Ev (fun k => juntoref02_Eval.f k (q : Int) (oI f) (nI x)) (nI (Fld.ev f x)) := by
  have := ref_eval (p := (q : Int)) (x := nI x) (by omega) (by omega) (nI_range x).1 (nI_range x).2 (oI f) (by rw [oI_length]; simp only [maxLen]; omega) (oI_range f)
  rwa [at_fp hq] at this

/-- A row that is filled from the front on. -/
def fill (n j : Nat) (F : Nat → Fin q) : List (Fin q) := Fld.mk n (fun i => if i < j then F i else 0)
theorem fill_zero (n : Nat) (F : Nat → Fin q) : fill n 0 F = List.replicate n 0 := by
  apply List.ext_getElem (by simp [fill, Fld.mk])
  intro i h1 h2
  simp [fill, Fld.mk]
theorem fill_length (n j : Nat) (F : Nat → Fin q) : (fill n j F).length = n := Fld.mk_length _ _
theorem fill_set (n j : Nat) (F : Nat → Fin q) : (fill n j F).set j (F j) = fill n (j + 1) F := by
  apply List.ext_getElem (by simp [fill, Fld.mk])
  intro i h1 h2
  simp only [fill, Fld.mk, List.getElem_set, List.getElem_map, List.getElem_range]
  by_cases h : j = i
  · rw [if_pos h, if_pos (by omega), h]
  · rw [if_neg h]
    by_cases h' : i < j
    · rw [if_pos h', if_pos (by omega)]
    · rw [if_neg h', if_neg (by omega)]
theorem fill_all (n : Nat) (F : Nat → Fin q) : fill n n F = Fld.mk n F := by
  apply List.ext_getElem (by simp [fill, Fld.mk])
  intro i h1 h2
  have : i < n := by simpa [fill, Fld.mk] using h1
  simp [fill, Fld.mk, this]

/-! products -/
/-- What the first i rows of a product come to. -/
def part (f g : List (Fin q)) (i s : Nat) : Fin q := Fld.sm i (fun j => if j ≤ s then Fld.co f j * Fld.co g (s - j) else 0)
theorem part_all (f g : List (Fin q)) (n s : Nat) (h : f.length ≤ n) : part f g n s = Fld.co (Fld.mul f g) s := by
  rw [Fld.co_mul]
  unfold part Fld.cv
  have e : Fld.sm (max n (s + 1)) (fun j => if j ≤ s then Fld.co f j * Fld.co g (s - j) else 0) = Fld.sm n (fun j => if j ≤ s then Fld.co f j * Fld.co g (s - j) else 0) := Fld.sm_more (by omega) fun i h1 h2 => by
    rw [Fld.co_ge (f := f) (by omega)]; split <;> grind
  have e' : Fld.sm (max n (s + 1)) (fun j => if j ≤ s then Fld.co f j * Fld.co g (s - j) else 0) = Fld.sm (s + 1) (fun j => if j ≤ s then Fld.co f j * Fld.co g (s - j) else 0) := Fld.sm_more (by omega) fun i h1 h2 => by
    rw [if_neg (by omega)]
  rw [← e, e']
  exact Fld.sm_congr fun i hi => by rw [if_pos (by omega)]

/-- The row h stands at factor i, k of a product. -/
def At2 (f g h : List (Fin q)) (i k : Nat) : Prop := ∀ s, Fld.co h s = part f g i s + (if i ≤ s ∧ s < i + k then Fld.co f i * Fld.co g (s - i) else 0)
theorem At2.start (f g : List (Fin q)) (n : Nat) : At2 f g (List.replicate n 0) 0 0 := fun s => by
  rw [co_zeros, if_neg (by omega)]; show (0 : Fin q) = 0 + 0; grind
theorem At2.next {f g h : List (Fin q)} {i k : Nat} (H : At2 f g h i k) (hk : i + k < h.length) : At2 f g (h.set (i + k) (Fld.co h (i + k) + Fld.co f i * Fld.co g k)) i (k + 1) := fun s => by
  rw [co_set _ _ _ hk]
  by_cases e : s = i + k
  · subst e
    rw [if_pos rfl, H (i + k), if_neg (by omega), if_pos (by omega), show i + k - i = k by omega]; grind
  · rw [if_neg e, H s]
    by_cases e' : i ≤ s ∧ s < i + k
    · rw [if_pos e', if_pos (by omega)]
    · rw [if_neg e', if_neg (by omega)]
theorem At2.round {f g h : List (Fin q)} {i k : Nat} (H : At2 f g h i k) (hk : g.length ≤ k) : At2 f g h (i + 1) 0 := fun s => by
  rw [H s, if_neg (by omega : ¬ (i + 1 ≤ s ∧ s < i + 1 + 0))]
  have e : part f g (i + 1) s = part f g i s + (if i ≤ s then Fld.co f i * Fld.co g (s - i) else 0) := rfl
  rw [e]
  by_cases h1 : i ≤ s
  · by_cases h2 : s < i + k
    · rw [if_pos ⟨h1, h2⟩, if_pos h1]; grind
    · rw [if_neg (by omega), if_pos h1, Fld.co_ge (f := g) (by omega)]; grind
  · rw [if_neg (by omega), if_neg h1]; grind
theorem At2.last {f g h : List (Fin q)} {i : Nat} (H : At2 f g h i 0) (hi : f.length ≤ i) : Fld.trim h = Fld.trim (Fld.mul f g) := Fld.trim_congr fun s => by
  rw [H s, if_neg (by omega), part_all f g i s hi]; grind

theorem times_inner (hq : q ≤ 65537) (f g : List (Fin q)) (i : Nat) (hi : i < f.length) (hf : f.length ≤ 1000000) (hg : g.length ≤ 1000000) {r : List Int} (next : ∀ h : List (Fin q), h.length = f.length + g.length - 1 → At2 f g h (i + 1) 0 → Ev (fun k => poly_Times.l0 k (q : Int) (oI g) (oI h) (oI f) (f.length : Int) ((i + 1 : Nat) : Int)) r) : ∀ (m j : Nat) (h : List (Fin q)), j + m = g.length → h.length = f.length + g.length - 1 → At2 f g h i j →
    Ev (fun k => poly_Times.l1 k (q : Int) (oI g) (oI h) (i : Int) (nI (Fld.co f i)) (oI f) (f.length : Int) (i : Int) (oI g) (g.length : Int) (j : Int)) r
  | 0, j, h, hj, hh, H => by
    refine Ev.step (f := fun k => poly_Times.l0 k (q : Int) (oI g) (oI h) (oI f) (f.length : Int) ((i + 1 : Nat) : Int)) (fun k => ?_) (next h hh (H.round (by omega)))
    conv => lhs; simp only [poly_Times.l1]
    rw [if_neg (by omega), w64_small (by omega) (by omega)]
    rfl
  | m + 1, j, h, hj, hh, H => by
    refine Ev.step (f := fun k => poly_Times.l1 k (q : Int) (oI g) (oI (h.set (i + j) (Fld.co h (i + j) + Fld.co f i * Fld.co g j))) (i : Int) (nI (Fld.co f i)) (oI f) (f.length : Int) (i : Int) (oI g) (g.length : Int) ((j + 1 : Nat) : Int)) (fun k => ?_) (times_inner hq f g i hi hf hg next m (j + 1) _ (by omega) (by rw [List.length_set]; exact hh) (H.next (by omega)))
    conv => lhs; simp only [poly_Times.l1]
    have hw : wrap64 ((i : Int) + (j : Int)) = ((i + j : Nat) : Int) := by rw [w64_small (by omega) (by omega)]; omega
    rw [if_pos (by omega), if_pos (by omega), if_pos (by rw [oI_length]; omega), hw, if_pos (by omega), if_pos (by rw [oI_length]; omega), rd_oI, rd_oI, times_fp hq, Option.bind_some, plus_fp hq, Option.bind_some, Int.toNat_natCast, oI_set, w64_small (by omega) (by omega)]
    rfl
theorem times_outer (hq : q ≤ 65537) (f g : List (Fin q)) (hf : f.length ≤ 1000000) (hg : g.length ≤ 1000000) : ∀ (m i : Nat) (h : List (Fin q)), i + m = f.length → h.length = f.length + g.length - 1 → At2 f g h i 0 →
    Ev (fun k => poly_Times.l0 k (q : Int) (oI g) (oI h) (oI f) (f.length : Int) (i : Int)) (oI (Fld.trim (Fld.mul f g)))
  | 0, i, h, hi, hh, H => by
    rw [← H.last (by omega)]
    refine Ev.step (f := fun k => (poly_Short.f k (oI h)).bind fun t => some t) (fun k => ?_) (Ev.bind (short_fp _ (by omega)) (Ev.now _))
    simp only [poly_Times.l0]
    rw [if_neg (by omega)]
  | m + 1, i, h, hi, hh, H => by
    refine Ev.step (f := fun k => poly_Times.l1 k (q : Int) (oI g) (oI h) (i : Int) (nI (Fld.co f i)) (oI f) (f.length : Int) (i : Int) (oI g) (g.length : Int) 0) (fun k => ?_) (times_inner hq f g i (by omega) hf hg (fun h' hh' H' => times_outer hq f g hf hg m (i + 1) h' (by omega) hh' H') g.length 0 h (by omega) hh H)
    conv => lhs; simp only [poly_Times.l0]
    rw [if_pos (by omega), if_pos (by omega), if_pos (by rw [oI_length]; omega), rd_oI, oI_length]
theorem times_rows (hq : q ≤ 65537) (f g : List (Fin q)) (hf : f.length ≤ 1000000) (hg : g.length ≤ 1000000) : Ev (fun k => poly_Times.f k (q : Int) (oI f) (oI g)) (oI (Fld.trim (Fld.mul f g))) := by
  by_cases h0 : f = [] ∨ g = []
  · have e : Fld.trim (Fld.mul f g) = [] := by
      rcases h0 with rfl | rfl
      · rfl
      · rw [Fld.trim_congr (Fld.mul_nil f)]; rfl
    rw [e]
    refine Ev.step (f := fun k => some []) (fun k => ?_) (Ev.now _)
    unfold poly_Times.f
    rcases h0 with rfl | rfl
    · rw [if_pos (by rfl)]
      simp only [poly_Times.j0, if_true]
    · by_cases hf0 : ((oI f).length : Int) = 0
      · rw [if_pos hf0]
        simp only [poly_Times.j0, if_true]
      · rw [if_neg hf0]
        simp [poly_Times.j0, oI_nil]
  · have hf0 : 0 < f.length := List.length_pos_iff.2 (fun e => h0 (.inl e))
    have hg0 : 0 < g.length := List.length_pos_iff.2 (fun e => h0 (.inr e))
    refine Ev.step (f := fun k => poly_Times.l0 k (q : Int) (oI g) (oI (List.replicate (f.length + g.length - 1) 0)) (oI f) (f.length : Int) ((0 : Nat) : Int)) (fun k => ?_) (times_outer hq f g hf hg f.length 0 _ (by omega) (by simp) (At2.start f g _))
    unfold poly_Times.f
    have hb : (((oI g).length : Int) == 0) = false := by rw [oI_length, beq_eq_false_iff_ne]; omega
    have hw : wrap64 (wrap64 (((oI f).length : Int) + ((oI g).length : Int)) - 1) = ((f.length + g.length - 1 : Nat) : Int) := by
      rw [oI_length, oI_length, w64_small (n := (f.length : Int) + (g.length : Int)) (by omega) (by omega), w64_small (by omega) (by omega)]; omega
    rw [if_neg (by rw [oI_length]; omega), hb]
    simp only [poly_Times.j0, Bool.false_eq_true, if_false]
    rw [hw, if_pos (by omega), Int.toNat_natCast, if_pos (by omega), ← oI_zeros, oI_length]
    rfl

/-! inverses -/
theorem pow_loop (hq : q ≤ 65537) : ∀ (n : Nat) (e : Nat) (a y : Fin q), e ≤ n → e ≤ 65537 → Ev (fun k => field_pow.l0 k (q : Int) (nI a) (e : Int) (nI y)) (nI (y * a ^ e))
  | 0, e, a, y, h, he => by
    obtain rfl : e = 0 := by omega
    rw [show y * a ^ 0 = y by grind]
    refine Ev.step (f := fun k => some (nI y)) (fun k => ?_) (Ev.now _)
    simp only [field_pow.l0]
    rw [if_neg (by omega)]
  | n + 1, e, a, y, h, he => by
    by_cases h0 : e = 0
    · subst h0
      rw [show y * a ^ 0 = y by grind]
      refine Ev.step (f := fun k => some (nI y)) (fun k => ?_) (Ev.now _)
      simp only [field_pow.l0]
      rw [if_neg (by omega)]
    · have hd : ((e : Int) / 2) = ((e / 2 : Nat) : Int) := by omega
      have hb : Go.bits .and .u64 (e : Int) 1 = ((e % 2 : Nat) : Int) := by rw [and_one_u64 (e : Int) (by omega) (by omega)]; omega
      by_cases h1 : e % 2 = 1
      · have ee : y * a ^ e = y * a * (a * a) ^ (e / 2) := by
          have : e = 2 * (e / 2) + 1 := by omega
          rw [Fld.pow_double]
          generalize e / 2 = z at *
          subst this
          grind
        rw [ee]
        refine Ev.step (f := fun k => field_pow.l0 k (q : Int) (nI (a * a)) ((e / 2 : Nat) : Int) (nI (y * a))) (fun k => ?_) (pow_loop hq n (e / 2) (a * a) (y * a) (by omega) (by omega))
        conv => lhs; simp only [field_pow.l0]
        rw [if_pos (by omega), hb, h1, if_pos (by rfl), fmul_fp hq, Option.bind_some, fmul_fp hq, Option.bind_some, hd]
      · have ee : y * a ^ e = y * (a * a) ^ (e / 2) := by
          have : e = 2 * (e / 2) := by omega
          rw [Fld.pow_double]
          generalize e / 2 = z at *
          subst this
          rfl
        rw [ee]
        refine Ev.step (f := fun k => field_pow.l0 k (q : Int) (nI (a * a)) ((e / 2 : Nat) : Int) (nI y)) (fun k => ?_) (pow_loop hq n (e / 2) (a * a) y (by omega) (by omega))
        conv => lhs; simp only [field_pow.l0]
        rw [if_pos (by omega), hb, if_neg (by omega), fmul_fp hq, Option.bind_some, hd]
theorem over_fp (h1 : 2 < q) (hq : q ≤ 65537) (a : Fin q) : Ev (fun k => field_Over.f k (q : Int) (nI a)) (nI (Fld.inv a)) := by
  unfold field_Over.f field_pow.f
  rw [u64_small (by omega) (by omega)]
  have e : ((q : Int) - 2) = ((q - 2 : Nat) : Int) := by omega
  have e1 : (1 : Int) % (q : Int) = nI (1 : Fin q) := by rw [nI_one (by omega), Int.emod_eq_of_lt (by omega) (by omega)]
  have e2 : Fld.inv a = 1 * a ^ (q - 2) := by unfold Fld.inv; grind
  rw [e, e1, e2]
  refine Ev.bind (f := fun k t => some t) (a := nI (1 * a ^ (q - 2))) ?_ (Ev.now _)
  refine Ev.congr (fun k => if_neg (by omega)) (pow_loop hq (q - 2) (q - 2) a 1 (Nat.le_refl _) (by omega))
end

end Go.Proofs.Ytjjnfobeeflnhaa.L

/- Rows drawn from a tape, rows without noughts at the end, rows compared: what the words tell. -/
namespace Go.Proofs.Ytjjnfobeeflnhaa.L
open Go.RowKit Go.Proofs.YtjjnfobeeflnhaaW.PrintWords Go.Proofs.Ytjjnfobeeflnhaa.J
set_option linter.unusedVariables false
set_option linter.unusedSimpArgs false

/-! rows compared -/
theorem rd_getD (l : List Int) (i : Nat) : rd l (i : Int) = l.getD i 0 := by simp [rd]
/-! rows without noughts at the end -/
theorem trim_loop (l : List Int) (hl : l.length < 17592186044416) : ∀ (n : Nat), n ≤ l.length → Ev (fun k => juntoref02_Trim.l0 k l (n : Int)) (shortI (l.take n))
  | 0, _ => by
    refine Ev.step (f := fun k => some []) (fun k => ?_) (Ev.now _)
    simp only [juntoref02_Trim.l0]
    rw [if_neg (by omega)]
    simp
  | n + 1, hn => by
    have hw : wrap64 (((n + 1 : Nat) : Int) - 1) = (n : Int) := by unfold wrap64; omega
    have hr : rd l (n : Int) = l[n] := by simp [rd, List.getD_eq_getElem?_getD, show n < l.length by omega]
    rw [List.take_succ_eq_append_getElem (by omega), shortI_snoc]
    by_cases hz : l[n] = 0
    · rw [if_pos hz]
      refine Ev.step (f := fun k => juntoref02_Trim.l0 k l (n : Int)) (fun k => ?_) (trim_loop l hl n (by omega))
      conv => lhs; simp only [juntoref02_Trim.l0]
      rw [hw, if_pos (by omega), if_pos (by omega), if_pos (by omega), hr, if_pos hz]
    · rw [if_neg hz]
      refine Ev.step (f := fun k => some (l.take n ++ [l[n]])) (fun k => ?_) (Ev.now _)
      conv => lhs; simp only [juntoref02_Trim.l0]
      rw [hw, if_pos (by omega), if_pos (by omega), if_pos (by omega), hr, if_neg hz, Option.bind_some, if_pos (by omega), if_pos (by omega)]
      rw [show (((n + 1 : Nat) : Int)).toNat = n + 1 by omega, List.take_succ_eq_append_getElem (by omega)]
      rw [if_pos (by simp; omega)]; rfl
theorem trim_at (l : List Int) (hl : l.length < 17592186044416) : Ev (fun k => juntoref02_Trim.f k l) (shortI l) := by
  have := trim_loop l hl l.length (Nat.le_refl _)
  rw [List.take_length] at this
  exact this
section
variable {q : Nat} [NeZero q]
theorem trim_fp (f : List (Fin q)) (hl : f.length ≤ 1000000000) : Ev (fun k => juntoref02_Trim.f k (oI f)) (oI (Fld.trim f)) := by
  rw [← short_oI]
  exact trim_at _ (by rw [oI_length]; omega)

/-! rows drawn from a tape -/
/-- The residue of a number. -/
def resid (q : Nat) [NeZero q] (x : Int) : Fin q := Fin.ofNat q (x % (q : Int)).toNat
/-- The first n numbers of a tape. -/
def drawn (q : Nat) [NeZero q] (tape : List Int) (n : Nat) : List (Fin q) := Fld.mk n (fun i => resid q (tape.getD i 0))
end

end Go.Proofs.Ytjjnfobeeflnhaa.L

/- The reference's words over the residues modulo a prime: sums, differences, products, inverses. -/
namespace Go.Proofs.Ytjjnfobeeflnhaa.L
open Go.RowKit Go.Proofs.YtjjnfobeeflnhaaW.PrintWords Go.Proofs.Ytjjnfobeeflnhaa.J
set_option linter.unusedVariables false
set_option linter.unusedSimpArgs false

section
variable {q : Nat} [NeZero q]
theorem cof_fp (f : List (Fin q)) (i : Nat) : juntoref02_at.f (oI f) (i : Int) = some (nI (Fld.co f i)) := by
  unfold juntoref02_at.f
  rw [oI_length]
  by_cases h : i < f.length
  · rw [if_pos (by omega), if_pos (by omega), rd_oI]
  · rw [if_neg (by omega), Fld.co_ge (by omega), nI_zero]
theorem add_loop (hq : q ≤ 65537) (f g : List (Fin q)) (n : Nat) (hn : n ≤ 1000000000) : ∀ (m i : Nat), i + m = n →
    Ev (fun k => juntoref02_Add.l0 k (q : Int) (oI f) (oI g) (oI (fill n i fun j => Fld.co f j + Fld.co g j)) (n : Int) (i : Int)) (oI (Fld.trim (Fld.mk n fun j => Fld.co f j + Fld.co g j)))
  | 0, i, hi => by
    obtain rfl : i = n := by omega
    refine Ev.step (f := fun k => (juntoref02_Trim.f k (oI (Fld.mk i fun j => Fld.co f j + Fld.co g j))).bind fun t => some t) (fun k => ?_) (Ev.bind (trim_fp _ (by rw [Fld.mk_length]; exact hn)) (Ev.now _))
    simp only [juntoref02_Add.l0]
    rw [if_neg (by omega), fill_all]
  | m + 1, i, hi => by
    refine Ev.step (f := fun k => juntoref02_Add.l0 k (q : Int) (oI f) (oI g) (oI (fill n (i + 1) fun j => Fld.co f j + Fld.co g j)) (n : Int) ((i + 1 : Nat) : Int)) (fun k => ?_) (add_loop hq f g n hn m (i + 1) (by omega))
    conv => lhs; simp only [juntoref02_Add.l0]
    rw [if_pos (by omega), cof_fp, Option.bind_some, cof_fp, Option.bind_some, add_fp hq, Option.bind_some, if_pos (by omega), if_pos (by rw [oI_length, fill_length]; omega), Int.toNat_natCast, oI_set, fill_set n i (fun j => Fld.co f j + Fld.co g j), w64_small (by omega) (by omega)]
    rfl
theorem add_rows (hq : q ≤ 65537) (f g : List (Fin q)) (hf : f.length ≤ 1000000000) (hg : g.length ≤ 1000000000) : Ev (fun k => juntoref02_Add.f k (q : Int) (oI f) (oI g)) (oI (Fld.trim (Fld.add f g))) := by
  have h := add_loop hq f g (max f.length g.length) (by omega) (max f.length g.length) 0 (by omega)
  rw [fill_zero, ← oI_zeros] at h
  refine Ev.congr (fun k => ?_) h
  have e : mx ((oI f).length : Int) ((oI g).length : Int) = ((max f.length g.length : Nat) : Int) := by
    rw [oI_length, oI_length]; unfold mx; split <;> omega
  unfold juntoref02_Add.f
  rw [e, if_pos (by omega), Int.toNat_natCast, if_pos (by omega), Option.bind_some]
  simp
theorem scale_loop (hq : q ≤ 65537) (f : List (Fin q)) (c : Fin q) (hf : f.length ≤ 1000000000) : ∀ (m i : Nat), i + m = f.length →
    Ev (fun k => juntoref02_Scale.l0 k (q : Int) (oI f) (nI c) (oI (fill f.length i fun j => Fld.co f j * c)) (f.length : Int) (i : Int)) (oI (Fld.trim (Fld.mk f.length fun j => Fld.co f j * c)))
  | 0, i, hi => by
    obtain rfl : i = f.length := by omega
    refine Ev.step (f := fun k => (juntoref02_Trim.f k (oI (Fld.mk f.length fun j => Fld.co f j * c))).bind fun t => some t) (fun k => ?_) (Ev.bind (trim_fp _ (by rw [Fld.mk_length]; exact hf)) (Ev.now _))
    simp only [juntoref02_Scale.l0]
    rw [if_neg (by omega), fill_all]
  | m + 1, i, hi => by
    refine Ev.step (f := fun k => juntoref02_Scale.l0 k (q : Int) (oI f) (nI c) (oI (fill f.length (i + 1) fun j => Fld.co f j * c)) (f.length : Int) ((i + 1 : Nat) : Int)) (fun k => ?_) (scale_loop hq f c hf m (i + 1) (by omega))
    conv => lhs; simp only [juntoref02_Scale.l0]
    rw [if_pos (by omega), if_pos (by omega), if_pos (by rw [oI_length]; omega), rd_oI, mul_fp hq, Option.bind_some, if_pos (by rw [oI_length, fill_length]; omega), Int.toNat_natCast, oI_set, fill_set f.length i (fun j => Fld.co f j * c), w64_small (by omega) (by omega)]
    rfl
theorem scale_rows (hq : q ≤ 65537) (f : List (Fin q)) (c : Fin q) (hf : f.length ≤ 1000000000) : Ev (fun k => juntoref02_Scale.f k (q : Int) (oI f) (nI c)) (oI (Fld.trim (Fld.smul c f))) := by
  have e : Fld.Eqv (Fld.mk f.length fun j => Fld.co f j * c) (Fld.smul c f) := fun i => by
    rw [Fld.co_mk, Fld.co_smul]
    split
    · grind
    · rw [Fld.co_ge (f := f) (by omega)]; grind
  rw [← Fld.trim_congr e]
  have h := scale_loop hq f c hf f.length 0 (by omega)
  rw [fill_zero, ← oI_zeros] at h
  refine Ev.congr (fun k => ?_) h
  unfold juntoref02_Scale.f
  rw [oI_length, if_pos (by omega), if_pos (by omega), Int.toNat_natCast]
  rfl
theorem rmul_inner (hq : q ≤ 65537) (f g : List (Fin q)) (i : Nat) (hi : i < f.length) (hf : f.length ≤ 1000000) (hg : g.length ≤ 1000000) {r : List Int} (next : ∀ h : List (Fin q), h.length = f.length + g.length → At2 f g h (i + 1) 0 → Ev (fun k => juntoref02_Mul.l0 k (q : Int) (oI f) (oI g) (oI h) (f.length : Int) ((i + 1 : Nat) : Int)) r) : ∀ (m j : Nat) (h : List (Fin q)), j + m = g.length → h.length = f.length + g.length → At2 f g h i j →
    Ev (fun k => juntoref02_Mul.l1 k (q : Int) (oI f) (oI g) (oI h) (i : Int) (f.length : Int) (i : Int) (g.length : Int) (j : Int)) r
  | 0, j, h, hj, hh, H => by
    refine Ev.step (f := fun k => juntoref02_Mul.l0 k (q : Int) (oI f) (oI g) (oI h) (f.length : Int) ((i + 1 : Nat) : Int)) (fun k => ?_) (next h hh (H.round (by omega)))
    conv => lhs; simp only [juntoref02_Mul.l1]
    rw [if_neg (by omega), w64_small (by omega) (by omega)]
    rfl
  | m + 1, j, h, hj, hh, H => by
    refine Ev.step (f := fun k => juntoref02_Mul.l1 k (q : Int) (oI f) (oI g) (oI (h.set (i + j) (Fld.co h (i + j) + Fld.co f i * Fld.co g j))) (i : Int) (f.length : Int) (i : Int) (g.length : Int) ((j + 1 : Nat) : Int)) (fun k => ?_) (rmul_inner hq f g i hi hf hg next m (j + 1) _ (by omega) (by rw [List.length_set]; exact hh) (H.next (by omega)))
    conv => lhs; simp only [juntoref02_Mul.l1]
    have hw : wrap64 ((i : Int) + (j : Int)) = ((i + j : Nat) : Int) := by rw [w64_small (by omega) (by omega)]; omega
    rw [if_pos (by omega), hw, if_pos (by omega), if_pos (by rw [oI_length]; omega), if_pos (by omega), if_pos (by rw [oI_length]; omega), if_pos (by omega), if_pos (by rw [oI_length]; omega), rd_oI, rd_oI, rd_oI, mul_fp hq, Option.bind_some, add_fp hq, Option.bind_some, Int.toNat_natCast, oI_set, w64_small (by omega) (by omega)]
    rfl
theorem rmul_outer (hq : q ≤ 65537) (f g : List (Fin q)) (hf : f.length ≤ 1000000) (hg : g.length ≤ 1000000) : ∀ (m i : Nat) (h : List (Fin q)), i + m = f.length → h.length = f.length + g.length → At2 f g h i 0 →
    Ev (fun k => juntoref02_Mul.l0 k (q : Int) (oI f) (oI g) (oI h) (f.length : Int) (i : Int)) (oI (Fld.trim (Fld.mul f g)))
  | 0, i, h, hi, hh, H => by
    rw [← H.last (by omega)]
    refine Ev.step (f := fun k => (juntoref02_Trim.f k (oI h)).bind fun t => some t) (fun k => ?_) (Ev.bind (trim_fp _ (by omega)) (Ev.now _))
    simp only [juntoref02_Mul.l0]
    rw [if_neg (by omega)]
  | m + 1, i, h, hi, hh, H => by
    refine Ev.step (f := fun k => juntoref02_Mul.l1 k (q : Int) (oI f) (oI g) (oI h) (i : Int) (f.length : Int) (i : Int) (g.length : Int) ((0 : Nat) : Int)) (fun k => ?_) (rmul_inner hq f g i (by omega) hf hg (fun h' hh' H' => rmul_outer hq f g hf hg m (i + 1) h' (by omega) hh' H') g.length 0 h (by omega) hh H)
    conv => lhs; simp only [juntoref02_Mul.l0]
    rw [if_pos (by omega), oI_length]
    rfl
theorem rmul_rows (hq : q ≤ 65537) (f g : List (Fin q)) (hf : f.length ≤ 1000000) (hg : g.length ≤ 1000000) : Ev (fun k => juntoref02_Mul.f k (q : Int) (oI f) (oI g)) (oI (Fld.trim (Fld.mul f g))) := by
  refine Ev.congr (fun k => ?_) (rmul_outer hq f g hf hg f.length 0 (List.replicate (f.length + g.length) 0) (by omega) (by simp) (At2.start f g _))
  have hw : wrap64 (((oI f).length : Int) + ((oI g).length : Int)) = ((f.length + g.length : Nat) : Int) := by
    rw [oI_length, oI_length, w64_small (by omega) (by omega)]; omega
  unfold juntoref02_Mul.f
  rw [hw, if_pos (by omega), Int.toNat_natCast, if_pos (by omega), ← oI_zeros, oI_length]
  rfl
theorem rsub_fp (hq : q ≤ 65537) (a b : Fin q) : juntoref01_Sub.f (q : Int) (nI a) (nI b) = some (nI (a - b)) := by
  have hp := q_pos (q := q)
  have ha := nI_range a
  have hb := nI_range b
  unfold juntoref01_Sub.f
  rw [if_neg (by omega), u64_small (n := nI a + (q : Int)) (by omega) (by omega), u64_small (by omega) (by omega), Int.tmod_eq_emod_of_nonneg (by omega), nI_sub]
theorem pow_plus (a : Fin q) (m n : Nat) : a ^ (m + n) = a ^ m * a ^ n := by
  induction n with
  | zero => rw [Nat.add_zero]; grind
  | succ n ih =>
    have e : a ^ (m + (n + 1)) = a ^ (m + n) * a := by rw [show m + (n + 1) = (m + n) + 1 by omega]; grind
    have e' : a ^ (n + 1) = a ^ n * a := by grind
    rw [e, e', ih]; grind
theorem rpow_at (h1 : 1 < q) (hq : q ≤ 65537) (a : Fin q) : ∀ (n e : Nat), e ≤ n → e ≤ 65537 → Ev (fun k => juntoref01_Pow.f k (q : Int) (nI a) (e : Int)) (nI (a ^ e))
  | n, e, h, he => by
    by_cases h0 : e = 0
    · subst h0
      rw [show a ^ 0 = (1 : Fin q) by grind, nI_one h1]
      refine Ev.step (f := fun k => some 1) (fun k => ?_) (Ev.now _)
      simp only [juntoref01_Pow.f]
      rw [if_pos (by omega)]
    · cases n with
      | zero => omega
      | succ n =>
        have hd : IntKind.u64.wrap (Int.tdiv (e : Int) 2) = ((e / 2 : Nat) : Int) := by
          rw [Int.tdiv_eq_ediv_of_nonneg (by omega), u64_small (by omega) (by omega)]; omega
        have hm : Int.tmod (e : Int) 2 = ((e % 2 : Nat) : Int) := by
          rw [Int.tmod_eq_emod_of_nonneg (by omega)]; omega
        have ih := rpow_at h1 hq a n (e / 2) (by omega) (by omega)
        by_cases h2 : e % 2 = 1
        · have ee : a ^ e = a ^ (e / 2) * a ^ (e / 2) * a := by
            have h3 : e = e / 2 + e / 2 + 1 := by omega
            have h4 : a ^ e = a ^ (e / 2 + e / 2 + 1) := by rw [← h3]
            rw [h4, pow_plus, pow_plus, show a ^ 1 = a by grind]
          rw [ee]
          refine Ev.step (f := fun k => (juntoref01_Pow.f k (q : Int) (nI a) ((e / 2 : Nat) : Int)).bind fun t => (juntoref01_Mul.f (q : Int) t t).bind fun u => (juntoref01_Mul.f (q : Int) u (nI a)).bind fun v => some v) (fun k => ?_) (Ev.bind ih ?_)
          · simp only [juntoref01_Pow.f]
            rw [if_neg (by omega), hd, hm, h2]
            rfl
          · rw [mul_fp hq, Option.bind_some, mul_fp hq, Option.bind_some]
            exact Ev.now _
        · have ee : a ^ e = a ^ (e / 2) * a ^ (e / 2) := by
            have h3 : e = e / 2 + e / 2 := by omega
            have h4 : a ^ e = a ^ (e / 2 + e / 2) := by rw [← h3]
            rw [h4, pow_plus]
          rw [ee]
          refine Ev.step (f := fun k => (juntoref01_Pow.f k (q : Int) (nI a) ((e / 2 : Nat) : Int)).bind fun t => (juntoref01_Mul.f (q : Int) t t).bind fun u => some u) (fun k => ?_) (Ev.bind ih ?_)
          · simp only [juntoref01_Pow.f]
            rw [if_neg (by omega), hd, hm]
            simp only [show ¬ (((e % 2 : Nat) : Int) = 1) by omega, if_false]
          · rw [mul_fp hq, Option.bind_some]
            exact Ev.now _
theorem rinv_fp (h1 : 2 < q) (hq : q ≤ 65537) (a : Fin q) : Ev (fun k => juntoref01_Inv.f k (q : Int) (nI a)) (nI (Fld.inv a)) := by
  unfold juntoref01_Inv.f
  have e : IntKind.u64.wrap ((q : Int) - 2) = ((q - 2 : Nat) : Int) := by rw [u64_small (by omega) (by omega)]; omega
  rw [e]
  exact Ev.bind (rpow_at (by omega) hq a (q - 2) (q - 2) (Nat.le_refl _) (by omega)) (Ev.now _)

end

/-! parties as numbers -/
/-! tests of rows of coefficients -/
end Go.Proofs.Ytjjnfobeeflnhaa.L

/- Small facts about numbers that came in, setups and rows. -/
namespace Go.Proofs.Ytjjnfobeeflnhaa.L
open Go.RowKit Go.Proofs.YtjjnfobeeflnhaaW.PrintWords Go.Proofs.Ytjjnfobeeflnhaa.J

theorem u64_wf {n : Int} (h : (Lit.int .u64 n).wf = true) : 0 ≤ n ∧ n < 18446744073709551616 := by
  simp [Lit.wf, IntKind.min, IntKind.max, IntKind.signed, IntKind.bits] at h
  omega

end Go.Proofs.Ytjjnfobeeflnhaa.L

/- Both ways to share a polynomial answer alike, and what they answer. -/
namespace Go.Proofs.Ytjjnfobeeflnhaa.L
open Go.RowKit Go.Proofs.YtjjnfobeeflnhaaW.PrintWords Go.Proofs.Ytjjnfobeeflnhaa.J
set_option linter.unusedVariables false
set_option linter.unusedSimpArgs false

section
variable {q : Nat}
theorem mk_succ (n : Nat) (F : Nat → Fin q) : Fld.mk (n + 1) F = Fld.mk n F ++ [F n] := by
  unfold Fld.mk; rw [List.range_succ]; simp
end
end Go.Proofs.Ytjjnfobeeflnhaa.L

/- Division with rest of polynomials over the residues modulo a prime: one step, and that there is but one answer. Plain Lean, no program in sight. -/
namespace Go.Proofs.Ytjjnfobeeflnhaa.Fld
set_option linter.unusedVariables false
set_option linter.unusedSimpArgs false

section
variable {p : Nat} [NeZero p]

theorem div_unique (hp : Pr p) {g Q Q' R R' : List (Fin p)} (hg : trim g ≠ []) (h : Eqv (add (mul Q g) R) (add (mul Q' g) R')) (hR : (trim R).length < (trim g).length) (hR' : (trim R').length < (trim g).length) : Eqv Q Q' ∧ Eqv R R' := by
  have hD : Eqv (mul (sub Q Q') g) (sub R' R) := fun i => by
    have h1 := h i
    rw [co_add, co_add] at h1
    rw [sub_mul Q Q' g i, co_sub, co_sub]
    grind
  by_cases hd : trim (sub Q Q') = []
  · have hQ : Eqv Q Q' := fun i => by
      have : co (sub Q Q') i = 0 := by rw [← trim_co (sub Q Q') i, hd, co_nil]
      rw [co_sub] at this
      grind
    refine ⟨hQ, fun i => ?_⟩
    have h1 := h i
    have h2 := hQ.mul (Eqv.refl g) i
    rw [co_add, co_add, h2] at h1
    grind
  · exfalso
    have h1 := trim_mul_length hp hd hg
    rw [trim_congr hD] at h1
    have h2 := trim_length_of (f := sub R' R) (n := (trim g).length - 1) (fun i hi => by
      rw [co_sub, ← trim_co R' i, ← trim_co R i, co_ge (f := trim R') (by omega), co_ge (f := trim R) (by omega)]; grind)
    have h3 := List.length_pos_iff.2 hd
    have h4 := List.length_pos_iff.2 hg
    omega
end
end Go.Proofs.Ytjjnfobeeflnhaa.Fld

/- Both ways to divide with rest answer alike, and what they answer. -/
namespace Go.Proofs.Ytjjnfobeeflnhaa.L
open Go.RowKit Go.Proofs.YtjjnfobeeflnhaaW.PrintWords Go.Proofs.Ytjjnfobeeflnhaa.J
set_option linter.unusedVariables false
set_option linter.unusedSimpArgs false

theorem pr_of_isP {q : Nat} (h : isP (q : Int) = true) : Fld.Pr q := by
  obtain ⟨h1, h2, h3⟩ := (isP_iff _).1 h
  refine Fld.pr_of_trial (by omega) fun d hd hdd h0 => h3 (d : Int) (by omega) (by exact_mod_cast hdd) (by exact_mod_cast h0)

section
variable {q : Nat} [NeZero q]
/-- What a division with rest answers. -/
def DivOf (f g Q R : List (Fin q)) : Prop := Fld.trim Q = Q ∧ Fld.trim R = R ∧ Fld.Eqv f (Fld.add (Fld.mul Q g) R) ∧ R.length < (Fld.trim g).length ∧ Q.length ≤ f.length
theorem DivOf.unique (hp : Fld.Pr q) {f g Q R Q' R' : List (Fin q)} (hg : Fld.trim g ≠ []) (h : DivOf f g Q R) (h' : DivOf f g Q' R') : Q = Q' ∧ R = R' := by
  obtain ⟨a1, a2, a3, a4, _⟩ := h
  obtain ⟨b1, b2, b3, b4, _⟩ := h'
  obtain ⟨c1, c2⟩ := Fld.div_unique hp hg (a3.symm.trans b3) (by rw [a2]; exact a4) (by rw [b2]; exact b4)
  exact ⟨by rw [← a1, ← b1, Fld.trim_congr c1], by rw [← a2, ← b2, Fld.trim_congr c2]⟩

/-! the program's -/
/-! the reference's -/
end

end Go.Proofs.Ytjjnfobeeflnhaa.L

/- Interpolation over the residues modulo a prime: by differences (Newton) and by basis polynomials (Lagrange). Plain Lean, no program in sight. -/
namespace Go.Proofs.Ytjjnfobeeflnhaa.Fld
set_option linter.unusedVariables false
set_option linter.unusedSimpArgs false

section
variable {p : Nat} [NeZero p]

theorem co_lin (b : Fin p) (r : List (Fin p)) (j : Nat) : co (mul [b, 1] r) j = b * co r j + (if j = 0 then 0 else co r (j - 1)) := by
  rw [mul, mul, mul, co_add, co_smul]
  cases j with
  | zero => rw [co_cons_zero]; simp
  | succ j =>
    rw [co_cons_succ, co_add, co_smul]
    have : co (0 :: ([] : List (Fin p))) j = 0 := by cases j with
      | zero => rfl
      | succ j => rw [co_cons_succ, co_nil]
    rw [this]; simp; grind
theorem ev_lin (b : Fin p) (z : Fin p) : ev [b, 1] z = z + b := by
  rw [ev_cons, ev_cons, ev_nil]; grind
theorem ev_one (c z : Fin p) : ev [c] z = c := by rw [ev_cons, ev_nil]; grind

/-- The product of x minus the places from a on, m of them. -/
def wp (x : Nat → Fin p) (a : Nat) : Nat → List (Fin p)
  | 0 => [1]
  | m + 1 => mul [-(x (a + m)), 1] (wp x a m)
theorem ev_wp (x : Nat → Fin p) (a m : Nat) (z : Fin p) : ev (wp x a (m + 1)) z = (z - x (a + m)) * ev (wp x a m) z := by
  rw [wp, ev_mul, ev_lin]; grind
theorem wp_root (x : Nat → Fin p) (a m k : Nat) (h : k < m) : ev (wp x a m) (x (a + k)) = 0 := by
  induction m with
  | zero => omega
  | succ m ih =>
    rw [ev_wp]
    by_cases e : k = m
    · subst e; grind
    · rw [ih (by omega)]; grind
theorem wp_hi (x : Nat → Fin p) (a m i : Nat) (h : m < i) : co (wp x a m) i = 0 := by
  induction m generalizing i with
  | zero => rw [wp, co_ge (by simp; omega)]
  | succ m ih =>
    rw [wp, co_lin, ih i (by omega), if_neg (by omega), ih (i - 1) (by omega)]; grind
theorem wp_top (x : Nat → Fin p) (a m : Nat) : co (wp x a m) m = 1 := by
  induction m with
  | zero => rfl
  | succ m ih =>
    rw [wp, co_lin, wp_hi x a m (m + 1) (by omega), if_neg (by omega), Nat.add_sub_cancel, ih]; grind

/-- The differences: of step s, at i. -/
def dd (x y : Nat → Fin p) : Nat → Nat → Fin p
  | 0, i => y i
  | s + 1, i => (dd x y s i - dd x y s (i - 1)) * inv (x i - x (i - (s + 1)))
/-- The polynomial by differences, m terms from a on. -/
def nw (x y : Nat → Fin p) (a : Nat) : Nat → List (Fin p)
  | 0 => []
  | m + 1 => add (nw x y a m) (smul (dd x y m (a + m)) (wp x a m))
theorem ev_nw (x y : Nat → Fin p) (a m : Nat) (z : Fin p) : ev (nw x y a (m + 1)) z = ev (nw x y a m) z + dd x y m (a + m) * ev (wp x a m) z := by
  rw [nw, ev_add, ev_smul]
theorem nw_hi (x y : Nat → Fin p) (a m i : Nat) (h : m ≤ i) : co (nw x y a m) i = 0 := by
  induction m with
  | zero => rw [nw, co_nil]
  | succ m ih => rw [nw, co_add, co_smul, ih (by omega), wp_hi x a m i (by omega)]; grind
theorem nw_top (x y : Nat → Fin p) (a m : Nat) : co (nw x y a (m + 1)) m = dd x y m (a + m) := by
  rw [nw, co_add, co_smul, nw_hi x y a m m (Nat.le_refl _), wp_top]; grind

/-- The polynomial by differences has the wanted values. -/
theorem nw_at (hp : Pr p) (x y : Nat → Fin p) (n : Nat) (hx : ∀ i j, i < n → j < n → x i = x j → i = j) : ∀ m a, a + m ≤ n → ∀ k, k < m → ev (nw x y a m) (x (a + k)) = y (a + k)
  | 0, _, _, k, h => by omega
  | 1, a, _, k, h => by
    obtain rfl : k = 0 := by omega
    rw [ev_nw, nw, ev_nil, wp, ev_one, dd]; grind
  | m + 2, a, hn, k, h => by
    have old : ∀ j, j < m + 1 → ev (nw x y a (m + 2)) (x (a + j)) = y (a + j) := fun j hj => by
      rw [ev_nw, wp_root x a (m + 1) j hj, nw_at hp x y n hx (m + 1) a (by omega) j hj]; grind
    by_cases hk : k < m + 1
    · exact old k hk
    obtain rfl : k = m + 1 := by omega
    have ne : x (a + (m + 1)) - x a ≠ 0 := by
      intro e
      have := hx (a + (m + 1)) a (by omega) (by omega) (by grind)
      omega
    let P := sub (sub (mul [-(x a), 1] (nw x y (a + 1) (m + 1))) (mul [-(x (a + (m + 1))), 1] (nw x y a (m + 1)))) (smul (x (a + (m + 1)) - x a) (nw x y a (m + 2)))
    have hP : ∀ i, m + 1 ≤ i → co P i = 0 := fun i hi => by
      show co (sub (sub _ _) _) i = 0
      rw [co_sub, co_sub, co_lin, co_lin, co_smul, nw_hi x y (a + 1) (m + 1) i hi, nw_hi x y a (m + 1) i hi, if_neg (by omega), if_neg (by omega)]
      by_cases e : i = m + 1
      · subst e
        rw [Nat.add_sub_cancel, nw_top, nw_top, nw_top]
        have e1 : dd x y (m + 1) (a + (m + 1)) = (dd x y m (a + (m + 1)) - dd x y m (a + m)) * inv (x (a + (m + 1)) - x a) := by
          rw [dd, show a + (m + 1) - 1 = a + m by omega, show a + (m + 1) - (m + 1) = a by omega]
        have e2 : a + 1 + m = a + (m + 1) := by omega
        have e3 := mul_inv hp ne
        rw [e1, e2]
        generalize inv (x (a + (m + 1)) - x a) = v at *
        grind
      · rw [nw_hi x y (a + 1) (m + 1) (i - 1) (by omega), nw_hi x y a (m + 1) (i - 1) (by omega), nw_hi x y a (m + 2) i (by omega)]; grind
    have evP : ∀ z, ev P z = (z - x a) * ev (nw x y (a + 1) (m + 1)) z - (z - x (a + (m + 1))) * ev (nw x y a (m + 1)) z - (x (a + (m + 1)) - x a) * ev (nw x y a (m + 2)) z := fun z => by
      show ev (sub (sub _ _) _) z = _
      rw [ev_sub, ev_sub, ev_mul, ev_mul, ev_smul, ev_lin, ev_lin]; grind
    have hz : ∀ i, co (trim P) i = 0 := by
      refine roots_le hp (m + 1) (trim P) ((List.range (m + 1)).map fun j => x (a + j)) ?_ ?_ (trim_length_of hP) (by simp)
      · unfold List.Nodup
        rw [List.pairwise_map]
        refine List.Pairwise.imp_of_mem ?_ List.nodup_range
        intro i j hi hj hne e
        have hi := List.mem_range.1 hi
        have hj := List.mem_range.1 hj
        have := hx (a + i) (a + j) (by omega) (by omega) e
        omega
      · intro z hz
        obtain ⟨j, hj, rfl⟩ := List.mem_map.1 hz
        have hj := List.mem_range.1 hj
        rw [(trim_co P).ev, evP, nw_at hp x y n hx (m + 1) a (by omega) j hj, old j hj]
        by_cases j0 : j = 0
        · subst j0; rw [Nat.add_zero]; grind
        · have h1 := nw_at hp x y n hx (m + 1) (a + 1) (by omega) (j - 1) (by omega)
          rw [show a + 1 + (j - 1) = a + j by omega] at h1
          rw [h1]; grind
    have h0 : ev P (x (a + (m + 1))) = 0 := by
      rw [← (trim_co P).ev, ev_sm (trim P) _ (trim P).length (Nat.le_refl _)]
      exact sm_zero fun i _ => by rw [hz]; grind
    rw [evP] at h0
    have h1 := nw_at hp x y n hx (m + 1) (a + 1) (by omega) m (by omega)
    rw [show a + 1 + m = a + (m + 1) by omega] at h1
    rw [h1] at h0
    have h2 : (x (a + (m + 1)) - x a) * ev (nw x y a (m + 2)) (x (a + (m + 1))) = (x (a + (m + 1)) - x a) * y (a + (m + 1)) := by grind
    exact mul_cancel hp ne h2

/-- The polynomial by differences, from its end on. -/
def hn (x d : Nat → Fin p) (n : Nat) : Nat → List (Fin p)
  | 0 => []
  | m + 1 => trim (add (trim (mul (hn x d n m) [-(x (n - (m + 1))), 1])) [d (n - (m + 1))])
theorem ev_hn (x d : Nat → Fin p) (n m : Nat) (z : Fin p) : ev (hn x d n (m + 1)) z = ev (hn x d n m) z * (z - x (n - (m + 1))) + d (n - (m + 1)) := by
  rw [hn, (trim_co _).ev, ev_add, (trim_co _).ev, ev_mul, ev_lin, ev_one]; grind
theorem hn_length (x d : Nat → Fin p) (n m : Nat) : (hn x d n m).length ≤ m := by
  induction m with
  | zero => simp [hn]
  | succ m ih =>
    rw [hn]
    refine trim_length_of fun i hi => ?_
    rw [co_add, trim_co _ i, co_ge (f := [d (n - (m + 1))]) (by simp; omega)]
    rw [co_mul_ge (by simp; omega)]; grind
theorem hn_tr (x d : Nat → Fin p) (n m : Nat) : trim (hn x d n m) = hn x d n m := by
  cases m with
  | zero => rfl
  | succ m => rw [hn, trim_trim]
theorem hn_nw (x y : Nat → Fin p) (n : Nat) (z : Fin p) : ∀ m, m ≤ n → ev (nw x y 0 n) z = ev (nw x y 0 (n - m)) z + ev (wp x 0 (n - m)) z * ev (hn x (fun i => dd x y i i) n m) z
  | 0, _ => by rw [hn, ev_nil, Nat.sub_zero]; grind
  | m + 1, h => by
    rw [hn_nw x y n z m (by omega), ev_hn]
    obtain ⟨c, hc⟩ : ∃ c, c = n - (m + 1) := ⟨_, rfl⟩
    rw [show n - m = c + 1 by omega, ← hc, ev_nw, ev_wp, Nat.zero_add]; grind
theorem hn_at (hp : Pr p) (x y : Nat → Fin p) (n : Nat) (hx : ∀ i j, i < n → j < n → x i = x j → i = j) (k : Nat) (hk : k < n) : ev (hn x (fun i => dd x y i i) n n) (x k) = y k := by
  have h1 := hn_nw x y n (x k) n (Nat.le_refl _)
  have h2 := nw_at hp x y n hx n 0 (by omega) k hk
  rw [Nat.zero_add] at h2
  rw [h2, Nat.sub_self, nw, ev_nil, wp, ev_one] at h1
  rw [h1]; grind

/-! by basis polynomials -/
/-- One basis polynomial: the factors of the first m places but i. -/
def un (x : Nat → Fin p) (i : Nat) : Nat → List (Fin p)
  | 0 => [1]
  | m + 1 => if m = i then un x i m else trim (smul (inv (x i - x m)) (trim (mul (un x i m) [-(x m), 1])))
theorem ev_un (x : Nat → Fin p) (i m : Nat) (z : Fin p) : ev (un x i (m + 1)) z = if m = i then ev (un x i m) z else ev (un x i m) z * ((z - x m) * inv (x i - x m)) := by
  rw [un]
  split
  · rfl
  · rw [(trim_co _).ev, ev_smul, (trim_co _).ev, ev_mul, ev_lin]; grind
theorem un_self (hp : Pr p) (x : Nat → Fin p) (n i : Nat) (hi : i < n) (hx : ∀ i j, i < n → j < n → x i = x j → i = j) : ∀ m, m ≤ n → ev (un x i m) (x i) = 1
  | 0, _ => by rw [un, ev_one]
  | m + 1, h => by
    rw [ev_un, un_self hp x n i hi hx m (by omega)]
    split
    · rfl
    · rename_i hne
      rw [mul_inv hp (fun e => hne (hx m i (by omega) hi (by grind)))]; grind
theorem un_other (x : Nat → Fin p) (i j m : Nat) (hj : j < m) (hne : j ≠ i) : ev (un x i m) (x j) = 0 := by
  induction m with
  | zero => omega
  | succ m ih =>
    rw [ev_un]
    by_cases e : j = m
    · subst e; rw [if_neg hne]; grind
    · rw [ih (by omega)]; split <;> grind
theorem un_length (x : Nat → Fin p) (i : Nat) : ∀ m, (un x i m).length ≤ (if i < m then m else m + 1)
  | 0 => by simp [un]
  | m + 1 => by
    have ih := un_length x i m
    rw [un]
    by_cases e : m = i
    · subst e
      rw [if_pos rfl, if_pos (by omega)]
      rw [if_neg (by omega)] at ih; exact ih
    · rw [if_neg e]
      have h1 := trim_length_le (smul (inv (x i - x m)) (trim (mul (un x i m) [-(x m), 1])))
      rw [smul_length] at h1
      have h2 := trim_mul_le (un x i m) [-(x m), 1]
      simp only [List.length_cons, List.length_nil] at h2
      split at ih <;> split <;> omega
/-- The sum of the first m basis polynomials times the values. -/
def lg (x y : Nat → Fin p) (n : Nat) : Nat → List (Fin p)
  | 0 => []
  | m + 1 => trim (add (lg x y n m) (trim (smul (y m) (un x m n))))
theorem ev_lg (x y : Nat → Fin p) (n m : Nat) (z : Fin p) : ev (lg x y n (m + 1)) z = ev (lg x y n m) z + y m * ev (un x m n) z := by
  rw [lg, (trim_co _).ev, ev_add, (trim_co _).ev, ev_smul]
theorem lg_tr (x y : Nat → Fin p) (n m : Nat) : trim (lg x y n m) = lg x y n m := by
  cases m with
  | zero => rfl
  | succ m => rw [lg, trim_trim]
theorem lg_length (x y : Nat → Fin p) (n m : Nat) (hm : m ≤ n) : (lg x y n m).length ≤ n := by
  induction m with
  | zero => simp [lg]
  | succ m ih =>
    have h1 := trim_length_le (add (lg x y n m) (trim (smul (y m) (un x m n))))
    rw [add_length] at h1
    have h2 := trim_length_le (smul (y m) (un x m n))
    rw [smul_length] at h2
    have h3 := un_length x m n
    rw [if_pos (by omega)] at h3
    have := ih (by omega)
    rw [lg]; omega
theorem lg_at (hp : Pr p) (x y : Nat → Fin p) (n : Nat) (hx : ∀ i j, i < n → j < n → x i = x j → i = j) (k : Nat) (hk : k < n) : ∀ m, m ≤ n → ev (lg x y n m) (x k) = if k < m then y k else 0
  | 0, _ => by rw [lg, ev_nil, if_neg (by omega)]
  | m + 1, h => by
    rw [ev_lg, lg_at hp x y n hx k hk m (by omega)]
    by_cases e : k = m
    · subst e; rw [un_self hp x n k hk hx n (Nat.le_refl _), if_neg (by omega), if_pos (by omega)]; grind
    · rw [un_other x m k n hk e]
      by_cases h' : k < m
      · rw [if_pos h', if_pos (by omega)]; grind
      · rw [if_neg h', if_neg (by omega)]; grind
/-- Both ways give the same polynomial. -/
theorem hn_lg (hp : Pr p) (x y : Nat → Fin p) (n : Nat) (hx : ∀ i j, i < n → j < n → x i = x j → i = j) : hn x (fun i => dd x y i i) n n = lg x y n n := by
  have hd : ((List.range n).map x).Nodup := by
    unfold List.Nodup
    rw [List.pairwise_map]
    refine List.Pairwise.imp_of_mem ?_ List.nodup_range
    intro i j hi hj hne e
    exact hne (hx i j (List.mem_range.1 hi) (List.mem_range.1 hj) e)
  have h := unique hp hd (f := hn x (fun i => dd x y i i) n n) (g := lg x y n n) (by rw [hn_tr]; simpa using hn_length x _ n n) (by rw [lg_tr]; simpa using lg_length x y n n (Nat.le_refl _)) (fun z hz => by
    obtain ⟨k, hk, rfl⟩ := List.mem_map.1 hz
    have hk := List.mem_range.1 hk
    rw [hn_at hp x y n hx k hk, lg_at hp x y n hx k hk n (Nat.le_refl _), if_pos hk])
  rw [← hn_tr, ← lg_tr, trim_congr h]
end
end Go.Proofs.Ytjjnfobeeflnhaa.Fld

/- Both ways to lay a polynomial through points tell the same one: what the words tell. -/
namespace Go.Proofs.Ytjjnfobeeflnhaa.L
open Go.RowKit Go.Proofs.YtjjnfobeeflnhaaW.PrintWords Go.Proofs.Ytjjnfobeeflnhaa.J
set_option linter.unusedVariables false
set_option linter.unusedSimpArgs false

section
variable {q : Nat} [NeZero q]
/-- Points of residues. -/
def ptsF (n : Nat) (X Y : Nat → Fin q) : List S86 := (List.range n).map fun i => (⟨nI (X i), nI (Y i)⟩ : S86)
end
section
variable {q : Nat}
theorem ptsF_length (n : Nat) (X Y : Nat → Fin q) : (ptsF n X Y).length = n := by simp [ptsF]
theorem rd_ptsF (n : Nat) (X Y : Nat → Fin q) (i : Nat) (h : i < n) : rd_T86 (ptsF n X Y) (i : Int) = (⟨nI (X i), nI (Y i)⟩ : S86) := by
  simp [rd_T86, ptsF, List.getD_eq_getElem?_getD, h]
end
section
variable {q : Nat} [NeZero q]
theorem mk_co (n : Nat) (F : Nat → Fin q) (i : Nat) (h : i < n) : Fld.co (Fld.mk n F) i = F i := by rw [Fld.co_mk, if_pos h]
end
section
variable {q : Nat}
theorem mk_congr {n : Nat} {F G : Nat → Fin q} (h : ∀ i, i < n → F i = G i) : Fld.mk n F = Fld.mk n G := by
  unfold Fld.mk
  exact List.map_congr_left fun i hi => h i (List.mem_range.1 hi)
theorem mk_set (n : Nat) (F : Nat → Fin q) (i : Nat) (a : Fin q) (hi : i < n) : (Fld.mk n F).set i a = Fld.mk n (fun j => if j = i then a else F j) := by
  apply List.ext_getElem (by simp [Fld.mk])
  intro j h1 h2
  simp only [Fld.mk, List.getElem_set, List.getElem_map, List.getElem_range]
  by_cases h : i = j
  · rw [if_pos h, if_pos h.symm]
  · rw [if_neg h, if_neg (fun e => h e.symm)]

end
section
variable {q : Nat} [NeZero q]
/-! the program's -/
theorem fit_l3 (h1 : 2 < q) (hq : q ≤ 65537) (n : Nat) (hn : n ≤ 1000) (X Y D : Nat → Fin q) (m : Nat) : ∀ i : Nat, i = m → i ≤ n →
    Ev (fun k => poly_Fit.l3 k (q : Int) (ptsF n X Y) (oI (Fld.mk n D)) (oI (Fld.hn X D n (n - i))) ((i : Int) - 1)) (oI (Fld.hn X D n n)) := by
  induction m with
  | zero =>
    intro i hi hle
    subst hi
    rw [Nat.sub_zero]
    have hs := short_fp (Fld.hn X D n n) (by have := Fld.hn_length X D n n; omega)
    rw [Fld.hn_tr] at hs
    refine Ev.step (f := fun k => (poly_Short.f k (oI (Fld.hn X D n n))).bind fun t903 => some t903) (fun k => ?_) (Ev.bind hs (Ev.now _))
    simp only [poly_Fit.l3]
    rw [if_neg (by omega)]
  | succ m ih =>
    intro i hi hle
    subst hi
    have hw : wrap64 ((m : Int) - 1) = (m : Int) - 1 := w64_small (by omega) (by omega)
    have hi1 : ((m + 1 : Nat) : Int) - 1 = (m : Int) := by omega
    have e0 : (0 : Int) = nI (0 : Fin q) := nI_zero.symm
    have hm : field_Minus.f (q : Int) 0 (nI (X m)) = some (nI (-(X m))) := by
      have := minus_fp hq 0 (X m)
      rw [nI_zero] at this
      rw [this, show (0 : Fin q) - X m = -(X m) by grind]
    have e1 : [nI (-(X m)), (1 : Int)] = oI [-(X m), 1] := by rw [oI_cons, oI_cons, nI_one (by omega)]; rfl
    have e2 : [nI (D m)] = oI [D m] := rfl
    have hl := Fld.hn_length X D n (n - (m + 1))
    have hl2 := Fld.trim_mul_le (Fld.hn X D n (n - (m + 1))) [-(X m), 1]
    simp only [List.length_cons, List.length_nil] at hl2
    have hnext : Fld.hn X D n (n - m) = Fld.trim (Fld.add (Fld.trim (Fld.mul (Fld.hn X D n (n - (m + 1))) [-(X m), 1])) [D m]) := by
      have : n - m = n - (m + 1) + 1 := by omega
      rw [this, Fld.hn, show n - (n - (m + 1) + 1) = m by omega]
    have h := ih m rfl (by omega)
    rw [hnext] at h
    refine Ev.step (f := fun k => (poly_Times.f k (q : Int) (oI (Fld.hn X D n (n - (m + 1)))) (oI [-(X m), 1])).bind fun t893 => (poly_Plus.f k (q : Int) t893 (oI [D m])).bind fun t900 => poly_Fit.l3 k (q : Int) (ptsF n X Y) (oI (Fld.mk n D)) t900 ((m : Int) - 1)) (fun k => ?_) (Ev.bind (times_rows hq _ _ (by omega) (by simp)) (Ev.bind (plus_rows hq _ _ (by omega) (by simp)) h))
    conv => lhs; simp only [poly_Fit.l3]
    rw [hi1, if_pos (by omega), if_pos (by omega), if_pos (by rw [ptsF_length]; omega), rd_ptsF n X Y m (by omega)]
    show ((field_Minus.f (q : Int) 0 (nI (X m))).bind _) = _
    rw [hm, Option.bind_some, e1, oI_length, Fld.mk_length]
    simp only [show ((m : Int) < (n : Int)) by omega, if_true, rd_oI, mk_co n D m (by omega), e2, hw]
theorem fit_l2 (h1 : 2 < q) (hq : q ≤ 65537) (n : Nat) (hn : n ≤ 1000) (X Y : Nat → Fin q) (s : Nat) (hs : s + 1 < n) {r : List Int}
    (next : Ev (fun k => poly_Fit.l1 k (q : Int) (ptsF n X Y) (oI (Fld.mk n fun j => Fld.dd X Y (min (s + 1) j) j)) ((s + 2 : Nat) : Int)) r) (m : Nat) : ∀ i : Nat, i = s + m → i < n →
    Ev (fun k => poly_Fit.l2 k (q : Int) (ptsF n X Y) (oI (Fld.mk n fun j => if i < j then Fld.dd X Y (min (s + 1) j) j else Fld.dd X Y (min s j) j)) ((s + 1 : Nat) : Int) (i : Int)) r := by
  induction m with
  | zero =>
    intro i hi hlt
    obtain rfl : i = s := by omega
    have e : (Fld.mk n fun j => if i < j then Fld.dd X Y (min (i + 1) j) j else Fld.dd X Y (min i j) j) = Fld.mk n fun j => Fld.dd X Y (min (i + 1) j) j := mk_congr fun j hj => by
      by_cases h : i < j
      · rw [if_pos h]
      · rw [if_neg h, show min i j = min (i + 1) j by omega]
    rw [e]
    have hw : wrap64 (((i + 1 : Nat) : Int) + 1) = ((i + 2 : Nat) : Int) := by rw [w64_small (by omega) (by omega)]; omega
    refine Ev.step (f := fun k => poly_Fit.l1 k (q : Int) (ptsF n X Y) (oI (Fld.mk n fun j => Fld.dd X Y (min (i + 1) j) j)) ((i + 2 : Nat) : Int)) (fun k => ?_) next
    conv => lhs; simp only [poly_Fit.l2]
    rw [if_neg (by omega), hw]
  | succ m ih =>
    intro i hi hlt
    have hw1 : wrap64 ((i : Int) - ((s + 1 : Nat) : Int)) = ((i - (s + 1) : Nat) : Int) := by rw [w64_small (by omega) (by omega)]; omega
    have hw2 : wrap64 ((i : Int) - 1) = ((i - 1 : Nat) : Int) := by rw [w64_small (by omega) (by omega)]; omega
    have h := ih (i - 1) (by omega) (by omega)
    have e : ((Fld.mk n fun j => if i < j then Fld.dd X Y (min (s + 1) j) j else Fld.dd X Y (min s j) j).set i ((Fld.dd X Y s i - Fld.dd X Y s (i - 1)) * Fld.inv (X i - X (i - (s + 1))))) = Fld.mk n fun j => if i - 1 < j then Fld.dd X Y (min (s + 1) j) j else Fld.dd X Y (min s j) j := by
      rw [mk_set n _ i _ hlt]
      refine mk_congr fun j hj => ?_
      by_cases h' : j = i
      · subst h'
        rw [if_pos rfl, if_pos (by omega), show min (s + 1) j = s + 1 by omega, Fld.dd]
      · rw [if_neg h']
        by_cases h2 : i < j
        · rw [if_pos h2, if_pos (by omega)]
        · rw [if_neg h2, if_neg (by omega)]
    have c1 : Fld.co (Fld.mk n fun j => if i < j then Fld.dd X Y (min (s + 1) j) j else Fld.dd X Y (min s j) j) i = Fld.dd X Y s i := by
      rw [mk_co n _ i hlt, if_neg (by omega), show min s i = s by omega]
    have c2 : Fld.co (Fld.mk n fun j => if i < j then Fld.dd X Y (min (s + 1) j) j else Fld.dd X Y (min s j) j) (i - 1) = Fld.dd X Y s (i - 1) := by
      rw [mk_co n _ (i - 1) (by omega), if_neg (by omega), show min s (i - 1) = s by omega]
    rw [← e] at h
    generalize Fld.mk n (fun j => if i < j then Fld.dd X Y (min (s + 1) j) j else Fld.dd X Y (min s j) j) = d at *
    have hd : d.length = n := by
      have := congrArg List.length e
      rwa [List.length_set, Fld.mk_length] at this
    refine Ev.step (f := fun k => (field_Over.f k (q : Int) (nI (X i - X (i - (s + 1))))).bind fun t885 => (field_Times.f (q : Int) (nI (Fld.dd X Y s i - Fld.dd X Y s (i - 1))) t885).bind fun t886 => poly_Fit.l2 k (q : Int) (ptsF n X Y) ((oI d).set i t886) ((s + 1 : Nat) : Int) ((i - 1 : Nat) : Int)) (fun k => ?_) (Ev.bind (over_fp h1 hq _) ?_)
    · conv => lhs; simp only [poly_Fit.l2]
      rw [if_pos (by omega), if_pos (by omega), if_pos (by rw [ptsF_length]; omega), hw1, if_pos (by omega), if_pos (by rw [ptsF_length]; omega), rd_ptsF n X Y i hlt, rd_ptsF n X Y (i - (s + 1)) (by omega), minus_fp hq, Option.bind_some, oI_length, hd, if_pos (by omega), hw2, if_pos (by omega), if_pos (by omega), rd_oI, rd_oI, c1, c2, minus_fp hq, Option.bind_some, Int.toNat_natCast]
    · rw [times_fp hq]
      refine Ev.bind (Ev.now _) ?_
      rw [oI_set]
      exact h
theorem fit_l1 (h1 : 2 < q) (hq : q ≤ 65537) (n : Nat) (hn : n ≤ 1000) (X Y : Nat → Fin q) (m : Nat) : ∀ s : Nat, s + 1 + m = max n 1 →
    Ev (fun k => poly_Fit.l1 k (q : Int) (ptsF n X Y) (oI (Fld.mk n fun j => Fld.dd X Y (min s j) j)) ((s + 1 : Nat) : Int)) (oI (Fld.hn X (fun i => Fld.dd X Y i i) n n)) := by
  induction m with
  | zero =>
    intro s hs
    have e : (Fld.mk n fun j => Fld.dd X Y (min s j) j) = Fld.mk n fun j => Fld.dd X Y j j := mk_congr fun j hj => by rw [show min s j = j by omega]
    rw [e]
    have hw : wrap64 ((n : Int) - 1) = (n : Int) - 1 := w64_small (by omega) (by omega)
    have h := fit_l3 h1 hq n hn X Y (fun j => Fld.dd X Y j j) n n rfl (Nat.le_refl _)
    rw [Nat.sub_self] at h
    refine Ev.step (f := fun k => poly_Fit.l3 k (q : Int) (ptsF n X Y) (oI (Fld.mk n fun j => Fld.dd X Y j j)) [] ((n : Int) - 1)) (fun k => ?_) h
    conv => lhs; simp only [poly_Fit.l1]
    rw [ptsF_length, if_neg (by omega), hw]
  | succ m ih =>
    intro s hs
    have hw : wrap64 ((n : Int) - 1) = ((n - 1 : Nat) : Int) := by rw [w64_small (by omega) (by omega)]; omega
    have h := fit_l2 h1 hq n hn X Y s (by omega) (ih (s + 1) (by omega)) (n - 1 - s) (n - 1) (by omega) (by omega)
    have e : (Fld.mk n fun j => if n - 1 < j then Fld.dd X Y (min (s + 1) j) j else Fld.dd X Y (min s j) j) = Fld.mk n fun j => Fld.dd X Y (min s j) j := mk_congr fun j hj => by rw [if_neg (by omega)]
    rw [e] at h
    refine Ev.step (f := fun k => poly_Fit.l2 k (q : Int) (ptsF n X Y) (oI (Fld.mk n fun j => Fld.dd X Y (min s j) j)) ((s + 1 : Nat) : Int) ((n - 1 : Nat) : Int)) (fun k => ?_) h
    conv => lhs; simp only [poly_Fit.l1]
    rw [ptsF_length, if_pos (by omega), hw]
theorem fit_l0 (h1 : 2 < q) (hq : q ≤ 65537) (n : Nat) (hn : n ≤ 1000) (X Y : Nat → Fin q) (m : Nat) : ∀ i : Nat, i + m = n →
    Ev (fun k => poly_Fit.l0 k (q : Int) (ptsF n X Y) (oI (fill n i Y)) (ptsF n X Y) (n : Int) (i : Int)) (oI (Fld.hn X (fun i => Fld.dd X Y i i) n n)) := by
  induction m with
  | zero =>
    intro i hi
    obtain rfl : i = n := by omega
    have h := fit_l1 h1 hq i hn X Y (max i 1 - 1) 0 (by omega)
    have e : (Fld.mk i fun j => Fld.dd X Y (min 0 j) j) = Fld.mk i Y := mk_congr fun j hj => by rw [Nat.zero_min, Fld.dd]
    rw [e] at h
    refine Ev.step (f := fun k => poly_Fit.l1 k (q : Int) (ptsF i X Y) (oI (Fld.mk i Y)) ((0 + 1 : Nat) : Int)) (fun k => ?_) h
    conv => lhs; simp only [poly_Fit.l0]
    rw [if_neg (by omega), fill_all]
    rfl
  | succ m ih =>
    intro i hi
    have hw : wrap64 ((i : Int) + 1) = ((i + 1 : Nat) : Int) := by rw [w64_small (by omega) (by omega)]; omega
    refine Ev.step (f := fun k => poly_Fit.l0 k (q : Int) (ptsF n X Y) (oI (fill n (i + 1) Y)) (ptsF n X Y) (n : Int) ((i + 1 : Nat) : Int)) (fun k => ?_) (ih (i + 1) (by omega))
    conv => lhs; simp only [poly_Fit.l0]
    rw [if_pos (by omega), if_pos (by omega), if_pos (by rw [ptsF_length]; omega), if_pos (by rw [oI_length, fill_length]; omega), rd_ptsF n X Y i (by omega), Int.toNat_natCast, oI_set, fill_set, hw]
theorem fit_rows (h1 : 2 < q) (hq : q ≤ 65537) (n : Nat) (hn : n ≤ 1000) (X Y : Nat → Fin q) : Ev (fun k => poly_Fit.f k (q : Int) (ptsF n X Y)) (oI (Fld.hn X (fun i => Fld.dd X Y i i) n n)) := by
  have h := fit_l0 h1 hq n hn X Y n 0 (by omega)
  rw [fill_zero, ← oI_zeros] at h
  refine Ev.congr (fun k => ?_) h
  unfold poly_Fit.f
  rw [ptsF_length, if_pos (by omega), Int.toNat_natCast, if_pos (by omega)]
  rfl

/-! the reference's -/
end
section
variable {q : Nat}
theorem places_loop (n : Nat) (hn : n ≤ 1000) (X Y : Nat → Fin q) (m : Nat) : ∀ i : Nat, i + m = n → Ev (fun k => juntoref02_Places.l0 k (oI (Fld.mk i X)) (ptsF n X Y) (n : Int) (i : Int)) (oI (Fld.mk n X)) := by
  induction m with
  | zero =>
    intro i hi
    obtain rfl : i = n := by omega
    refine Ev.step (f := fun k => some (oI (Fld.mk i X))) (fun k => ?_) (Ev.now _)
    simp only [juntoref02_Places.l0]
    rw [if_neg (by omega)]
  | succ m ih =>
    intro i hi
    have hw : wrap64 ((i : Int) + 1) = ((i + 1 : Nat) : Int) := by rw [w64_small (by omega) (by omega)]; omega
    have h := ih (i + 1) (by omega)
    rw [mk_succ, oI_append] at h
    refine Ev.step (f := fun k => juntoref02_Places.l0 k (oI (Fld.mk i X) ++ oI [X i]) (ptsF n X Y) (n : Int) ((i + 1 : Nat) : Int)) (fun k => ?_) h
    conv => lhs; simp only [juntoref02_Places.l0]
    rw [if_pos (by omega), if_pos (by omega), if_pos (by rw [ptsF_length]; omega), if_pos (by rw [oI_length, Fld.mk_length]; omega), rd_ptsF n X Y i (by omega), hw]
    rfl
theorem places_rows (n : Nat) (hn : n ≤ 1000) (X Y : Nat → Fin q) : Ev (fun k => juntoref02_Places.f k (ptsF n X Y)) (oI (Fld.mk n X)) := by
  refine Ev.congr (fun k => ?_) (places_loop n hn X Y n 0 (by omega))
  unfold juntoref02_Places.f
  rw [ptsF_length]
  rfl
end
section
variable {q : Nat} [NeZero q]
theorem un_short (X : Nat → Fin q) (i m : Nat) : (Fld.un X i m).length ≤ m + 1 := by
  have := Fld.un_length X i m
  split at this <;> omega
theorem unit_loop (h1 : 2 < q) (hq : q ≤ 65537) (n : Nat) (hn : n ≤ 1000) (X : Nat → Fin q) (i : Nat) (hi : i < n) (m : Nat) : ∀ j : Nat, j + m = n →
    Ev (fun k => juntoref02_unit.l0 k (q : Int) (oI (Fld.mk n X)) (i : Int) (oI (Fld.un X i j)) (oI (Fld.mk n X)) (n : Int) (j : Int)) (oI (Fld.un X i n)) := by
  induction m with
  | zero =>
    intro j hj
    obtain rfl : j = n := by omega
    refine Ev.step (f := fun k => some (oI (Fld.un X i j))) (fun k => ?_) (Ev.now _)
    simp only [juntoref02_unit.l0]
    rw [if_neg (by omega)]
  | succ m ih =>
    intro j hj
    have hw : wrap64 ((j : Int) + 1) = ((j + 1 : Nat) : Int) := by rw [w64_small (by omega) (by omega)]; omega
    have h := ih (j + 1) (by omega)
    have hl := un_short X i j
    rw [Fld.un] at h
    by_cases e : j = i
    · rw [if_pos e] at h
      refine Ev.step (f := fun k => juntoref02_unit.l0 k (q : Int) (oI (Fld.mk n X)) (i : Int) (oI (Fld.un X i j)) (oI (Fld.mk n X)) (n : Int) ((j + 1 : Nat) : Int)) (fun k => ?_) h
      conv => lhs; simp only [juntoref02_unit.l0]
      rw [if_pos (by omega), if_pos (by omega), if_pos (by rw [oI_length, Fld.mk_length]; omega), if_pos (by omega), hw]
    · rw [if_neg e] at h
      have hm : juntoref01_Sub.f (q : Int) 0 (nI (X j)) = some (nI (-(X j))) := by
        have := rsub_fp hq 0 (X j)
        rw [nI_zero] at this
        rw [this, show (0 : Fin q) - X j = -(X j) by grind]
      have e1 : [nI (-(X j)), (1 : Int)] = oI [-(X j), 1] := by rw [oI_cons, oI_cons, nI_one (by omega)]; rfl
      have hl2 := Fld.trim_mul_le (Fld.un X i j) [-(X j), 1]
      simp only [List.length_cons, List.length_nil] at hl2
      refine Ev.step (f := fun k => (juntoref02_Mul.f k (q : Int) (oI (Fld.un X i j)) (oI [-(X j), 1])).bind fun t754 => (juntoref01_Inv.f k (q : Int) (nI (X i - X j))).bind fun t759 => (juntoref02_Scale.f k (q : Int) t754 t759).bind fun t760 => juntoref02_unit.l0 k (q : Int) (oI (Fld.mk n X)) (i : Int) t760 (oI (Fld.mk n X)) (n : Int) ((j + 1 : Nat) : Int)) (fun k => ?_) (Ev.bind (rmul_rows hq _ _ (by omega) (by simp)) (Ev.bind (rinv_fp h1 hq _) (Ev.bind (scale_rows hq _ _ (by omega)) h)))
      conv => lhs; simp only [juntoref02_unit.l0]
      rw [if_pos (by omega), if_pos (by omega), if_pos (by rw [oI_length, Fld.mk_length]; omega), if_neg (by omega), rd_oI, rd_oI, mk_co n X j (by omega), mk_co n X i hi, hm, Option.bind_some, e1, hw]
      simp only [show (0 : Int) ≤ (i : Int) by omega, show ((i : Int) < ((oI (Fld.mk n X)).length : Int)) by rw [oI_length, Fld.mk_length]; omega, if_true, rsub_fp hq, Option.bind_some]
theorem unit_rows (h1 : 2 < q) (hq : q ≤ 65537) (n : Nat) (hn : n ≤ 1000) (X : Nat → Fin q) (i : Nat) (hi : i < n) : Ev (fun k => juntoref02_unit.f k (q : Int) (oI (Fld.mk n X)) (i : Int)) (oI (Fld.un X i n)) := by
  refine Ev.congr (fun k => ?_) (unit_loop h1 hq n hn X i hi n 0 (by omega))
  unfold juntoref02_unit.f
  rw [oI_length, Fld.mk_length, Fld.un, oI_cons, nI_one (by omega)]
  rfl
theorem through_loop (h1 : 2 < q) (hq : q ≤ 65537) (n : Nat) (hn : n ≤ 1000) (X Y : Nat → Fin q) (m : Nat) : ∀ i : Nat, i + m = n →
    Ev (fun k => juntoref02_Through.l0 k (q : Int) (ptsF n X Y) (oI (Fld.lg X Y n i)) (ptsF n X Y) (n : Int) (i : Int)) (oI (Fld.lg X Y n n)) := by
  induction m with
  | zero =>
    intro i hi
    obtain rfl : i = n := by omega
    refine Ev.step (f := fun k => some (oI (Fld.lg X Y i i))) (fun k => ?_) (Ev.now _)
    simp only [juntoref02_Through.l0]
    rw [if_neg (by omega)]
  | succ m ih =>
    intro i hi
    have hw : wrap64 ((i : Int) + 1) = ((i + 1 : Nat) : Int) := by rw [w64_small (by omega) (by omega)]; omega
    have h := ih (i + 1) (by omega)
    rw [Fld.lg] at h
    have hl := un_short X i n
    have hl2 := Fld.trim_length_le (Fld.smul (Y i) (Fld.un X i n))
    rw [Fld.smul_length] at hl2
    have hl3 := Fld.lg_length X Y n i (by omega)
    refine Ev.step (f := fun k => (juntoref02_Places.f k (ptsF n X Y)).bind fun t770 => (juntoref02_unit.f k (q : Int) t770 (i : Int)).bind fun t773 => (juntoref02_Scale.f k (q : Int) t773 (nI (Y i))).bind fun t776 => (juntoref02_Add.f k (q : Int) (oI (Fld.lg X Y n i)) t776).bind fun t779 => juntoref02_Through.l0 k (q : Int) (ptsF n X Y) t779 (ptsF n X Y) (n : Int) ((i + 1 : Nat) : Int)) (fun k => ?_) (Ev.bind (places_rows n hn X Y) (Ev.bind (unit_rows h1 hq n hn X i (by omega)) (Ev.bind (scale_rows hq _ _ (by omega)) (Ev.bind (add_rows hq _ _ (by omega) (by omega)) h))))
    conv => lhs; simp only [juntoref02_Through.l0]
    rw [if_pos (by omega), if_pos (by omega), if_pos (by rw [ptsF_length]; omega), rd_ptsF n X Y i (by omega), hw]
theorem through_rows (h1 : 2 < q) (hq : q ≤ 65537) (n : Nat) (hn : n ≤ 1000) (X Y : Nat → Fin q) : Ev (fun k => juntoref02_Through.f k (q : Int) (ptsF n X Y)) (oI (Fld.lg X Y n n)) := by
  refine Ev.congr (fun k => ?_) (through_loop h1 hq n hn X Y n 0 (by omega))
  unfold juntoref02_Through.f
  rw [ptsF_length]
  rfl

/-! shares as points -/
end

end Go.Proofs.Ytjjnfobeeflnhaa.L

/- The statement ShareSetups as plain Lean: both tests of a setup and both tests of a list of corrupted parties answer alike. -/
namespace Go.Proofs.Ytjjnfobeeflnhaa.L
open Go.RowKit Go.Proofs.YtjjnfobeeflnhaaW.PrintWords Go.Proofs.Ytjjnfobeeflnhaa.J
set_option linter.unusedVariables false
set_option linter.unusedSimpArgs false

theorem alive04 : Ev (fun k => juntolaw04_alive.f k) true := Ev.of juntolaw04_alive.mono (k := 60) (by decide +kernel)

end Go.Proofs.Ytjjnfobeeflnhaa.L
