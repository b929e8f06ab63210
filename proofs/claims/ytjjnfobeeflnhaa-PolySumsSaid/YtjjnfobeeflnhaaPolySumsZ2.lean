/- Part 2 of the proof of PolySums: what the functions compute as plain Lean functions, that the machine comes to just these answers, and that the answer is true; no conditions. -/
import Derived.Test.YtjjnfobeeflnhaaPolySumsZ0
import Derived.Test.YtjjnfobeeflnhaaPolySumsZ1
import Derived.RangeFuncBox
import Derived.RangeFuncLeaves
import Derived.RangeFuncCalls
import Derived.RangeFuncWrites
import Derived.Shelf.Abstract
import Derived.OwnWalkIn
import Derived.TacticsInMore
import Derived.LoopNIn
import Derived.LoopIn
import Derived.Deep.Slices
import Derived.ChangeArms
import Derived.DataReads
import Derived.SizedLaws
import Derived.WideShapes
import Derived.OpenShut
import Derived.Test.YtjjnfobeeflnhaaRows
import Derived.JoinedOf
import Derived.KernelRfl
import Derived.WalkSmall
/- What Go functions of the program compute, as plain Lean functions, and that the machine comes to just these answers (written by a program for this seat). -/
namespace Go.Proofs.Ytjjnfobeeflnhaa.J
open Go.RowKit Go.Proofs.YtjjnfobeeflnhaaW.PrintWords Go.Proofs.YtjjnfobeeflnhaaW.PrintLast Go.Proofs.YtjjnfobeeflnhaaW.PrintMore
attribute [local go_sem] max2_int min2_int max_two min_two max_three min_three max_four min_four   -- for this text's walks alone
set_option linter.unusedVariables false
set_option linter.unusedSimpArgs false

/-! ### poly_Fit: function 149 -/
mutual
def poly_Fit.l0 : Nat → Int → List (S86) → List Int → List (S86) → Int → Int → Option (List Int)
  | 0, _, _, _, _, _, _ => none
  | k + 1, x0, x1, x5, x16, x17, x18 => if x18 < x17 then (if 0 ≤ x18 then (if x18 < (x16.length : Int) then (if x18 < (x5.length : Int) then (poly_Fit.l0 k x0 x1 (x5.set (x18 : Int).toNat ((rd_T86 x16 x18).f1)) x16 x17 (wrap64 (x18 + 1))) else (none)) else (none)) else (none)) else (poly_Fit.l1 k x0 x1 x5 1)
def poly_Fit.l1 : Nat → Int → List (S86) → List Int → Int → Option (List Int)
  | 0, _, _, _, _ => none
  | k + 1, x0, x1, x5, x8 => if x8 < (x1.length : Int) then (poly_Fit.l2 k x0 x1 x5 x8 (wrap64 ((x1.length : Int) - 1))) else (poly_Fit.l3 k x0 x1 x5 ([] : List Int) (wrap64 ((x1.length : Int) - 1)))
def poly_Fit.l2 : Nat → Int → List (S86) → List Int → Int → Int → Option (List Int)
  | 0, _, _, _, _, _ => none
  | k + 1, x0, x1, x5, x8, x9 => if x9 ≥ x8 then (if 0 ≤ x9 then (if x9 < (x1.length : Int) then (if 0 ≤ (wrap64 (x9 - x8)) then (if (wrap64 (x9 - x8)) < (x1.length : Int) then ((field_Minus.f x0 ((rd_T86 x1 x9).f0) ((rd_T86 x1 (wrap64 (x9 - x8))).f0)).bind fun t918 => (if x9 < (x5.length : Int) then (if 0 ≤ (wrap64 (x9 - 1)) then (if (wrap64 (x9 - 1)) < (x5.length : Int) then ((field_Minus.f x0 (rd x5 x9) (rd x5 (wrap64 (x9 - 1)))).bind fun t921 => ((field_Over.f k x0 t918).bind fun t922 => ((field_Times.f x0 t921 t922).bind fun t923 => (poly_Fit.l2 k x0 x1 (x5.set (x9 : Int).toNat t923) x8 (wrap64 (x9 - 1)))))) else (none)) else (none)) else (none))) else (none)) else (none)) else (none)) else (none)) else (poly_Fit.l1 k x0 x1 x5 (wrap64 (x8 + 1)))
def poly_Fit.l3 : Nat → Int → List (S86) → List Int → List Int → Int → Option (List Int)
  | 0, _, _, _, _, _ => none
  | k + 1, x0, x1, x5, x11, x12 => if x12 ≥ 0 then (if 0 ≤ x12 then (if x12 < (x1.length : Int) then ((field_Minus.f x0 0 ((rd_T86 x1 x12).f0)).bind fun t926 => ((poly_Times.f k x0 x11 (([t926, 1] : List Int))).bind fun t930 => (if x12 < (x5.length : Int) then ((poly_Plus.f k x0 t930 (([rd x5 x12] : List Int))).bind fun t937 => (poly_Fit.l3 k x0 x1 x5 t937 (wrap64 (x12 - 1)))) else (none)))) else (none)) else (none)) else ((poly_Short.f k x11).bind fun t940 => (some t940))
end
def poly_Fit.f (k : Nat) (a0 : Int) (l1 : List (S86)) : Option (List Int) := if 0 ≤ (l1.length : Int) then (if ((l1.length : Int) : Int).toNat ≤ 35184372088832 then (poly_Fit.l0 k a0 l1 (List.replicate ((l1.length : Int) : Int).toNat 0) l1 (l1.length : Int) 0) else (none)) else (none)
theorem poly_Fit.mono_l : ∀ k, (∀ y0 y1 y2 y3 y4 y5, LeO (poly_Fit.l0 k y0 y1 y2 y3 y4 y5) (poly_Fit.l0 (k + 1) y0 y1 y2 y3 y4 y5)) ∧ (∀ y0 y1 y2 y3, LeO (poly_Fit.l1 k y0 y1 y2 y3) (poly_Fit.l1 (k + 1) y0 y1 y2 y3)) ∧ (∀ y0 y1 y2 y3 y4, LeO (poly_Fit.l2 k y0 y1 y2 y3 y4) (poly_Fit.l2 (k + 1) y0 y1 y2 y3 y4)) ∧ (∀ y0 y1 y2 y3 y4, LeO (poly_Fit.l3 k y0 y1 y2 y3 y4) (poly_Fit.l3 (k + 1) y0 y1 y2 y3 y4))
  | 0 => ⟨fun _ _ _ _ _ _ r h => by simp [poly_Fit.l0] at h, fun _ _ _ _ r h => by simp [poly_Fit.l1] at h, fun _ _ _ _ _ r h => by simp [poly_Fit.l2] at h, fun _ _ _ _ _ r h => by simp [poly_Fit.l3] at h⟩
  | k + 1 => by
    obtain ⟨ih0, ih1, ih2, ih3⟩ := poly_Fit.mono_l k
    refine ⟨?_, ?_, ?_, ?_⟩
    · intro y0 y1 y2 y3 y4 y5
      unfold poly_Fit.l0
      repeat' first
      | (with_reducible exact ih0 _ _ _ _ _ _)
      | (with_reducible exact ih1 _ _ _ _)
      | (with_reducible exact ih2 _ _ _ _ _)
      | (with_reducible exact ih3 _ _ _ _ _)
      | (with_reducible exact field_Over.mono _ _ _)
      | (with_reducible exact poly_Plus.mono _ _ _ _)
      | (with_reducible exact poly_Short.mono _ _)
      | (with_reducible exact poly_Times.mono _ _ _ _)
      | (with_reducible exact LeO.refl _)
      | (with_reducible exact LeO.none _)
      | (with_reducible refine LeO.ite ?_ ?_)
      | (with_reducible refine LeO.bind ?_ (fun _ => ?_))
      | exact ih0 _ _ _ _ _ _
      | exact ih1 _ _ _ _
      | exact ih2 _ _ _ _ _
      | exact ih3 _ _ _ _ _
      | exact field_Over.mono _ _ _
      | exact poly_Plus.mono _ _ _ _
      | exact poly_Short.mono _ _
      | exact poly_Times.mono _ _ _ _
      | exact LeO.none _
      | refine LeO.ite ?_ ?_
      | refine LeO.bind ?_ (fun _ => ?_)
    · intro y0 y1 y2 y3
      unfold poly_Fit.l1
      repeat' first
      | (with_reducible exact ih0 _ _ _ _ _ _)
      | (with_reducible exact ih1 _ _ _ _)
      | (with_reducible exact ih2 _ _ _ _ _)
      | (with_reducible exact ih3 _ _ _ _ _)
      | (with_reducible exact field_Over.mono _ _ _)
      | (with_reducible exact poly_Plus.mono _ _ _ _)
      | (with_reducible exact poly_Short.mono _ _)
      | (with_reducible exact poly_Times.mono _ _ _ _)
      | (with_reducible exact LeO.refl _)
      | (with_reducible exact LeO.none _)
      | (with_reducible refine LeO.ite ?_ ?_)
      | (with_reducible refine LeO.bind ?_ (fun _ => ?_))
      | exact ih0 _ _ _ _ _ _
      | exact ih1 _ _ _ _
      | exact ih2 _ _ _ _ _
      | exact ih3 _ _ _ _ _
      | exact field_Over.mono _ _ _
      | exact poly_Plus.mono _ _ _ _
      | exact poly_Short.mono _ _
      | exact poly_Times.mono _ _ _ _
      | exact LeO.none _
      | refine LeO.ite ?_ ?_
      | refine LeO.bind ?_ (fun _ => ?_)
    · intro y0 y1 y2 y3 y4
      unfold poly_Fit.l2
      repeat' first
      | (with_reducible exact ih0 _ _ _ _ _ _)
      | (with_reducible exact ih1 _ _ _ _)
      | (with_reducible exact ih2 _ _ _ _ _)
      | (with_reducible exact ih3 _ _ _ _ _)
      | (with_reducible exact field_Over.mono _ _ _)
      | (with_reducible exact poly_Plus.mono _ _ _ _)
      | (with_reducible exact poly_Short.mono _ _)
      | (with_reducible exact poly_Times.mono _ _ _ _)
      | (with_reducible exact LeO.refl _)
      | (with_reducible exact LeO.none _)
      | (with_reducible refine LeO.ite ?_ ?_)
      | (with_reducible refine LeO.bind ?_ (fun _ => ?_))
      | exact ih0 _ _ _ _ _ _
      | exact ih1 _ _ _ _
      | exact ih2 _ _ _ _ _
      | exact ih3 _ _ _ _ _
      | exact field_Over.mono _ _ _
      | exact poly_Plus.mono _ _ _ _
      | exact poly_Short.mono _ _
      | exact poly_Times.mono _ _ _ _
      | exact LeO.none _
      | refine LeO.ite ?_ ?_
      | refine LeO.bind ?_ (fun _ => ?_)
    · intro y0 y1 y2 y3 y4
      unfold poly_Fit.l3
      repeat' first
      | (with_reducible exact ih0 _ _ _ _ _ _)
      | (with_reducible exact ih1 _ _ _ _)
      | (with_reducible exact ih2 _ _ _ _ _)
      | (with_reducible exact ih3 _ _ _ _ _)
      | (with_reducible exact field_Over.mono _ _ _)
      | (with_reducible exact poly_Plus.mono _ _ _ _)
      | (with_reducible exact poly_Short.mono _ _)
      | (with_reducible exact poly_Times.mono _ _ _ _)
      | (with_reducible exact LeO.refl _)
      | (with_reducible exact LeO.none _)
      | (with_reducible refine LeO.ite ?_ ?_)
      | (with_reducible refine LeO.bind ?_ (fun _ => ?_))
      | exact ih0 _ _ _ _ _ _
      | exact ih1 _ _ _ _
      | exact ih2 _ _ _ _ _
      | exact ih3 _ _ _ _ _
      | exact field_Over.mono _ _ _
      | exact poly_Plus.mono _ _ _ _
      | exact poly_Short.mono _ _
      | exact poly_Times.mono _ _ _ _
      | exact LeO.none _
      | refine LeO.ite ?_ ?_
      | refine LeO.bind ?_ (fun _ => ?_)
theorem poly_Fit.mono : ∀ a0 a1 k, LeO (poly_Fit.f k a0 a1) (poly_Fit.f (k + 1) a0 a1) := by
  intro a0 a1 k
  obtain ⟨ih0, ih1, ih2, ih3⟩ := poly_Fit.mono_l k
  unfold poly_Fit.f
  repeat' first
      | (with_reducible exact ih0 _ _ _ _ _ _)
      | (with_reducible exact ih1 _ _ _ _)
      | (with_reducible exact ih2 _ _ _ _ _)
      | (with_reducible exact ih3 _ _ _ _ _)
      | (with_reducible exact field_Over.mono _ _ _)
      | (with_reducible exact poly_Plus.mono _ _ _ _)
      | (with_reducible exact poly_Short.mono _ _)
      | (with_reducible exact poly_Times.mono _ _ _ _)
      | (with_reducible exact LeO.refl _)
      | (with_reducible exact LeO.none _)
      | (with_reducible refine LeO.ite ?_ ?_)
      | (with_reducible refine LeO.bind ?_ (fun _ => ?_))
      | exact ih0 _ _ _ _ _ _
      | exact ih1 _ _ _ _
      | exact ih2 _ _ _ _ _
      | exact ih3 _ _ _ _ _
      | exact field_Over.mono _ _ _
      | exact poly_Plus.mono _ _ _ _
      | exact poly_Short.mono _ _
      | exact poly_Times.mono _ _ _ _
      | exact LeO.none _
      | refine LeO.ite ?_ ?_
      | refine LeO.bind ?_ (fun _ => ?_)
def poly_Fit.T13 : Bool × List (List Nat × List Nat) := (true, [([], []), ([], []), ([], []), ([1, 2], [1, 2]), ([3], [3]), ([4], [4]), ([], []), ([], []), ([], []), ([7, 8], [7, 8]), ([6, 9], [6, 9]), ([10], [10]), ([11], [11]), ([0, 5, 12], [0, 5, 12]), ([13, 13, 0, 1, 2, 3, 4, 5, 6, 7, 8, 9, 10, 11, 12, 13], [13])])
def poly_Fit.B13 : List Nat := [0, 0, 0, 6, 14, 30, 0, 0, 0, 384, 960, 1984, 4032, 8191, 16383]
theorem poly_Fit.tab13 : rtab .any (opsOf Try.f149 13) = poly_Fit.T13 := by kernel_rfl
theorem poly_Fit.bits13 : waitsOk poly_Fit.T13.2 poly_Fit.B13 = true := by kernel_rfl
def poly_Fit.T14 : Bool × List (List Nat × List Nat) := (true, [([], []), ([], []), ([], []), ([], []), ([], []), ([], []), ([4, 5], [4, 5]), ([6], [6]), ([], []), ([], []), ([9], [9]), ([8, 10], [8, 10]), ([11], [11]), ([3, 7, 12], [3, 7, 12]), ([], []), ([], []), ([14, 15, 13], [14, 15]), ([2, 13, 16, 16], [2, 13, 16]), ([0, 1, 0, 1, 2, 3, 4, 5, 6, 7, 8, 9, 10, 11, 12, 13, 14, 15, 16, 17], [0, 1]), ([18, 17, 17, 0, 1, 2, 3, 4, 5, 6, 7, 8, 9, 10, 11, 12, 13, 14, 15, 16, 17], [17, 18])])
def poly_Fit.B14 : List Nat := [0, 0, 0, 0, 0, 0, 48, 112, 0, 0, 512, 1792, 3840, 8184, 0, 0, 65528, 131068, 262143, 524287]
theorem poly_Fit.tab14 : rtab .any (opsOf Try.f149 14) = poly_Fit.T14 := by kernel_rfl
theorem poly_Fit.bits14 : waitsOk poly_Fit.T14.2 poly_Fit.B14 = true := by kernel_rfl
set_option maxHeartbeats 8000000 in
set_option maxRecDepth 100000 in
theorem poly_Fit.calls (k : Nat) (a0 : Int) (A1 : Option Addr) (c1 : Nat) (l1 : List (S86)) (r : List Int) (w : World) (hr1 : Kd.C k86 w A1 l1.length l1) (hc1 : l1.length ≤ c1) (h : poly_Fit.f k a0 l1 = some r) :
    Calls Try.prog 149 #[.int .u64 a0, .slice A1 l1.length c1] w fun e w' => ∃ v0_ : Value, e = .returned (v0_) ∧ Kd.R (Kd.int .u64) 22 w' w.heap.size (fun _ => True) v0_ r ∧ Below w.heap.size w w' := by
  have hu86 := Try.underlying86
  have HR1 := Aside0.mk hr1
  have HC1 := Aside0.mk hc1
  clear hr1 hc1
  have HB := Aside0.mk (Below.refl w.heap.size w)
  have H : (if 0 ≤ (l1.length : Int) then (if ((l1.length : Int) : Int).toNat ≤ 35184372088832 then (poly_Fit.l0 k a0 l1 (List.replicate ((l1.length : Int) : Int).toNat 0) l1 (l1.length : Int) 0) else (none)) else (none)) = some r := h
  clear h
  by_cases c3 : 0 ≤ (l1.length : Int)
  · rw [if_pos c3] at H
    have c3b0 := eq_true c3
    have c3b1 : decide (0 ≤ (l1.length : Int)) = true := decide_eq_true c3
    clear c3
    by_cases c4 : ((l1.length : Int) : Int).toNat ≤ 35184372088832
    · rw [if_pos c4] at H
      have c4b0 := eq_true c4
      have c4b1 : decide (((l1.length : Int) : Int).toNat ≤ 35184372088832) = true := decide_eq_true c4
      clear c4
      obtain ⟨y910, hy910⟩ : ∃ y_ : List Int, y_ = (List.replicate ((l1.length : Int) : Int).toNat 0) := ⟨_, rfl⟩
      replace H : (poly_Fit.l0 k a0 l1 y910 l1 (l1.length : Int) 0) = some r := by first | (rw [hy910]; with_reducible exact H) | (have H2_ := (Option.bind_some _ _).symm.trans H; rw [hy910]; with_reducible exact H2_) | (have H2_ := (Option.bind_some _ _).symm.trans H; with_reducible exact H2_) | with_reducible exact H | (rw [hy910]; exact H) | exact H
      have Ny910 := Aside0.mk hy910
      clear hy910
      have H' := Aside0.mk H
      clear H
      go_enter Try.func149, Try.ntmps149
      go_wp2_with (first | ((with_reducible refine gate_dst (N := 15) rfl ?_); refine Kd.R_make (Kd.int .u64) _ 22 rfl (N := 15) rfl 31 _ _ rfl (l1.length : Int) rfl rfl Try.underlying31 (.int .u64 0) 8 info22 rfl (by decide) (by omega) 0 (ok := fun _ => True) (okp := fun _ => True) rfl (fun _ hk => hk) trivial (of_decide_eq_true (by first | (with_reducible assumption) | assumption)) (Nat.le_trans (Nat.mul_le_mul_right _ (of_decide_eq_true (by first | (with_reducible assumption) | assumption) : (l1.length : Int).toNat ≤ 35184372088832)) (by omega)) (Below.refl _ _) (Nat.le_refl _) ?_; intro v911 w5 ho6 hb hg_ hnew_; clear hg_ hnew_; (first | rw [← Ny910.out] at ho6 | (simp only [Int.reduceToNat] at ho6; rw [← Ny910.out] at ho6)); have n0_ := Aside0.mk (Kd.R_lower ho6 (below_size (by repeat (first | (with_reducible first | exact HB.out | apply below_alloc | apply pw_below_drewN | apply below_drew1) | exact HB.out)))); have n1_ := Aside0.mk (below_step (by repeat (first | (with_reducible first | exact HB.out | apply below_alloc | apply pw_below_drewN | apply below_drew1) | exact HB.out)) hb); clear HB; have HO912 := n0_; have HB := n1_; clear n0_ n1_; clear hb ho6))
      go_loopg [18] k (fun kq v18 w' => ∃ (x5_1 : List Int) (x18_1 : Int), v18 = .int .i64 x18_1 ∧ Aside0 (poly_Fit.l0 kq a0 l1 x5_1 l1 (l1.length : Int) x18_1 = some r) ∧ Aside0 (kq ≤ k) ∧ Aside0 (Kd.R (Kd.int .u64) 22 w' w.heap.size (fun _ => True) v911 x5_1) ∧ Aside0 (Below w.heap.size w w'))
      case atStart => exact ⟨(y910), (0), (by first | rfl | (simp; done) | (simp [*]; done)), H', ⟨Nat.le_refl _⟩, ⟨by (with_reducible repeat (first | apply Kd.R_alloc | apply Kd.R_drewN | apply Kd.R_drew)); exact HO912.out⟩, ⟨by repeat (first | (with_reducible first | exact HB.out | apply below_alloc | apply pw_below_drewN | apply below_drew1) | exact HB.out)⟩⟩
      case round =>
        clear H'
        try clear c1
        try clear p2
        try clear c3
        try clear c3b0
        try clear c3b1
        try clear c4
        try clear c4b0
        try clear c4b1
        obtain ⟨x5_1, x18_1, rfl, HA, HK1, HO_5, HB⟩ := hrel
        cases gk with
        | zero => exact absurd HA.out (by simp [poly_Fit.l0])
        | succ k1 =>
          have H := HA.out
          clear HA
          simp only [poly_Fit.l0] at H
          by_cases c7 : x18_1 < (l1.length : Int)
          · rw [if_pos c7] at H
            have c7b0 : decide (x18_1 < (l1.length : Int)) = true := decide_eq_true c7
            clear c7
            by_cases c8 : 0 ≤ x18_1
            · rw [if_pos c8] at H
              have c8b0 : decide (0 ≤ x18_1) = true := decide_eq_true c8
              clear c8
              by_cases c9 : x18_1 < (l1.length : Int)
              · rw [if_pos c9] at H
                have c9b0 : decide (x18_1 < (l1.length : Int)) = true := decide_eq_true c9
                clear c9
                by_cases c10 : x18_1 < (x5_1.length : Int)
                · rw [if_pos c10] at H
                  have c10b0 : decide (x18_1 < (x5_1.length : Int)) = true := decide_eq_true c10
                  clear c10
                  obtain ⟨y915, hy915⟩ : ∃ y_ : List Int, y_ = (x5_1.set (x18_1 : Int).toNat ((rd_T86 l1 x18_1).f1)) := ⟨_, rfl⟩
                  replace H : (poly_Fit.l0 k1 a0 l1 y915 l1 (l1.length : Int) (wrap64 (x18_1 + 1))) = some r := by first | (rw [hy915]; with_reducible exact H) | (have H2_ := (Option.bind_some _ _).symm.trans H; rw [hy915]; with_reducible exact H2_) | (have H2_ := (Option.bind_some _ _).symm.trans H; with_reducible exact H2_) | with_reducible exact H | (rw [hy915]; exact H) | exact H
                  have Ny915 := Aside0.mk hy915
                  clear hy915
                  have H' := Aside0.mk H
                  clear H
                  have p913 : 0 ≤ (x18_1 : Int) := of_decide_eq_true (by first | (with_reducible assumption) | assumption)
                  have q913 : x18_1 < (l1.length : Int) := of_decide_eq_true (by first | (with_reducible assumption) | assumption)
                  obtain ⟨ad913, e913, hx913_0, hx913_1⟩ := at_T86 HR1.out x18_1 p913 q913
                  cases e913
                  replace hx913_0 := (HB.out.cell (World.block_lt_of_cell? w _ hx913_0)).trans hx913_0
                  replace hx913_1 := (HB.out.cell (World.block_lt_of_cell? w _ hx913_1)).trans hx913_1
                  replace p913 := eq_true p913
                  replace q913 := eq_true q913
                  go_wp2_with (first | ((with_reducible refine gate_dst (N := 7) rfl ?_); refine box_event ?hg (N := 7) ?hd (cs := #[.int .u64 0, .int .u64 0]) (t := 86) ?hr ?_; (case hd => rfl); (case hg => rfl); (case hr => first | (go_simp; done) | (go_simp; rfl)); intro gb914 hg w12 hbox hb; have n0_ := Aside0.mk (Kd.R_below (by (with_reducible repeat (first | apply Kd.R_alloc | apply Kd.R_drewN | apply Kd.R_drew)); exact HO_5.out) hb); have n1_ := Aside0.mk (below_step (by repeat (first | (with_reducible first | exact HB.out | apply below_alloc | apply pw_below_drewN | apply below_drew1) | exact HB.out)) hb); have n2_ := Aside0.mk (hbox); have n3_ := Aside0.mk ((by rw [hg]; exact (below_size (by repeat (first | (with_reducible first | exact HB.out | apply below_alloc | apply pw_below_drewN | apply below_drew1) | exact HB.out))) : w.heap.size ≤ gb914)); have n4_ := Aside0.mk ((by rw [hg]; exact (below_size (by repeat (first | (with_reducible first | exact HB.out | apply below_alloc | apply pw_below_drewN | apply below_drew1) | exact HB.out))) : w.heap.size ≤ gb914)); clear HO_5; clear HB; have HO_5 := n0_; have HB := n1_; have BK914 := n2_; have GW914 := n3_; have GE914 := n4_; clear n0_ n1_ n2_ n3_ n4_; clear hb hbox hg; have hcz13_0 : w12.cell? ⟨gb914, 0, none⟩ = some (.int .u64 0) := (blk_cell BK914.out 0).trans rfl; have hcz13_1 : w12.cell? ⟨gb914, 1, none⟩ = some (.int .u64 0) := (blk_cell BK914.out 1).trans rfl; have hfz13_0 := blk_frozen BK914.out 0; have hfz13_1 := blk_frozen BK914.out 1) | ((with_reducible refine gate_store (t := 86) (p := 7) rfl ?_); refine store_event (t := 86) (p := 7) (v := ?vo_w14) (w1 := ((w12.setCell ⟨gb914, 0, none⟩ (.int .u64 ((rd_T86 l1 x18_1).f0))).setCell ⟨gb914, 1, none⟩ (.int .u64 ((rd_T86 l1 x18_1).f1)))) ?hg ?ho ?hn ?hr ?_; (case ho => rfl); (case hg => rfl); (case hn => rfl); (case hr => first | (go_simp; done) | (go_simp; rfl)); intro w14 hw; have n0_ : Aside0 (Kd.R (Kd.int .u64) 22 w14 w.heap.size (fun _ => True) v911 x5_1) := ⟨(by rw [hw]; exact (by (with_reducible repeat (first | apply Kd.R_alloc | apply Kd.R_drewN | apply Kd.R_drew)); exact Kd.R_mono (Kd.R_far (p := ⟨gb914, 1, none⟩) (Kd.R_far (p := ⟨gb914, 0, none⟩) (Kd.R_types HO_5.out BK914.out (by decide)) (fun _ hk => hk.2) (.int .u64 ((rd_T86 l1 x18_1).f0))) (fun _ hk => hk.2) (.int .u64 ((rd_T86 l1 x18_1).f1))) (fun _ hk => trivial)))⟩; have n1_ : Aside0 (w14.heap[gb914]? = some (.cells #[.int .u64 ((rd_T86 l1 x18_1).f0), .int .u64 ((rd_T86 l1 x18_1).f1)] 86 (0, 0))) := ⟨(by rw [hw]; exact (by (with_reducible repeat (first | refine blk_drewN ?_ _ | refine blk_drew ?_ | refine blk_alloc ?_ _)); refine blk_put (cs := #[.int .u64 ((rd_T86 l1 x18_1).f0), .int .u64 0]) ?_ 1 _ rfl; (with_reducible repeat (first | refine blk_drewN ?_ _ | refine blk_drew ?_ | refine blk_alloc ?_ _)); refine blk_put (cs := #[.int .u64 0, .int .u64 0]) ?_ 0 _ rfl; (with_reducible repeat (first | refine blk_drewN ?_ _ | refine blk_drew ?_ | refine blk_alloc ?_ _)); exact BK914.out))⟩; have n2_ : Aside0 (Below w.heap.size w w14) := ⟨(by rw [hw]; exact (by repeat (first | (with_reducible first | exact HB.out | apply below_alloc | apply pw_below_drewN | apply below_drew1 | refine below_set ?_ GE914.out) | exact HB.out)))⟩; clear hw; clear HO_5; clear BK914; clear HB; have HO_5 := n0_; have BK914 := n1_; have HB := n2_; clear n0_ n1_ n2_; have hcz15_0 : w14.cell? ⟨gb914, 0, none⟩ = some (.int .u64 ((rd_T86 l1 x18_1).f0)) := (blk_cell BK914.out 0).trans rfl; have hcz15_1 : w14.cell? ⟨gb914, 1, none⟩ = some (.int .u64 ((rd_T86 l1 x18_1).f1)) := (blk_cell BK914.out 1).trans rfl; have hfz15_0 := blk_frozen BK914.out 0; have hfz15_1 := blk_frozen BK914.out 1; have p11 : 0 ≤ (x18_1 : Int) := of_decide_eq_true (by first | (with_reducible assumption) | assumption); have q11 : (x18_1 : Int) < ((x5_1.length : Int) : Int) := of_decide_eq_true (by first | (with_reducible assumption) | assumption); obtain ⟨go11, co11, eo11, gb11, gl11, cl11, HG11⟩ := Kd.R_form HO_5.out (by omega); (first | cases eo11 | (injection eo11 with ea_ en_ ec_; (first | subst ea_ | (injection ea_ with ea_; subst ea_)); subst ec_; clear en_)); have GB11 := Aside0.mk gb11; have GG11 := Aside0.mk HG11; clear gb11 gl11 HG11; obtain ⟨hx11_0, hf11_0⟩ := Kd.R_celln 0 HO_5.out (x18_1 : Int) p11 q11; replace p11 := eq_true p11; replace q11 := eq_true q11; obtain ⟨hy16_, hz16_⟩ := Kd.R_celln 0 HO_5.out (x18_1 : Int) (of_decide_eq_true (by first | (with_reducible assumption) | assumption)) (of_decide_eq_true (by first | (with_reducible assumption) | assumption)); have HP16 := Kd.R_putg HO_5.out (x18_1 : Int) ((rd_T86 l1 x18_1).f1)) | ((with_reducible refine gate_store (t := 22) (p := 27) rfl ?_); refine store_event (t := 22) (p := 27) (v := ?vo_w17) (w1 := (w14.setCell ⟨go11, (x18_1 : Int).toNat, none⟩ (.int .u64 ((rd_T86 l1 x18_1).f1)))) ?hg ?ho ?hn ?hr ?_; (case ho => rfl); (case hg => rfl); (case hn => rfl); (case hr => first | (go_simp; done) | (go_simp; rfl)); intro w17 hw; have hg : w14.grownBy w17 (some go11) := (by rw [hw]; exact HP16.2); have hp_ : Kd.R (Kd.int .u64) 22 w17 w.heap.size (fun _ => True) (.slice (some ⟨go11, 0, none⟩) x5_1.length co11) y915 := (by rw [hw, Ny915.out]; exact HP16.1); clear HP16; have n0_ := Aside0.mk (hp_); have n1_ := Aside0.mk (blk_grown (g := gb914) (o := .cells #[.int .u64 ((rd_T86 l1 x18_1).f0), .int .u64 ((rd_T86 l1 x18_1).f1)] 86 (0, 0)) (by (with_reducible repeat (first | refine blk_drewN ?_ _ | refine blk_drew ?_ | refine blk_alloc ?_ _)); exact BK914.out) hg (Kd.R_ne HO_5.out BK914.out (by decide))); have n2_ := Aside0.mk ((by rw [hw]; exact below_set (HB.out) GB11.out : Below w.heap.size w w17)); clear HO_5; clear BK914; clear HB; have HO_5 := n0_; have BK914 := n1_; have HB := n2_; clear n0_ n1_ n2_; clear hg hw hp_))
                  go_roundg k1
                  case measure => have := HK1.out; omega
                  case rel => exact ⟨(y915), (wrap64 (x18_1 + 1)), (by first | rfl | (simp; done) | (simp [*]; done)), H', ⟨by have := HK1.out; omega⟩, ⟨by (with_reducible repeat (first | apply Kd.R_alloc | apply Kd.R_drewN | apply Kd.R_drew)); exact HO_5.out⟩, ⟨by repeat (first | (with_reducible first | exact HB.out | apply below_alloc | apply pw_below_drewN | apply below_drew1 | refine below_set ?_ GE914.out) | exact HB.out)⟩⟩
                · rw [if_neg c10] at H
                  exact absurd H (by simp)
              · rw [if_neg c9] at H
                exact absurd H (by simp)
            · rw [if_neg c8] at H
              exact absurd H (by simp)
          · rw [if_neg c7] at H
            have c7b0 : decide (x18_1 < (l1.length : Int)) = false := decide_eq_false c7
            clear c7
            have H' := Aside0.mk H
            clear H
            go_wp2
            go_loopg [8] k1 (fun kq v8 w' => ∃ (x5_2 : List Int) (x8_2 : Int), v8 = .int .i64 x8_2 ∧ Aside0 (poly_Fit.l1 kq a0 l1 x5_2 x8_2 = some r) ∧ Aside0 (kq ≤ k1) ∧ Aside0 (Kd.R (Kd.int .u64) 22 w' w.heap.size (fun _ => True) v911 x5_2) ∧ Aside0 (Below w.heap.size w w'))
            case atStart => exact ⟨(x5_1), (1), (by first | rfl | (simp; done) | (simp [*]; done)), H', ⟨Nat.le_refl _⟩, ⟨by (with_reducible repeat (first | apply Kd.R_alloc | apply Kd.R_drewN | apply Kd.R_drew)); exact HO_5.out⟩, ⟨by repeat (first | (with_reducible first | exact HB.out | apply below_alloc | apply pw_below_drewN | apply below_drew1) | exact HB.out)⟩⟩
            case round =>
              clear H'
              try clear c1
              try clear p1
              try clear q1
              try clear hx1
              try clear p2
              try clear c3
              try clear c3b0
              try clear c3b1
              try clear c4
              try clear c4b0
              try clear c4b1
              try clear p6
              try clear c7
              try clear c7b0
              try clear c8
              try clear c8b0
              try clear c9
              try clear c9b0
              try clear p9
              try clear q9
              try clear hx9
              try clear c10
              try clear c10b0
              try clear p11
              try clear q11
              try clear hx11
              try clear hf11
              try clear c14
              try clear hcz13_0
              try clear hcz13_1
              try clear hcz15_0
              try clear hcz15_1
              try clear hfz13_0
              try clear hfz13_1
              try clear hfz15_0
              try clear hfz15_1
              try clear hx11_0
              try clear hx913_0
              try clear hx913_1
              try clear p11
              try clear p2
              try clear p913
              try clear q11
              try clear q913
              obtain ⟨x5_2, x8_2, rfl, HA, HK2, HO_5, HB⟩ := hrel
              cases gk with
              | zero => exact absurd HA.out (by simp [poly_Fit.l1])
              | succ k2 =>
                have H := HA.out
                clear HA
                simp only [poly_Fit.l1] at H
                by_cases c18 : x8_2 < (l1.length : Int)
                · rw [if_pos c18] at H
                  have c18b0 : decide (x8_2 < (l1.length : Int)) = true := decide_eq_true c18
                  clear c18
                  have H' := Aside0.mk H
                  clear H
                  go_wp2
                  go_loopg [9] k2 (fun kq v9 w' => ∃ (x5_3 : List Int) (x9_3 : Int), v9 = .int .i64 x9_3 ∧ Aside0 (poly_Fit.l2 kq a0 l1 x5_3 x8_2 x9_3 = some r) ∧ Aside0 (kq ≤ k2) ∧ Aside0 (Kd.R (Kd.int .u64) 22 w' w.heap.size (fun _ => True) v911 x5_3) ∧ Aside0 (Below w.heap.size w w'))
                  case atStart => exact ⟨(x5_2), (wrap64 ((l1.length : Int) - 1)), (by first | rfl | (simp; done) | (simp [*]; done)), H', ⟨Nat.le_refl _⟩, ⟨by (with_reducible repeat (first | apply Kd.R_alloc | apply Kd.R_drewN | apply Kd.R_drew)); exact HO_5.out⟩, ⟨by repeat (first | (with_reducible first | exact HB.out | apply below_alloc | apply pw_below_drewN | apply below_drew1) | exact HB.out)⟩⟩
                  case round =>
                    clear H'
                    try clear c1
                    try clear p1
                    try clear q1
                    try clear hx1
                    try clear p2
                    try clear c3
                    try clear c3b0
                    try clear c3b1
                    try clear c4
                    try clear c4b0
                    try clear c4b1
                    try clear p6
                    try clear c7
                    try clear c7b0
                    try clear c8
                    try clear c8b0
                    try clear c9
                    try clear c9b0
                    try clear p9
                    try clear q9
                    try clear hx9
                    try clear c10
                    try clear c10b0
                    try clear p11
                    try clear q11
                    try clear hx11
                    try clear hf11
                    try clear c14
                    try clear c18
                    try clear c18b0
                    try clear hcz13_0
                    try clear hcz13_1
                    try clear hcz15_0
                    try clear hcz15_1
                    try clear hfz13_0
                    try clear hfz13_1
                    try clear hfz15_0
                    try clear hfz15_1
                    try clear hx11_0
                    try clear hx913_0
                    try clear hx913_1
                    try clear p1
                    try clear p11
                    try clear p2
                    try clear p6
                    try clear p9
                    try clear p913
                    try clear q1
                    try clear q11
                    try clear q9
                    try clear q913
                    obtain ⟨x5_3, x9_3, rfl, HA, HK3, HO_5, HB⟩ := hrel
                    cases gk with
                    | zero => exact absurd HA.out (by simp [poly_Fit.l2])
                    | succ k3 =>
                      have H := HA.out
                      clear HA
                      simp only [poly_Fit.l2] at H
                      by_cases c19 : x9_3 ≥ x8_2
                      · rw [if_pos c19] at H
                        have c19b0 : decide (x8_2 ≤ x9_3) = true := decide_eq_true c19
                        clear c19
                        by_cases c20 : 0 ≤ x9_3
                        · rw [if_pos c20] at H
                          have c20b0 : decide (0 ≤ x9_3) = true := decide_eq_true c20
                          clear c20
                          by_cases c21 : x9_3 < (l1.length : Int)
                          · rw [if_pos c21] at H
                            have c21b0 : decide (x9_3 < (l1.length : Int)) = true := decide_eq_true c21
                            clear c21
                            obtain ⟨ji22, hji22⟩ : ∃ j_ : Int, (wrap64 (x9_3 - x8_2)) = j_ := ⟨_, rfl⟩
                            replace H : (if 0 ≤ (ji22) then (if (ji22) < (l1.length : Int) then ((field_Minus.f a0 ((rd_T86 l1 x9_3).f0) ((rd_T86 l1 (ji22)).f0)).bind fun t918 => (if x9_3 < (x5_3.length : Int) then (if 0 ≤ (wrap64 (x9_3 - 1)) then (if (wrap64 (x9_3 - 1)) < (x5_3.length : Int) then ((field_Minus.f a0 (rd x5_3 x9_3) (rd x5_3 (wrap64 (x9_3 - 1)))).bind fun t921 => ((field_Over.f k3 a0 t918).bind fun t922 => ((field_Times.f a0 t921 t922).bind fun t923 => (poly_Fit.l2 k3 a0 l1 (x5_3.set (x9_3 : Int).toNat t923) x8_2 (wrap64 (x9_3 - 1)))))) else (none)) else (none)) else (none))) else (none)) else (none)) = some r := by first | (rw [hji22] at H; exact H) | (simp only [hji22] at H ⊢; exact H)
                            have hji22w : (IntKind.i64.wrap (x9_3 - x8_2)) = ji22 := (i64_w _).trans hji22
                            by_cases c23 : 0 ≤ (ji22)
                            · rw [if_pos c23] at H
                              have c23b0 : decide (0 ≤ (ji22)) = true := decide_eq_true c23
                              clear c23
                              by_cases c24 : (ji22) < (l1.length : Int)
                              · rw [if_pos c24] at H
                                have c24b0 : decide ((ji22) < (l1.length : Int)) = true := decide_eq_true c24
                                clear c24
                                replace H := Option.bind_eq_some_iff.mp H
                                obtain ⟨t918, A250, H⟩ := H
                                replace H : (if x9_3 < (x5_3.length : Int) then (if 0 ≤ (wrap64 (x9_3 - 1)) then (if (wrap64 (x9_3 - 1)) < (x5_3.length : Int) then ((field_Minus.f a0 (rd x5_3 x9_3) (rd x5_3 (wrap64 (x9_3 - 1)))).bind fun t921 => ((field_Over.f k3 a0 t918).bind fun t922 => ((field_Times.f a0 t921 t922).bind fun t923 => (poly_Fit.l2 k3 a0 l1 (x5_3.set (x9_3 : Int).toNat t923) x8_2 (wrap64 (x9_3 - 1)))))) else (none)) else (none)) else (none)) = some r := H
                                have A25 := Aside0.mk A250
                                clear A250
                                by_cases c26 : x9_3 < (x5_3.length : Int)
                                · rw [if_pos c26] at H
                                  have c26b0 : decide (x9_3 < (x5_3.length : Int)) = true := decide_eq_true c26
                                  clear c26
                                  obtain ⟨ji27, hji27⟩ : ∃ j_ : Int, (wrap64 (x9_3 - 1)) = j_ := ⟨_, rfl⟩
                                  replace H : (if 0 ≤ (ji27) then (if (ji27) < (x5_3.length : Int) then ((field_Minus.f a0 (rd x5_3 x9_3) (rd x5_3 (ji27))).bind fun t921 => ((field_Over.f k3 a0 t918).bind fun t922 => ((field_Times.f a0 t921 t922).bind fun t923 => (poly_Fit.l2 k3 a0 l1 (x5_3.set (x9_3 : Int).toNat t923) x8_2 ji27)))) else (none)) else (none)) = some r := by first | (rw [hji27] at H; exact H) | (simp only [hji27] at H ⊢; exact H)
                                  (try rw [hji27] at A25)
                                  have hji27w : (IntKind.i64.wrap (x9_3 - 1)) = ji27 := (i64_w _).trans hji27
                                  by_cases c28 : 0 ≤ (ji27)
                                  · rw [if_pos c28] at H
                                    have c28b0 : decide (0 ≤ (ji27)) = true := decide_eq_true c28
                                    clear c28
                                    by_cases c29 : (ji27) < (x5_3.length : Int)
                                    · rw [if_pos c29] at H
                                      have c29b0 : decide ((ji27) < (x5_3.length : Int)) = true := decide_eq_true c29
                                      clear c29
                                      replace H := Option.bind_eq_some_iff.mp H
                                      obtain ⟨t921, A300, H⟩ := H
                                      replace H : ((field_Over.f k3 a0 t918).bind fun t922 => ((field_Times.f a0 t921 t922).bind fun t923 => (poly_Fit.l2 k3 a0 l1 (x5_3.set (x9_3 : Int).toNat t923) x8_2 ji27))) = some r := H
                                      have A30 := Aside0.mk A300
                                      clear A300
                                      replace H := Option.bind_eq_some_iff.mp H
                                      obtain ⟨t922, A310, H⟩ := H
                                      replace H : ((field_Times.f a0 t921 t922).bind fun t923 => (poly_Fit.l2 k3 a0 l1 (x5_3.set (x9_3 : Int).toNat t923) x8_2 ji27)) = some r := H
                                      have A31 := Aside0.mk A310
                                      clear A310
                                      replace H := Option.bind_eq_some_iff.mp H
                                      obtain ⟨t923, A320, H⟩ := H
                                      replace H : (poly_Fit.l2 k3 a0 l1 (x5_3.set (x9_3 : Int).toNat t923) x8_2 ji27) = some r := H
                                      have A32 := Aside0.mk A320
                                      clear A320
                                      obtain ⟨y924, hy924⟩ : ∃ y_ : List Int, y_ = (x5_3.set (x9_3 : Int).toNat t923) := ⟨_, rfl⟩
                                      replace H : (poly_Fit.l2 k3 a0 l1 y924 x8_2 ji27) = some r := by first | (rw [hy924]; with_reducible exact H) | (have H2_ := (Option.bind_some _ _).symm.trans H; rw [hy924]; with_reducible exact H2_) | (have H2_ := (Option.bind_some _ _).symm.trans H; with_reducible exact H2_) | with_reducible exact H | (rw [hy924]; exact H) | exact H
                                      have Ny924 := Aside0.mk hy924
                                      clear hy924
                                      have H' := Aside0.mk H
                                      clear H
                                      try go_wp2
                                      have n0_ := Aside0.mk (Kd.R_drew HO_5.out)
                                      have n1_ := Aside0.mk (below_drew1 HB.out)
                                      clear HO_5
                                      clear HB
                                      have HO_5 := n0_
                                      have HB := n1_
                                      clear n0_ n1_
                                      have p916 : 0 ≤ (x9_3 : Int) := of_decide_eq_true (by first | (with_reducible assumption) | assumption)
                                      have q916 : x9_3 < (l1.length : Int) := of_decide_eq_true (by first | (with_reducible assumption) | assumption)
                                      obtain ⟨ad916, e916, hx916_0, hx916_1⟩ := at_T86 HR1.out x9_3 p916 q916
                                      have hw916_1 := hx916_1
                                      have hw916_0 := hx916_0
                                      cases e916
                                      replace hx916_0 := (HB.out.cell (World.block_lt_of_cell? w _ hx916_0)).trans hx916_0
                                      replace hx916_1 := (HB.out.cell (World.block_lt_of_cell? w _ hx916_1)).trans hx916_1
                                      replace p916 := eq_true p916
                                      replace q916 := eq_true q916
                                      have p917 : 0 ≤ ((ji22) : Int) := of_decide_eq_true (by first | (with_reducible assumption) | assumption)
                                      have q917 : (ji22) < (l1.length : Int) := of_decide_eq_true (by first | (with_reducible assumption) | assumption)
                                      obtain ⟨ad917, e917, hx917_0, hx917_1⟩ := at_T86 HR1.out (ji22) p917 q917
                                      have hw917_1 := hx917_1
                                      have hw917_0 := hx917_0
                                      obtain rfl : ad916 = ad917 := (by injection e917)
                                      replace hx917_0 := (HB.out.cell (World.block_lt_of_cell? w _ hx917_0)).trans hx917_0
                                      replace hx917_1 := (HB.out.cell (World.block_lt_of_cell? w _ hx917_1)).trans hx917_1
                                      replace p917 := eq_true p917
                                      replace q917 := eq_true q917
                                      refine start_ (n := 15) (S := fun w' => w'.cell? (ad916.add ((x9_3).toNat * 2)) = some (.int .u64 ((rd_T86 l1 x9_3).f0)) ∧ w'.cell? ⟨(ad916.add ((x9_3).toNat * 2)).block, (ad916.add ((x9_3).toNat * 2)).off + 1, none⟩ = some (.int .u64 ((rd_T86 l1 x9_3).f1)) ∧ w'.cell? (ad916.add (((ji22)).toNat * 2)) = some (.int .u64 ((rd_T86 l1 (ji22)).f0)) ∧ w'.cell? ⟨(ad916.add (((ji22)).toNat * 2)).block, (ad916.add (((ji22)).toNat * 2)).off + 1, none⟩ = some (.int .u64 ((rd_T86 l1 (ji22)).f1))) (ds := []) #[false, false, false, false, false, false, false, false, false, false, false, false, false, false, false] (by kernel_rfl) rfl rfl ⟨((HB.out.cell (World.block_lt_of_cell? w _ hw916_0)).trans hw916_0), ((HB.out.cell (World.block_lt_of_cell? w _ hw916_1)).trans hw916_1), ((HB.out.cell (World.block_lt_of_cell? w _ hw917_0)).trans hw917_0), ((HB.out.cell (World.block_lt_of_cell? w _ hw917_1)).trans hw917_1)⟩ (fun hHeld => ?_); refine with_tabW poly_Fit.tab13 poly_Fit.bits13 (fun HT_ HW_ => ?_)
                                      generalize wr.drew = w34 at HO_5 HB hx916_0 hx916_1 hx917_0 hx917_1 hHeld ⊢
                                      refine pure_ (i := 0) (N := some 43) (v := ?_) (a' := ?_) #[true, false, false, false, false, false, false, false, false, false, false, false, false, false, false] rfl rfl (any_of HT_.out (by kernel_rfl)) (fun _ _ _ h => h) (Or.inl ⟨by rfl, ?_⟩) ?_ ?_
                                      rotate_left
                                      · intro w'
                                        go_simp
                                        with_reducible rfl
                                      rotate_left
                                      · simp only [Act.put, List.setIfInBounds_toArray, List.set_cons_zero, List.set_cons_succ, i64_w, i32_w]
                                        rfl
                                      refine pure_ (i := 1) (N := some 44) (v := ?_) (a' := ?_) #[true, true, false, false, false, false, false, false, false, false, false, false, false, false, false] rfl rfl (any_of HT_.out (by kernel_rfl)) (fun _ _ _ h => h) (Or.inl ⟨by rfl, ?_⟩) ?_ ?_
                                      rotate_left
                                      · intro w'
                                        go_simp
                                        with_reducible rfl
                                      rotate_left
                                      · simp only [Act.put, List.setIfInBounds_toArray, List.set_cons_zero, List.set_cons_succ, i64_w, i32_w]
                                        rfl
                                      refine pure_ (i := 2) (N := some 45) (v := ?_) (a' := ?_) #[true, true, true, false, false, false, false, false, false, false, false, false, false, false, false] rfl rfl (any_of HT_.out (by kernel_rfl)) (fun _ _ _ h => h) (Or.inl ⟨by rfl, ?_⟩) ?_ ?_
                                      rotate_left
                                      · intro w'
                                        go_simp
                                        with_reducible rfl
                                      rotate_left
                                      · simp only [Act.put, List.setIfInBounds_toArray, List.set_cons_zero, List.set_cons_succ, i64_w, i32_w]
                                        rfl
                                      refine pure_ (i := 3) (N := some 46) (v := ?_) (a' := ?_) #[true, true, true, true, false, false, false, false, false, false, false, false, false, false, false] rfl rfl (any_of HT_.out (by kernel_rfl)) (fun _ _ _ h => h) (Or.inl ⟨by rfl, ?_⟩) ?_ ?_
                                      rotate_left
                                      · intro w'
                                        go_simp
                                        with_reducible rfl
                                      rotate_left
                                      · simp only [Act.put, List.setIfInBounds_toArray, List.set_cons_zero, List.set_cons_succ, i64_w, i32_w]
                                        rfl
                                      refine pure_ (i := 4) (N := some 47) (v := ?_) (a' := ?_) #[true, true, true, true, true, false, false, false, false, false, false, false, false, false, false] rfl rfl (any_of HT_.out (by kernel_rfl)) (fun _ _ _ h => h) (Or.inl ⟨by rfl, ?_⟩) ?_ ?_
                                      rotate_left
                                      · intro w'
                                        go_simp
                                        with_reducible rfl
                                      rotate_left
                                      · simp only [Act.put, List.setIfInBounds_toArray, List.set_cons_zero, List.set_cons_succ, i64_w, i32_w]
                                        rfl
                                      refine pure_ (i := 6) (N := some 49) (v := ?_) (a' := ?_) #[true, true, true, true, true, false, true, false, false, false, false, false, false, false, false] rfl rfl (any_of HT_.out (by kernel_rfl)) (fun _ _ _ h => h) (Or.inl ⟨by rfl, ?_⟩) ?_ ?_
                                      rotate_left
                                      · intro w'
                                        go_simp
                                        with_reducible rfl
                                      rotate_left
                                      · simp only [Act.put, List.setIfInBounds_toArray, List.set_cons_zero, List.set_cons_succ, i64_w, i32_w]
                                        rfl
                                      refine pure_ (i := 7) (N := some 50) (v := ?_) (a' := ?_) #[true, true, true, true, true, false, true, true, false, false, false, false, false, false, false] rfl rfl (any_of HT_.out (by kernel_rfl)) (fun _ _ _ h => h) (Or.inl ⟨by rfl, ?_⟩) ?_ ?_
                                      rotate_left
                                      · intro w'
                                        go_simp
                                        with_reducible rfl
                                      rotate_left
                                      · simp only [Act.put, List.setIfInBounds_toArray, List.set_cons_zero, List.set_cons_succ, i64_w, i32_w]
                                        rfl
                                      refine pure_ (i := 8) (N := some 51) (v := ?_) (a' := ?_) #[true, true, true, true, true, false, true, true, true, false, false, false, false, false, false] rfl rfl (any_of HT_.out (by kernel_rfl)) (fun _ _ _ h => h) (Or.inl ⟨by rfl, ?_⟩) ?_ ?_
                                      rotate_left
                                      · intro w'
                                        go_simp
                                        with_reducible rfl
                                      rotate_left
                                      · simp only [Act.put, List.setIfInBounds_toArray, List.set_cons_zero, List.set_cons_succ, i64_w, i32_w]
                                        rfl
                                      refine pure_ (i := 9) (N := some 52) (v := ?_) (a' := ?_) #[true, true, true, true, true, false, true, true, true, true, false, false, false, false, false] rfl rfl (any_of HT_.out (by kernel_rfl)) (fun _ _ _ h => h) (Or.inl ⟨by rfl, ?_⟩) ?_ ?_
                                      rotate_left
                                      · intro w'
                                        go_simp
                                        with_reducible rfl
                                      rotate_left
                                      · simp only [Act.put, List.setIfInBounds_toArray, List.set_cons_zero, List.set_cons_succ, i64_w, i32_w]
                                        rfl
                                      refine pure_ (i := 10) (N := some 53) (v := ?_) (a' := ?_) #[true, true, true, true, true, false, true, true, true, true, true, false, false, false, false] rfl rfl (any_of HT_.out (by kernel_rfl)) (fun _ _ _ h => h) (Or.inl ⟨by rfl, ?_⟩) ?_ ?_
                                      rotate_left
                                      · intro w'
                                        go_simp
                                        with_reducible rfl
                                      rotate_left
                                      · simp only [Act.put, List.setIfInBounds_toArray, List.set_cons_zero, List.set_cons_succ, i64_w, i32_w]
                                        rfl
                                      refine pure_ (i := 11) (N := some 54) (v := ?_) (a' := ?_) #[true, true, true, true, true, false, true, true, true, true, true, true, false, false, false] rfl rfl (any_of HT_.out (by kernel_rfl)) (fun _ _ _ h => h) (Or.inl ⟨by rfl, ?_⟩) ?_ ?_
                                      rotate_left
                                      · intro w'
                                        go_simp
                                        with_reducible rfl
                                      rotate_left
                                      · simp only [Act.put, List.setIfInBounds_toArray, List.set_cons_zero, List.set_cons_succ, i64_w, i32_w]
                                        rfl
                                      refine take_ (i := 5) (N := some 48) (v := ?_) (a' := ?_) #[true, true, true, true, true, true, true, true, true, true, true, true, false, false, false] rfl rfl (take_ofW HT_.out HW_.out (by kernel_rfl)) (fun _ _ _ h => h) (Or.inl ⟨by rfl, ?_⟩) hHeld ?_ ?_
                                      rotate_left
                                      · rintro w' ⟨s0, s1, s2, s3⟩
                                        go_simp
                                        with_reducible rfl
                                      rotate_left
                                      · simp only [Act.put, List.setIfInBounds_toArray, List.set_cons_zero, List.set_cons_succ, i64_w, i32_w]
                                        rfl
                                      refine take_ (i := 12) (N := some 55) (v := ?_) (a' := ?_) #[true, true, true, true, true, true, true, true, true, true, true, true, true, false, false] rfl rfl (take_ofW HT_.out HW_.out (by kernel_rfl)) (fun _ _ _ h => h) (Or.inl ⟨by rfl, ?_⟩) hHeld ?_ ?_
                                      rotate_left
                                      · rintro w' ⟨s0, s1, s2, s3⟩
                                        go_simp
                                        with_reducible rfl
                                      rotate_left
                                      · simp only [Act.put, List.setIfInBounds_toArray, List.set_cons_zero, List.set_cons_succ, i64_w, i32_w]
                                        rfl
                                      refine one_ (i := 13) (N := some 56) #[true, true, true, true, true, true, true, true, true, true, true, true, true, true, false] rfl rfl (one_of HT_.out (by kernel_rfl)) (by decide) (fun K hK => ?_)
                                      refine goes_ Try.func142 (by kernel_rfl) rfl #[.int .u64 a0, .int .u64 ((rd_T86 l1 x9_3).f0), .int .u64 ((rd_T86 l1 (ji22)).f0)] (by rfl) rfl rfl (by (try simp only [List.map_toArray, List.map_cons, List.map_nil]); first | done | (simp only [hji22]; rfl) | rfl | (simp only [List.length_drop, List.length_take]; rfl)) ?_
                                      with_reducible refine (field_Minus.calls a0 ((rd_T86 l1 x9_3).f0) ((rd_T86 l1 (ji22)).f0) t918 _ A25.out).mono ?_
                                      rintro e w' ⟨rfl, ⟨nd, rfl⟩⟩
                                      refine ⟨_, rfl, ?_⟩
                                      refine hK.out _ _ ⟨((HB.out.cell (World.block_lt_of_cell? w _ hw916_0)).trans hw916_0), ((HB.out.cell (World.block_lt_of_cell? w _ hw916_1)).trans hw916_1), ((HB.out.cell (World.block_lt_of_cell? w _ hw917_0)).trans hw917_0), ((HB.out.cell (World.block_lt_of_cell? w _ hw917_1)).trans hw917_1)⟩ (fun hHeld => ?_)
                                      clear hK K
                                      refine norm_ (a' := ?_) ?_ ?_
                                      rotate_left
                                      · show Act.put _ (some 56) _ = _
                                        simp only [Act.put, List.setIfInBounds_toArray, List.set_cons_zero, List.set_cons_succ, i64_w, i32_w]
                                        rfl
                                      refine pure_ (i := 14) (N := some 10) (v := ?_) (a' := ?_) #[true, true, true, true, true, true, true, true, true, true, true, true, true, true, true] rfl rfl (any_of HT_.out (by kernel_rfl)) (fun _ _ _ h => h) (Or.inl ⟨by rfl, ?_⟩) ?_ ?_
                                      rotate_left
                                      · intro w'
                                        go_simp
                                        with_reducible rfl
                                      rotate_left
                                      · simp only [Act.put, List.setIfInBounds_toArray, List.set_cons_zero, List.set_cons_succ, i64_w, i32_w]
                                        rfl
                                      refine done_ (done_of HT_.out (by kernel_rfl)) ?_
                                      try go_wp2
                                      (try (rw [drewN_self w34]; generalize hq_ : World.drewN w34 _ = w34; have n0_ : Aside0 (Kd.R (Kd.int .u64) 22 w34 w.heap.size (fun _ => True) v911 x5_3) := ⟨by rw [← hq_]; exact (by (with_reducible repeat (first | apply Kd.R_alloc | apply Kd.R_drewN | apply Kd.R_drew)); exact HO_5.out)⟩; have n1_ : Aside0 (Below w.heap.size w w34) := ⟨by rw [← hq_]; exact (by repeat (first | (with_reducible first | exact HB.out | apply below_alloc | apply pw_below_drewN | apply below_drew1) | exact HB.out))⟩; clear HO_5 HB hq_; have HO_5 := n0_; have HB := n1_; clear n0_ n1_))
                                      have n0_ := Aside0.mk (Kd.R_drew HO_5.out)
                                      have n1_ := Aside0.mk (below_drew1 HB.out)
                                      clear HO_5
                                      clear HB
                                      have HO_5 := n0_
                                      have HB := n1_
                                      clear n0_ n1_
                                      obtain ⟨Ao36, co36, eo36⟩ := Kd.R_slice HO_5.out
                                      (first | subst eo36 | (injection eo36 with f1_ f2_ f3_; have f4_ := f1_.symm; have f5_ := f3_.symm; clear f1_ f2_ f3_; subst f4_; subst f5_))
                                      have p919 : 0 ≤ (x9_3 : Int) := of_decide_eq_true (by first | (with_reducible assumption) | assumption)
                                      have q919 : x9_3 < (x5_3.length : Int) := of_decide_eq_true (by first | (with_reducible assumption) | assumption)
                                      obtain ⟨ad919, e919, hx919_0⟩ := Kd.at_int (Kd.R_reads' HO_5.out).2.2 x9_3 p919 q919
                                      cases e919
                                      replace p919 := eq_true p919
                                      replace q919 := eq_true q919
                                      have p920 : 0 ≤ ((ji27) : Int) := of_decide_eq_true (by first | (with_reducible assumption) | assumption)
                                      have q920 : (ji27) < (x5_3.length : Int) := of_decide_eq_true (by first | (with_reducible assumption) | assumption)
                                      obtain ⟨ad920, e920, hx920_0⟩ := Kd.at_int (Kd.R_reads' HO_5.out).2.2 (ji27) p920 q920
                                      obtain rfl : ad919 = ad920 := (by injection e920)
                                      replace p920 := eq_true p920
                                      replace q920 := eq_true q920
                                      refine start_ (n := 20) (S := fun w' => w'.cell? (ad919.add (x9_3).toNat) = some (.int .u64 (rd x5_3 x9_3)) ∧ w'.cell? (ad919.add ((ji27)).toNat) = some (.int .u64 (rd x5_3 (ji27)))) (ds := [19]) #[false, false, false, false, false, false, false, false, false, false, false, false, false, false, false, false, false, false, false, false] (by kernel_rfl) rfl rfl ⟨hx919_0, hx920_0⟩ (fun hHeld => ?_); refine with_tabW poly_Fit.tab14 poly_Fit.bits14 (fun HT_ HW_ => ?_)
                                      generalize w34.drew = w35 at HO_5 HB hx919_0 hx920_0 hHeld ⊢
                                      refine pure_ (i := 0) (N := some 57) (v := ?_) (a' := ?_) #[true, false, false, false, false, false, false, false, false, false, false, false, false, false, false, false, false, false, false, false] rfl rfl (any_of HT_.out (by kernel_rfl)) (fun _ _ _ h => h) (Or.inl ⟨by rfl, ?_⟩) ?_ ?_
                                      rotate_left
                                      · intro w'
                                        go_simp
                                        with_reducible rfl
                                      rotate_left
                                      · simp only [Act.put, List.setIfInBounds_toArray, List.set_cons_zero, List.set_cons_succ, i64_w, i32_w]
                                        rfl
                                      refine pure_ (i := 1) (N := some 58) (v := ?_) (a' := ?_) #[true, true, false, false, false, false, false, false, false, false, false, false, false, false, false, false, false, false, false, false] rfl rfl (any_of HT_.out (by kernel_rfl)) (fun _ _ _ h => h) (Or.inl ⟨by rfl, ?_⟩) ?_ ?_
                                      rotate_left
                                      · intro w'
                                        go_simp
                                        with_reducible rfl
                                      rotate_left
                                      · simp only [Act.put, List.setIfInBounds_toArray, List.set_cons_zero, List.set_cons_succ, i64_w, i32_w]
                                        rfl
                                      refine pure_ (i := 2) (N := some 59) (v := ?_) (a' := ?_) #[true, true, true, false, false, false, false, false, false, false, false, false, false, false, false, false, false, false, false, false] rfl rfl (any_of HT_.out (by kernel_rfl)) (fun _ _ _ h => h) (Or.inl ⟨by rfl, ?_⟩) ?_ ?_
                                      rotate_left
                                      · intro w'
                                        go_simp
                                        with_reducible rfl
                                      rotate_left
                                      · simp only [Act.put, List.setIfInBounds_toArray, List.set_cons_zero, List.set_cons_succ, i64_w, i32_w]
                                        rfl
                                      refine pure_ (i := 3) (N := some 60) (v := ?_) (a' := ?_) #[true, true, true, true, false, false, false, false, false, false, false, false, false, false, false, false, false, false, false, false] rfl rfl (any_of HT_.out (by kernel_rfl)) (fun _ _ _ h => h) (Or.inl ⟨by rfl, ?_⟩) ?_ ?_
                                      rotate_left
                                      · intro w'
                                        go_simp
                                        with_reducible rfl
                                      rotate_left
                                      · simp only [Act.put, List.setIfInBounds_toArray, List.set_cons_zero, List.set_cons_succ, i64_w, i32_w]
                                        rfl
                                      refine pure_ (i := 4) (N := some 61) (v := ?_) (a' := ?_) #[true, true, true, true, true, false, false, false, false, false, false, false, false, false, false, false, false, false, false, false] rfl rfl (any_of HT_.out (by kernel_rfl)) (fun _ _ _ h => h) (Or.inl ⟨by rfl, ?_⟩) ?_ ?_
                                      rotate_left
                                      · intro w'
                                        go_simp
                                        with_reducible rfl
                                      rotate_left
                                      · simp only [Act.put, List.setIfInBounds_toArray, List.set_cons_zero, List.set_cons_succ, i64_w, i32_w]
                                        rfl
                                      refine pure_ (i := 5) (N := some 62) (v := ?_) (a' := ?_) #[true, true, true, true, true, true, false, false, false, false, false, false, false, false, false, false, false, false, false, false] rfl rfl (any_of HT_.out (by kernel_rfl)) (fun _ _ _ h => h) (Or.inl ⟨by rfl, ?_⟩) ?_ ?_
                                      rotate_left
                                      · intro w'
                                        go_simp
                                        with_reducible rfl
                                      rotate_left
                                      · simp only [Act.put, List.setIfInBounds_toArray, List.set_cons_zero, List.set_cons_succ, i64_w, i32_w]
                                        rfl
                                      refine pure_ (i := 6) (N := some 63) (v := ?_) (a' := ?_) #[true, true, true, true, true, true, true, false, false, false, false, false, false, false, false, false, false, false, false, false] rfl rfl (any_of HT_.out (by kernel_rfl)) (fun _ _ _ h => h) (Or.inl ⟨by rfl, ?_⟩) ?_ ?_
                                      rotate_left
                                      · intro w'
                                        go_simp
                                        with_reducible rfl
                                      rotate_left
                                      · simp only [Act.put, List.setIfInBounds_toArray, List.set_cons_zero, List.set_cons_succ, i64_w, i32_w]
                                        rfl
                                      refine pure_ (i := 8) (N := some 65) (v := ?_) (a' := ?_) #[true, true, true, true, true, true, true, false, true, false, false, false, false, false, false, false, false, false, false, false] rfl rfl (any_of HT_.out (by kernel_rfl)) (fun _ _ _ h => h) (Or.inl ⟨by rfl, ?_⟩) ?_ ?_
                                      rotate_left
                                      · intro w'
                                        go_simp
                                        with_reducible rfl
                                      rotate_left
                                      · simp only [Act.put, List.setIfInBounds_toArray, List.set_cons_zero, List.set_cons_succ, i64_w, i32_w]
                                        rfl
                                      refine pure_ (i := 9) (N := some 66) (v := ?_) (a' := ?_) #[true, true, true, true, true, true, true, false, true, true, false, false, false, false, false, false, false, false, false, false] rfl rfl (any_of HT_.out (by kernel_rfl)) (fun _ _ _ h => h) (Or.inl ⟨by rfl, ?_⟩) ?_ ?_
                                      rotate_left
                                      · intro w'
                                        go_simp
                                        with_reducible rfl
                                      rotate_left
                                      · simp only [Act.put, List.setIfInBounds_toArray, List.set_cons_zero, List.set_cons_succ, i64_w, i32_w]
                                        rfl
                                      refine pure_ (i := 10) (N := some 67) (v := ?_) (a' := ?_) #[true, true, true, true, true, true, true, false, true, true, true, false, false, false, false, false, false, false, false, false] rfl rfl (any_of HT_.out (by kernel_rfl)) (fun _ _ _ h => h) (Or.inl ⟨by rfl, ?_⟩) ?_ ?_
                                      rotate_left
                                      · intro w'
                                        go_simp
                                        with_reducible rfl
                                      rotate_left
                                      · simp only [Act.put, List.setIfInBounds_toArray, List.set_cons_zero, List.set_cons_succ, i64_w, i32_w]
                                        rfl
                                      refine pure_ (i := 11) (N := some 68) (v := ?_) (a' := ?_) #[true, true, true, true, true, true, true, false, true, true, true, true, false, false, false, false, false, false, false, false] rfl rfl (any_of HT_.out (by kernel_rfl)) (fun _ _ _ h => h) (Or.inl ⟨by rfl, ?_⟩) ?_ ?_
                                      rotate_left
                                      · intro w'
                                        go_simp
                                        with_reducible rfl
                                      rotate_left
                                      · simp only [Act.put, List.setIfInBounds_toArray, List.set_cons_zero, List.set_cons_succ, i64_w, i32_w]
                                        rfl
                                      refine pure_ (i := 14) (N := some 71) (v := ?_) (a' := ?_) #[true, true, true, true, true, true, true, false, true, true, true, true, false, false, true, false, false, false, false, false] rfl rfl (any_of HT_.out (by kernel_rfl)) (fun _ _ _ h => h) (Or.inl ⟨by rfl, ?_⟩) ?_ ?_
                                      rotate_left
                                      · intro w'
                                        go_simp
                                        with_reducible rfl
                                      rotate_left
                                      · simp only [Act.put, List.setIfInBounds_toArray, List.set_cons_zero, List.set_cons_succ, i64_w, i32_w]
                                        rfl
                                      refine pure_ (i := 15) (N := some 72) (v := ?_) (a' := ?_) #[true, true, true, true, true, true, true, false, true, true, true, true, false, false, true, true, false, false, false, false] rfl rfl (any_of HT_.out (by kernel_rfl)) (fun _ _ _ h => h) (Or.inl ⟨by rfl, ?_⟩) ?_ ?_
                                      rotate_left
                                      · intro w'
                                        go_simp
                                        with_reducible rfl
                                      rotate_left
                                      · simp only [Act.put, List.setIfInBounds_toArray, List.set_cons_zero, List.set_cons_succ, i64_w, i32_w]
                                        rfl
                                      refine take_ (i := 7) (N := some 64) (v := ?_) (a' := ?_) #[true, true, true, true, true, true, true, true, true, true, true, true, false, false, true, true, false, false, false, false] rfl rfl (take_ofW HT_.out HW_.out (by kernel_rfl)) (fun _ _ _ h => h) (Or.inl ⟨by rfl, ?_⟩) hHeld ?_ ?_
                                      rotate_left
                                      · rintro w' ⟨s0, s1⟩
                                        go_simp
                                        with_reducible rfl
                                      rotate_left
                                      · simp only [Act.put, List.setIfInBounds_toArray, List.set_cons_zero, List.set_cons_succ, i64_w, i32_w]
                                        rfl
                                      refine take_ (i := 12) (N := some 69) (v := ?_) (a' := ?_) #[true, true, true, true, true, true, true, true, true, true, true, true, true, false, true, true, false, false, false, false] rfl rfl (take_ofW HT_.out HW_.out (by kernel_rfl)) (fun _ _ _ h => h) (Or.inl ⟨by rfl, ?_⟩) hHeld ?_ ?_
                                      rotate_left
                                      · rintro w' ⟨s0, s1⟩
                                        go_simp
                                        with_reducible rfl
                                      rotate_left
                                      · simp only [Act.put, List.setIfInBounds_toArray, List.set_cons_zero, List.set_cons_succ, i64_w, i32_w]
                                        rfl
                                      refine one_ (i := 13) (N := some 70) #[true, true, true, true, true, true, true, true, true, true, true, true, true, true, true, true, false, false, false, false] rfl rfl (one_of HT_.out (by kernel_rfl)) (by decide) (fun K hK => ?_)
                                      refine goes_ Try.func142 (by kernel_rfl) rfl #[.int .u64 a0, .int .u64 (rd x5_3 x9_3), .int .u64 (rd x5_3 (ji27))] (by rfl) rfl rfl (by (try simp only [List.map_toArray, List.map_cons, List.map_nil]); first | done | (simp only [hji27]; rfl) | rfl | (simp only [List.length_drop, List.length_take]; rfl)) ?_
                                      with_reducible refine (field_Minus.calls a0 (rd x5_3 x9_3) (rd x5_3 (ji27)) t921 _ A30.out).mono ?_
                                      rintro e w' ⟨rfl, ⟨nd, rfl⟩⟩
                                      refine ⟨_, rfl, ?_⟩
                                      refine hK.out _ _ ⟨hHeld.1, hHeld.2⟩ (fun hHeld => ?_)
                                      clear hK K
                                      refine norm_ (a' := ?_) ?_ ?_
                                      rotate_left
                                      · show Act.put _ (some 70) _ = _
                                        simp only [Act.put, List.setIfInBounds_toArray, List.set_cons_zero, List.set_cons_succ, i64_w, i32_w]
                                        rfl
                                      refine one_ (i := 16) (N := some 73) #[true, true, true, true, true, true, true, true, true, true, true, true, true, true, true, true, true, false, false, false] rfl rfl (one_of HT_.out (by kernel_rfl)) (by decide) (fun K hK => ?_)
                                      refine goes_ Try.func159 (by kernel_rfl) rfl #[.int .u64 a0, .int .u64 t918] (by rfl) rfl rfl (by (try simp only [List.map_toArray, List.map_cons, List.map_nil]); first | done | rfl | (simp only [List.length_drop, List.length_take]; rfl)) ?_
                                      with_reducible refine (field_Over.calls k3 a0 t918 t922 _ A31.out).mono ?_
                                      rintro e w' ⟨rfl, ⟨nd, rfl⟩⟩
                                      refine ⟨_, rfl, ?_⟩
                                      refine hK.out _ _ ⟨hHeld.1, hHeld.2⟩ (fun hHeld => ?_)
                                      clear hK K
                                      refine norm_ (a' := ?_) ?_ ?_
                                      rotate_left
                                      · show Act.put _ (some 73) _ = _
                                        simp only [Act.put, List.setIfInBounds_toArray, List.set_cons_zero, List.set_cons_succ, i64_w, i32_w]
                                        rfl
                                      refine one_ (i := 17) (N := some 74) #[true, true, true, true, true, true, true, true, true, true, true, true, true, true, true, true, true, true, false, false] rfl rfl (one_of HT_.out (by kernel_rfl)) (by decide) (fun K hK => ?_)
                                      refine goes_ Try.func148 (by kernel_rfl) rfl #[.int .u64 a0, .int .u64 t921, .int .u64 t922] (by rfl) rfl rfl (by (try simp only [List.map_toArray, List.map_cons, List.map_nil]); first | done | rfl | (simp only [List.length_drop, List.length_take]; rfl)) ?_
                                      with_reducible refine (field_Times.calls a0 t921 t922 t923 _ A32.out).mono ?_
                                      rintro e w' ⟨rfl, ⟨nd, rfl⟩⟩
                                      refine ⟨_, rfl, ?_⟩
                                      have p33 : 0 ≤ (x9_3 : Int) := of_decide_eq_true (by first | (with_reducible assumption) | assumption)
                                      have q33 : (x9_3 : Int) < ((x5_3.length : Int) : Int) := of_decide_eq_true (by first | (with_reducible assumption) | assumption)
                                      obtain ⟨go33, co33, eo33, gb33, gl33, cl33, HG33⟩ := Kd.R_form HO_5.out (by omega)
                                      (first | cases eo33 | (injection eo33 with ea_ en_ ec_; (first | subst ea_ | (injection ea_ with ea_; subst ea_)); subst ec_; clear en_))
                                      have GB33 := Aside0.mk gb33
                                      have GG33 := Aside0.mk HG33
                                      clear gb33 gl33 HG33
                                      (first | simp only [add_plain] at hx919_0 | skip)
                                      (first | simp only [add_plain] at hx920_0 | skip)
                                      obtain ⟨hx33_0, hf33_0⟩ := Kd.R_celln 0 HO_5.out (x9_3 : Int) p33 q33
                                      replace p33 := eq_true p33
                                      replace q33 := eq_true q33
                                      have HP37 := Kd.R_putn HO_5.out (x9_3 : Int) t923
                                      rw [← Ny924.out] at HP37
                                      have HQ37 := Aside0.mk HP37
                                      clear HP37
                                      refine hK.out _ _ ⟨hHeld.1, hHeld.2⟩ (fun hHeld => ?_)
                                      clear hK K
                                      refine norm_ (a' := ?_) ?_ ?_
                                      rotate_left
                                      · show Act.put _ (some 74) _ = _
                                        simp only [Act.put, List.setIfInBounds_toArray, List.set_cons_zero, List.set_cons_succ, i64_w, i32_w]
                                        rfl
                                      refine pure_ (i := 18) (N := some 75) (v := ?_) (a' := ?_) #[true, true, true, true, true, true, true, true, true, true, true, true, true, true, true, true, true, true, true, false] rfl rfl (any_of HT_.out (by kernel_rfl)) (fun _ _ _ h => h) (Or.inl ⟨by rfl, ?_⟩) ?_ ?_
                                      rotate_left
                                      · intro w'
                                        go_simp
                                        with_reducible rfl
                                      rotate_left
                                      · simp only [Act.put, List.setIfInBounds_toArray, List.set_cons_zero, List.set_cons_succ, i64_w, i32_w]
                                        rfl
                                      refine last_ (i := 19) (N := none) #[true, true, true, true, true, true, true, true, true, true, true, true, true, true, true, true, true, true, true, true] rfl rfl (one_of HT_.out (by kernel_rfl)) (by decide) (fun K hK => ?_)
                                      refine skip_ (w1 := ?_) (by rfl) rfl ?_ ?_
                                      rotate_left
                                      · go_simp
                                        rfl
                                      refine hK.out _ _ ?_
                                      clear hK K
                                      refine done_ (done_of HT_.out (by kernel_rfl)) ?_
                                      try go_wp2
                                      go_roundg k3
                                      case measure => have := HK1.out; have := HK2.out; have := HK3.out; omega
                                      case rel => exact ⟨(y924), (ji27), (by first | rfl | (simp; done) | (simp only [← hji27] <;> (first | rfl | simp)) | (simp [*]; done)), H', ⟨by have := HK1.out; have := HK2.out; have := HK3.out; omega⟩, ⟨by (with_reducible repeat (first | apply Kd.R_alloc | apply Kd.R_drewN | apply Kd.R_drew)); exact HQ37.out⟩, ⟨by repeat (first | (with_reducible first | exact HB.out | apply below_alloc | apply pw_below_drewN | apply below_drew1 | refine below_set ?_ GB33.out) | exact HB.out)⟩⟩
                                    · rw [if_neg c29] at H
                                      exact absurd H (by simp)
                                  · rw [if_neg c28] at H
                                    exact absurd H (by simp)
                                · rw [if_neg c26] at H
                                  exact absurd H (by simp)
                              · rw [if_neg c24] at H
                                exact absurd H (by simp)
                            · rw [if_neg c23] at H
                              exact absurd H (by simp)
                          · rw [if_neg c21] at H
                            exact absurd H (by simp)
                        · rw [if_neg c20] at H
                          exact absurd H (by simp)
                      · rw [if_neg c19] at H
                        have c19b0 : decide (x8_2 ≤ x9_3) = false := decide_eq_false c19
                        clear c19
                        have H' := Aside0.mk H
                        clear H
                        go_wp2
                        go_roundg k3
                        case measure => have := HK1.out; have := HK2.out; have := HK3.out; omega
                        case rel => exact ⟨(x5_3), (wrap64 (x8_2 + 1)), (by first | rfl | (simp; done) | (simp [*]; done)), H', ⟨by have := HK1.out; have := HK2.out; have := HK3.out; omega⟩, ⟨by (with_reducible repeat (first | apply Kd.R_alloc | apply Kd.R_drewN | apply Kd.R_drew)); exact HO_5.out⟩, ⟨by repeat (first | (with_reducible first | exact HB.out | apply below_alloc | apply pw_below_drewN | apply below_drew1) | exact HB.out)⟩⟩
                · rw [if_neg c18] at H
                  have c18b0 : decide (x8_2 < (l1.length : Int)) = false := decide_eq_false c18
                  clear c18
                  have H' := Aside0.mk H
                  clear H
                  go_wp2
                  go_loopg [11, 12] k2 (fun kq v11 v12 w' => ∃ (x11_3 : List Int) (x12_3 : Int), v12 = .int .i64 x12_3 ∧ Aside0 (poly_Fit.l3 kq a0 l1 x5_2 x11_3 x12_3 = some r) ∧ Aside0 (kq ≤ k2) ∧ Aside0 (Kd.R (Kd.int .u64) 22 w' w.heap.size (fun k_ => some k_ ≠ (v11 : Value).ownBlock) v911 x5_2) ∧ Aside0 (Kd.R (Kd.int .u64) 22 w' w.heap.size (fun k_ => some k_ ≠ (v911 : Value).ownBlock) v11 x11_3) ∧ Aside0 (Below w.heap.size w w'))
                  case atStart => exact ⟨(([] : List Int)), (wrap64 ((l1.length : Int) - 1)), (by first | rfl | (simp; done) | (simp [*]; done)), H', ⟨Nat.le_refl _⟩, ⟨by (with_reducible repeat (first | apply Kd.R_alloc | apply Kd.R_drewN | apply Kd.R_drew)); exact Kd.R_mono HO_5.out (fun _ hk => (by simp [Value.ownBlock]))⟩, ⟨by first | exact Kd.R_nil _ _ _ _ _ | exact Kd.N_nil _ _ _ _ _ | exact Kd.V_nil _ _ _ _ _ | exact Kd.Q_nil _ _ _ _ _ | exact Kd.S_nil _ _ _ _ _⟩, ⟨by repeat (first | (with_reducible first | exact HB.out | apply below_alloc | apply pw_below_drewN | apply below_drew1) | exact HB.out)⟩⟩
                  case round =>
                    clear H'
                    try clear c1
                    try clear p1
                    try clear q1
                    try clear hx1
                    try clear c2
                    try clear p2
                    try clear c3
                    try clear c3b0
                    try clear c3b1
                    try clear p3
                    try clear q3
                    try clear hx3
                    try clear hf3
                    try clear c4
                    try clear c4b0
                    try clear c4b1
                    try clear p6
                    try clear c7
                    try clear c7b0
                    try clear c8
                    try clear c8b0
                    try clear c9
                    try clear c9b0
                    try clear p9
                    try clear q9
                    try clear hx9
                    try clear c10
                    try clear c10b0
                    try clear p11
                    try clear q11
                    try clear hx11
                    try clear hf11
                    try clear c14
                    try clear c15
                    try clear c18
                    try clear c18b0
                    try clear c19
                    try clear c19b0
                    try clear c20
                    try clear c20b0
                    try clear c21
                    try clear c21b0
                    try clear c23
                    try clear c23b0
                    try clear c24
                    try clear c24b0
                    try clear c26
                    try clear c26b0
                    try clear c28
                    try clear c28b0
                    try clear c29
                    try clear c29b0
                    try clear p33
                    try clear q33
                    try clear hx33
                    try clear hf33
                    try clear hcz13_0
                    try clear hcz13_1
                    try clear hcz15_0
                    try clear hcz15_1
                    try clear hfz13_0
                    try clear hfz13_1
                    try clear hfz15_0
                    try clear hfz15_1
                    try clear hx11_0
                    try clear hx33_0
                    try clear hx913_0
                    try clear hx913_1
                    try clear hx916_0
                    try clear hx916_1
                    try clear hx917_0
                    try clear hx917_1
                    try clear hx919_0
                    try clear hx920_0
                    try clear p1
                    try clear p11
                    try clear p2
                    try clear p33
                    try clear p6
                    try clear p9
                    try clear p913
                    try clear p916
                    try clear p917
                    try clear p919
                    try clear p920
                    try clear q1
                    try clear q11
                    try clear q33
                    try clear q9
                    try clear q913
                    try clear q916
                    try clear q917
                    try clear q919
                    try clear q920
                    obtain ⟨x11_3, x12_3, rfl, HA, HK3, HO_5, HO_11, HB⟩ := hrel
                    cases gk with
                    | zero => exact absurd HA.out (by simp [poly_Fit.l3])
                    | succ k3 =>
                      have H := HA.out
                      clear HA
                      simp only [poly_Fit.l3] at H
                      by_cases c38 : x12_3 ≥ 0
                      · rw [if_pos c38] at H
                        have c38b0 : decide (0 ≤ x12_3) = true := decide_eq_true c38
                        clear c38
                        by_cases c39 : 0 ≤ x12_3
                        · rw [if_pos c39] at H
                          have c39b0 : decide (0 ≤ x12_3) = true := decide_eq_true c39
                          clear c39
                          by_cases c40 : x12_3 < (l1.length : Int)
                          · rw [if_pos c40] at H
                            have c40b0 : decide (x12_3 < (l1.length : Int)) = true := decide_eq_true c40
                            clear c40
                            replace H := Option.bind_eq_some_iff.mp H
                            obtain ⟨t926, A410, H⟩ := H
                            replace H : ((poly_Times.f k3 a0 x11_3 (([t926, 1] : List Int))).bind fun t930 => (if x12_3 < (x5_2.length : Int) then ((poly_Plus.f k3 a0 t930 (([rd x5_2 x12_3] : List Int))).bind fun t937 => (poly_Fit.l3 k3 a0 l1 x5_2 t937 (wrap64 (x12_3 - 1)))) else (none))) = some r := H
                            have A41 := Aside0.mk A410
                            clear A410
                            obtain ⟨y927, hy927⟩ : ∃ y_ : List Int, y_ = (([t926, 1] : List Int)) := ⟨_, rfl⟩
                            replace H : ((poly_Times.f k3 a0 x11_3 y927).bind fun t930 => (if x12_3 < (x5_2.length : Int) then ((poly_Plus.f k3 a0 t930 (([rd x5_2 x12_3] : List Int))).bind fun t937 => (poly_Fit.l3 k3 a0 l1 x5_2 t937 (wrap64 (x12_3 - 1)))) else (none))) = some r := by first | (rw [hy927]; with_reducible exact H) | (have H2_ := (Option.bind_some _ _).symm.trans H; rw [hy927]; with_reducible exact H2_) | (have H2_ := (Option.bind_some _ _).symm.trans H; with_reducible exact H2_) | with_reducible exact H | (rw [hy927]; exact H) | exact H
                            have Ny927 := Aside0.mk hy927
                            clear hy927
                            replace H := Option.bind_eq_some_iff.mp H
                            obtain ⟨t930, A420, H⟩ := H
                            replace H : (if x12_3 < (x5_2.length : Int) then ((poly_Plus.f k3 a0 t930 (([rd x5_2 x12_3] : List Int))).bind fun t937 => (poly_Fit.l3 k3 a0 l1 x5_2 t937 (wrap64 (x12_3 - 1)))) else (none)) = some r := H
                            have A42 := Aside0.mk A420
                            clear A420
                            by_cases c43 : x12_3 < (x5_2.length : Int)
                            · rw [if_pos c43] at H
                              have c43b0 : decide (x12_3 < (x5_2.length : Int)) = true := decide_eq_true c43
                              clear c43
                              obtain ⟨y934, hy934⟩ : ∃ y_ : List Int, y_ = (([rd x5_2 x12_3] : List Int)) := ⟨_, rfl⟩
                              replace H : ((poly_Plus.f k3 a0 t930 y934).bind fun t937 => (poly_Fit.l3 k3 a0 l1 x5_2 t937 (wrap64 (x12_3 - 1)))) = some r := by first | (rw [hy934]; with_reducible exact H) | (have H2_ := (Option.bind_some _ _).symm.trans H; rw [hy934]; with_reducible exact H2_) | (have H2_ := (Option.bind_some _ _).symm.trans H; with_reducible exact H2_) | with_reducible exact H | (rw [hy934]; exact H) | exact H
                              have Ny934 := Aside0.mk hy934
                              clear hy934
                              replace H := Option.bind_eq_some_iff.mp H
                              obtain ⟨t937, A440, H⟩ := H
                              replace H : (poly_Fit.l3 k3 a0 l1 x5_2 t937 (wrap64 (x12_3 - 1))) = some r := H
                              have A44 := Aside0.mk A440
                              clear A440
                              have H' := Aside0.mk H
                              clear H
                              have p925 : 0 ≤ (x12_3 : Int) := of_decide_eq_true (by first | (with_reducible assumption) | assumption)
                              have q925 : x12_3 < (l1.length : Int) := of_decide_eq_true (by first | (with_reducible assumption) | assumption)
                              obtain ⟨ad925, e925, hx925_0, hx925_1⟩ := at_T86 HR1.out x12_3 p925 q925
                              cases e925
                              replace hx925_0 := (HB.out.cell (World.block_lt_of_cell? w _ hx925_0)).trans hx925_0
                              replace hx925_1 := (HB.out.cell (World.block_lt_of_cell? w _ hx925_1)).trans hx925_1
                              replace p925 := eq_true p925
                              replace q925 := eq_true q925
                              go_wp2_with (first | ((with_reducible refine gate_callee (f := 142) rfl ?_); refine goesL_ (some 91) rfl rfl Try.func142 (by kernel_rfl) rfl #[.int .u64 a0, .int .u64 0, .int .u64 ((rd_T86 l1 x12_3).f0)] rfl (by (try simp only [List.map_toArray, List.map_cons, List.map_nil]); first | done | rfl | (simp only [List.length_drop, List.length_take]; rfl)) ?_; (with_reducible refine (field_Minus.calls a0 0 ((rd_T86 l1 x12_3).f0) t926 _ A41.out).mono ?_); rintro e w' ⟨rfl, ⟨nd, rfl⟩⟩; refine ⟨_, rfl, ?_⟩) | ((with_reducible refine gate_dst (N := 92) rfl ?_); refine Kd.R_lit (Kd.int .u64) _ 22 ?hg (N := 92) ?hd (xs := ([t926, 1] : List Int)) (inner := [.int .u64 t926, .int .u64 1]) (ok := fun _ => True) (okp := fun _ => True) ?hr ?hp (fun _ hk => hk) trivial (Below.refl _ _) (Nat.le_refl _) (by simp) ?_; (case hd => rfl); (case hg => rfl); (case hr => first | (go_simp; done) | (go_simp; rfl)); (case hp => exact (Reps.one (show Kd.M (Kd.int .u64) _ _ _ t926 [.int .u64 t926] from rfl) (Reps.one (show Kd.M (Kd.int .u64) _ _ _ 1 [.int .u64 1] from rfl) (Reps.none _ _)))); intro v928 w45 ho46 hb hg_ hnew_; clear hg_ hnew_; (first | rw [← Ny927.out] at ho46 | (simp only [Int.reduceToNat] at ho46; rw [← Ny927.out] at ho46)); have n0_ := Aside0.mk (Kd.R_elder' (by (with_reducible repeat (first | apply Kd.R_alloc | apply Kd.R_drewN | apply Kd.R_drew)); exact HO_5.out) (Kd.R_base ho46) hb); have n1_ := Aside0.mk (Kd.R_elder' (by (with_reducible repeat (first | apply Kd.R_alloc | apply Kd.R_drewN | apply Kd.R_drew)); exact HO_11.out) (Kd.R_base ho46) hb); have n2_ := Aside0.mk (Kd.R_lower (Kd.R_new' (Kd.R_new' ho46 (Kd.R_lt (by (with_reducible repeat (first | apply Kd.R_alloc | apply Kd.R_drewN | apply Kd.R_drew)); exact HO_5.out))) (Kd.R_lt (by (with_reducible repeat (first | apply Kd.R_alloc | apply Kd.R_drewN | apply Kd.R_drew)); exact HO_11.out))) (below_size (by repeat (first | (with_reducible first | exact HB.out | apply below_alloc | apply pw_below_drewN | apply below_drew1) | exact HB.out)))); have n3_ := Aside0.mk (below_step (by repeat (first | (with_reducible first | exact HB.out | apply below_alloc | apply pw_below_drewN | apply below_drew1) | exact HB.out)) hb); clear HO_5; clear HO_11; clear HB; have HO_5 := n0_; have HO_11 := n1_; have HO929 := n2_; have HB := n3_; clear n0_ n1_ n2_ n3_; clear hb ho46; obtain ⟨Ao47, co47, eo47⟩ := Kd.R_slice HO_11.out; subst eo47; obtain ⟨Ao48, co48, eo48⟩ := Kd.R_slice HO929.out; subst eo48) | ((with_reducible refine gate_callee (f := 157) rfl ?_); refine goesL_ (some 93) rfl rfl Try.func157 (by kernel_rfl) rfl #[.int .u64 a0, .slice Ao47 x11_3.length co47, .slice Ao48 y927.length co48] rfl (by (try simp only [List.map_toArray, List.map_cons, List.map_nil]); first | done | rfl | (simp only [List.length_drop, List.length_take]; rfl)) ?_; (with_reducible refine (poly_Times.calls k3 a0 _ _ x11_3 _ _ y927 t930 _ ?side1 ?side2 ?side3 ?side4 A42.out).mono ?_); (case side1 => repeat (first | exact (Kd.R_reads' HO_11.out).2.2 | (with_reducible refine Kd.C_alloc ?_ _) | (with_reducible refine Kd.C_drewN ?_ _) | (with_reducible refine Kd.C_drew ?_))); (case side2 => exact (Kd.R_reads' HO_11.out).2.1); (case side3 => repeat (first | exact (Kd.R_reads' HO929.out).2.2 | (with_reducible refine Kd.C_alloc ?_ _) | (with_reducible refine Kd.C_drewN ?_ _) | (with_reducible refine Kd.C_drew ?_))); (case side4 => exact (Kd.R_reads' HO929.out).2.1); rintro e w49 ⟨v931, rfl, ho0, hb⟩; refine ⟨_, rfl, ?_⟩; have n0_ := Aside0.mk (Kd.R_elder' (by (with_reducible repeat (first | apply Kd.R_alloc | apply Kd.R_drewN | apply Kd.R_drew)); exact HO_5.out) (Kd.R_base ho0) hb); have n1_ := Aside0.mk (Kd.R_elder' (by (with_reducible repeat (first | apply Kd.R_alloc | apply Kd.R_drewN | apply Kd.R_drew)); exact HO_11.out) (Kd.R_base ho0) hb); have n2_ := Aside0.mk (Kd.R_elder' (by (with_reducible repeat (first | apply Kd.R_alloc | apply Kd.R_drewN | apply Kd.R_drew)); exact HO929.out) (Kd.R_base ho0) hb); have n3_ := Aside0.mk (Kd.R_lower (Kd.R_new' (Kd.R_new' (Kd.R_new' ho0 (Kd.R_lt (by (with_reducible repeat (first | apply Kd.R_alloc | apply Kd.R_drewN | apply Kd.R_drew)); exact HO_5.out))) (Kd.R_lt (by (with_reducible repeat (first | apply Kd.R_alloc | apply Kd.R_drewN | apply Kd.R_drew)); exact HO_11.out))) (Kd.R_lt (by (with_reducible repeat (first | apply Kd.R_alloc | apply Kd.R_drewN | apply Kd.R_drew)); exact HO929.out))) (below_size (by repeat (first | (with_reducible first | exact HB.out | apply below_alloc | apply pw_below_drewN | apply below_drew1) | exact HB.out)))); have n4_ := Aside0.mk (below_step (by repeat (first | (with_reducible first | exact HB.out | apply below_alloc | apply pw_below_drewN | apply below_drew1) | exact HB.out)) hb); clear HO_5; clear HO_11; clear HO929; clear HB; have HO_5 := n0_; have HO_11 := n1_; have HO929 := n2_; have HO932 := n3_; have HB := n4_; clear n0_ n1_ n2_ n3_ n4_; (try clear hb); (try clear hb2); (try clear hk); (try clear hi); (try clear ho0); obtain ⟨Ao50, co50, eo50⟩ := Kd.R_slice HO_5.out; subst eo50; have p933 : 0 ≤ (x12_3 : Int) := of_decide_eq_true (by first | (with_reducible assumption) | assumption); have q933 : x12_3 < (x5_2.length : Int) := of_decide_eq_true (by first | (with_reducible assumption) | assumption); obtain ⟨ad933, e933, hx933_0⟩ := Kd.at_int (Kd.R_reads' HO_5.out).2.2 x12_3 p933 q933; cases e933; replace p933 := eq_true p933; replace q933 := eq_true q933) | ((with_reducible refine gate_dst (N := 100) rfl ?_); refine Kd.R_lit (Kd.int .u64) _ 22 ?hg (N := 100) ?hd (xs := ([rd x5_2 x12_3] : List Int)) (inner := [.int .u64 (rd x5_2 x12_3)]) (ok := fun _ => True) (okp := fun _ => True) ?hr ?hp (fun _ hk => hk) trivial (Below.refl _ _) (Nat.le_refl _) (by simp) ?_; (case hd => rfl); (case hg => rfl); (case hr => first | (go_simp; done) | (go_simp; rfl)); (case hp => exact (Reps.one (show Kd.M (Kd.int .u64) _ _ _ (rd x5_2 x12_3) [.int .u64 (rd x5_2 x12_3)] from rfl) (Reps.none _ _))); intro v935 w51 ho52 hb hg_ hnew_; clear hg_ hnew_; (first | rw [← Ny934.out] at ho52 | (simp only [Int.reduceToNat] at ho52; rw [← Ny934.out] at ho52)); have n0_ := Aside0.mk (Kd.R_elder' (by (with_reducible repeat (first | apply Kd.R_alloc | apply Kd.R_drewN | apply Kd.R_drew)); exact HO_5.out) (Kd.R_base ho52) hb); have n1_ := Aside0.mk (Kd.R_elder' (by (with_reducible repeat (first | apply Kd.R_alloc | apply Kd.R_drewN | apply Kd.R_drew)); exact HO_11.out) (Kd.R_base ho52) hb); have n2_ := Aside0.mk (Kd.R_elder' (by (with_reducible repeat (first | apply Kd.R_alloc | apply Kd.R_drewN | apply Kd.R_drew)); exact HO929.out) (Kd.R_base ho52) hb); have n3_ := Aside0.mk (Kd.R_elder' (by (with_reducible repeat (first | apply Kd.R_alloc | apply Kd.R_drewN | apply Kd.R_drew)); exact HO932.out) (Kd.R_base ho52) hb); have n4_ := Aside0.mk (Kd.R_lower (Kd.R_new' (Kd.R_new' (Kd.R_new' (Kd.R_new' ho52 (Kd.R_lt (by (with_reducible repeat (first | apply Kd.R_alloc | apply Kd.R_drewN | apply Kd.R_drew)); exact HO_5.out))) (Kd.R_lt (by (with_reducible repeat (first | apply Kd.R_alloc | apply Kd.R_drewN | apply Kd.R_drew)); exact HO_11.out))) (Kd.R_lt (by (with_reducible repeat (first | apply Kd.R_alloc | apply Kd.R_drewN | apply Kd.R_drew)); exact HO929.out))) (Kd.R_lt (by (with_reducible repeat (first | apply Kd.R_alloc | apply Kd.R_drewN | apply Kd.R_drew)); exact HO932.out))) (below_size (by repeat (first | (with_reducible first | exact HB.out | apply below_alloc | apply pw_below_drewN | apply below_drew1) | exact HB.out)))); have n5_ := Aside0.mk (below_step (by repeat (first | (with_reducible first | exact HB.out | apply below_alloc | apply pw_below_drewN | apply below_drew1) | exact HB.out)) hb); clear HO_5; clear HO_11; clear HO929; clear HO932; clear HB; have HO_5 := n0_; have HO_11 := n1_; have HO929 := n2_; have HO932 := n3_; have HO936 := n4_; have HB := n5_; clear n0_ n1_ n2_ n3_ n4_ n5_; clear hb ho52; obtain ⟨Ao53, co53, eo53⟩ := Kd.R_slice HO932.out; subst eo53; obtain ⟨Ao54, co54, eo54⟩ := Kd.R_slice HO936.out; subst eo54) | ((with_reducible refine gate_callee (f := 143) rfl ?_); refine goesL_ (some 101) rfl rfl Try.func143 (by kernel_rfl) rfl #[.int .u64 a0, .slice Ao53 t930.length co53, .slice Ao54 y934.length co54] rfl (by (try simp only [List.map_toArray, List.map_cons, List.map_nil]); first | done | rfl | (simp only [List.length_drop, List.length_take]; rfl)) ?_; (with_reducible refine (poly_Plus.calls k3 a0 _ _ t930 _ _ y934 t937 _ ?side1 ?side2 ?side3 ?side4 A44.out).mono ?_); (case side1 => repeat (first | exact (Kd.R_reads' HO932.out).2.2 | (with_reducible refine Kd.C_alloc ?_ _) | (with_reducible refine Kd.C_drewN ?_ _) | (with_reducible refine Kd.C_drew ?_))); (case side2 => exact (Kd.R_reads' HO932.out).2.1); (case side3 => repeat (first | exact (Kd.R_reads' HO936.out).2.2 | (with_reducible refine Kd.C_alloc ?_ _) | (with_reducible refine Kd.C_drewN ?_ _) | (with_reducible refine Kd.C_drew ?_))); (case side4 => exact (Kd.R_reads' HO936.out).2.1); rintro e w55 ⟨v938, rfl, ho0, hb⟩; refine ⟨_, rfl, ?_⟩; have n0_ := Aside0.mk (Kd.R_elder' (by (with_reducible repeat (first | apply Kd.R_alloc | apply Kd.R_drewN | apply Kd.R_drew)); exact HO_5.out) (Kd.R_base ho0) hb); have n1_ := Aside0.mk (Kd.R_elder' (by (with_reducible repeat (first | apply Kd.R_alloc | apply Kd.R_drewN | apply Kd.R_drew)); exact HO_11.out) (Kd.R_base ho0) hb); have n2_ := Aside0.mk (Kd.R_elder' (by (with_reducible repeat (first | apply Kd.R_alloc | apply Kd.R_drewN | apply Kd.R_drew)); exact HO929.out) (Kd.R_base ho0) hb); have n3_ := Aside0.mk (Kd.R_elder' (by (with_reducible repeat (first | apply Kd.R_alloc | apply Kd.R_drewN | apply Kd.R_drew)); exact HO932.out) (Kd.R_base ho0) hb); have n4_ := Aside0.mk (Kd.R_elder' (by (with_reducible repeat (first | apply Kd.R_alloc | apply Kd.R_drewN | apply Kd.R_drew)); exact HO936.out) (Kd.R_base ho0) hb); have n5_ := Aside0.mk (Kd.R_lower (Kd.R_new' (Kd.R_new' (Kd.R_new' (Kd.R_new' (Kd.R_new' ho0 (Kd.R_lt (by (with_reducible repeat (first | apply Kd.R_alloc | apply Kd.R_drewN | apply Kd.R_drew)); exact HO_5.out))) (Kd.R_lt (by (with_reducible repeat (first | apply Kd.R_alloc | apply Kd.R_drewN | apply Kd.R_drew)); exact HO_11.out))) (Kd.R_lt (by (with_reducible repeat (first | apply Kd.R_alloc | apply Kd.R_drewN | apply Kd.R_drew)); exact HO929.out))) (Kd.R_lt (by (with_reducible repeat (first | apply Kd.R_alloc | apply Kd.R_drewN | apply Kd.R_drew)); exact HO932.out))) (Kd.R_lt (by (with_reducible repeat (first | apply Kd.R_alloc | apply Kd.R_drewN | apply Kd.R_drew)); exact HO936.out))) (below_size (by repeat (first | (with_reducible first | exact HB.out | apply below_alloc | apply pw_below_drewN | apply below_drew1) | exact HB.out)))); have n6_ := Aside0.mk (below_step (by repeat (first | (with_reducible first | exact HB.out | apply below_alloc | apply pw_below_drewN | apply below_drew1) | exact HB.out)) hb); clear HO_5; clear HO_11; clear HO929; clear HO932; clear HO936; clear HB; have HO_5 := n0_; have HO_11 := n1_; have HO929 := n2_; have HO932 := n3_; have HO936 := n4_; have HO939 := n5_; have HB := n6_; clear n0_ n1_ n2_ n3_ n4_ n5_ n6_; (try clear hb); (try clear hb2); (try clear hk); (try clear hi); (try clear ho0)))
                              go_roundg k3
                              case measure => have := HK1.out; have := HK2.out; have := HK3.out; omega
                              case rel => exact ⟨(t937), (wrap64 (x12_3 - 1)), (by first | rfl | (simp; done) | (simp [*]; done)), H', ⟨by have := HK1.out; have := HK2.out; have := HK3.out; omega⟩, ⟨by (with_reducible repeat (first | apply Kd.R_alloc | apply Kd.R_drewN | apply Kd.R_drew)); exact Kd.R_mono HO_5.out (fun _ hk => hk.2)⟩, ⟨by (with_reducible repeat (first | apply Kd.R_alloc | apply Kd.R_drewN | apply Kd.R_drew)); exact Kd.R_mono HO939.out (fun _ hk => hk.1.1.1.1.2)⟩, ⟨by repeat (first | (with_reducible first | exact HB.out | apply below_alloc | apply pw_below_drewN | apply below_drew1) | exact HB.out)⟩⟩
                            · rw [if_neg c43] at H
                              exact absurd H (by simp)
                          · rw [if_neg c40] at H
                            exact absurd H (by simp)
                        · rw [if_neg c39] at H
                          exact absurd H (by simp)
                      · rw [if_neg c38] at H
                        have c38b0 : decide (0 ≤ x12_3) = false := decide_eq_false c38
                        clear c38
                        replace H := Option.bind_eq_some_iff.mp H
                        obtain ⟨t940, A560, H⟩ := H
                        replace H : (some t940) = some r := H
                        have A56 := Aside0.mk A560
                        clear A560
                        obtain rfl := Option.some.inj H
                        obtain ⟨Ao57, co57, eo57⟩ := Kd.R_slice HO_11.out
                        subst eo57
                        go_wp2_with (first | ((with_reducible refine gate_callee (f := 127) rfl ?_); refine goesL_ (some 103) rfl rfl Try.func127 (by kernel_rfl) rfl #[.slice Ao57 x11_3.length co57] rfl (by (try simp only [List.map_toArray, List.map_cons, List.map_nil]); first | done | rfl | (simp only [List.length_drop, List.length_take]; rfl)) ?_; (with_reducible refine (poly_Short.calls k3 _ _ x11_3 t940 _ ?side1 ?side2 A56.out).mono ?_); (case side1 => repeat (first | exact (Kd.R_reads' HO_11.out).2.2 | (with_reducible refine Kd.C_alloc ?_ _) | (with_reducible refine Kd.C_drewN ?_ _) | (with_reducible refine Kd.C_drew ?_))); (case side2 => exact (Kd.R_reads' HO_11.out).2.1); rintro e w58 ⟨v941, rfl, ho0, hb⟩; refine ⟨_, rfl, ?_⟩; have n0_ := Aside0.mk (Kd.R_elder' (by (with_reducible repeat (first | apply Kd.R_alloc | apply Kd.R_drewN | apply Kd.R_drew)); exact HO_5.out) (Kd.R_base ho0) hb); have n1_ := Aside0.mk (Kd.R_elder' (by (with_reducible repeat (first | apply Kd.R_alloc | apply Kd.R_drewN | apply Kd.R_drew)); exact HO_11.out) (Kd.R_base ho0) hb); have n2_ := Aside0.mk (Kd.R_lower (Kd.R_new' (Kd.R_new' ho0 (Kd.R_lt (by (with_reducible repeat (first | apply Kd.R_alloc | apply Kd.R_drewN | apply Kd.R_drew)); exact HO_5.out))) (Kd.R_lt (by (with_reducible repeat (first | apply Kd.R_alloc | apply Kd.R_drewN | apply Kd.R_drew)); exact HO_11.out))) (below_size (by repeat (first | (with_reducible first | exact HB.out | apply below_alloc | apply pw_below_drewN | apply below_drew1) | exact HB.out)))); have n3_ := Aside0.mk (below_step (by repeat (first | (with_reducible first | exact HB.out | apply below_alloc | apply pw_below_drewN | apply below_drew1) | exact HB.out)) hb); clear HO_5; clear HO_11; clear HB; have HO_5 := n0_; have HO_11 := n1_; have HO942 := n2_; have HB := n3_; clear n0_ n1_ n2_ n3_; (try clear hb); (try clear hb2); (try clear hk); (try clear hi); (try clear ho0)))
                        go_ret
                        exact ⟨_, by first | rfl | (simp [errW_none, errW_some] <;> rfl) | (simp [*, errW_none, errW_some] <;> rfl), by (with_reducible repeat (first | apply Kd.R_alloc | apply Kd.R_drewN | apply Kd.R_drew)); exact Kd.R_mono HO942.out (fun _ hk => trivial), by repeat (first | (with_reducible first | exact HB.out | apply below_alloc | apply pw_below_drewN | apply below_drew1) | exact HB.out)⟩
    · rw [if_neg c4] at H
      exact absurd H (by simp)
  · rw [if_neg c3] at H
    exact absurd H (by simp)

end Go.Proofs.Ytjjnfobeeflnhaa.J

/- What Go functions of the program compute, as plain Lean functions, and that the machine comes to just these answers (written by a program for this seat). -/
namespace Go.Proofs.Ytjjnfobeeflnhaa.J
open Go.RowKit Go.Proofs.YtjjnfobeeflnhaaW.PrintWords Go.Proofs.YtjjnfobeeflnhaaW.PrintLast Go.Proofs.YtjjnfobeeflnhaaW.PrintMore
attribute [local go_sem] max2_int min2_int max_two min_two max_three min_three max_four min_four   -- for this text's walks alone
set_option linter.unusedVariables false
set_option linter.unusedSimpArgs false

/-! ### slices_Values_uint64_uint64: function 168 -/
section
open Go.Shelf
attribute [local go_sem] Oper.semAt_some
set_option maxRecDepth 100000 in
set_option maxHeartbeats 2000000 in
/-- The closure that Values hands back: every element in its order. -/
theorem slices_Values_uint64_uint64_in (F : Fence) (n : Nat) (h7 : F.fn 176) (hro : F.round = none) (hn : 1 ≤ n) (l Bs n₀ cap : Nat) (A : Option Addr) (zs : List Int) (hA : ∀ ad, A = some ad → 0 < zs.length → ad.block < n₀) (J Jx : List Int → World → Prop)
    (hY : ∀ pre x W, J pre W → pre.length < zs.length → YieldAt F (n - 1) Try.prog l #[.int .u64 x] W fun e W' =>
      (e = .returned (.bool true) ∧ J (pre ++ [x]) W' ∧ Below n₀ W W') ∨ (e = .returned (.bool false) ∧ Jx (pre ++ [x]) W'))
    (W : World) (hBs : W.cell? ⟨Bs, 0, none⟩ = some (.slice A zs.length cap)) (hc : Kd.C (Kd.int .u64) W A zs.length zs) (h0 : J [] W) :
    CallsIn F n Try.prog 176 #[.func (.yield l) #[] #[], .pointer (some ⟨Bs, 0, none⟩)] W fun e W' => (∃ v, e = .returned v) ∧
      ((∃ ys, ys = zs ∧ J ys W') ∨ (∃ pre, (∃ k, k ≤ zs.length ∧ pre = zs.take k) ∧ Jx pre W')) := by
  refine callsIn_of_wp Try.func176 rfl h7 ?_ hro
  simp only [Try.ntmps176, List.size_toArray, List.length_cons, List.length_nil, Nat.reduceAdd, Nat.reduceSub, Array.replicate_succ, Array.replicate_zero, List.push_toArray, List.append_toArray, List.nil_append, List.cons_append]
  have HC := Aside0.mk hc
  clear hc
  have hlen : zs.length ≤ 9223372036854775807 := HC.out.2.1
  generalize hL : zs.length = len at *
  have HL := Aside0.mk hL
  clear hL
  gi_wp2
  gi_loopw [7] (fun i wr => ∃ k : Nat, k ≤ len ∧ i = .int .i64 k ∧ J (zs.take k) wr ∧ Below n₀ W wr)
    (fun i _ => len - (intOf i).toNat)
  case atStart => exact ⟨0, Nat.zero_le _, rfl, h0, Below.refl _ _⟩
  case round =>
    obtain ⟨k, hk, rfl, hJs, hnx⟩ := hrel
    by_cases hlt : k < len
    · obtain ⟨ad, hcx⟩ : ∃ ad, A = some ad ∧ wr.cell? (ad.add k) = some (.int .u64 (zs[k]?.getD 0)) := by
        obtain ⟨ad, e, h⟩ := Kd.at_int HC.out (k : Int) (by omega) (by omega)
        refine ⟨ad, e, ?_⟩
        have hbl := hA ad e (by omega)
        simp only [Int.toNat_natCast, rd, List.getD_eq_getElem?_getD] at h
        refine (hnx.cell (p := ad.add k) ?_).trans h
        rw [show (ad.add k).block = ad.block by unfold Addr.add; split <;> rfl]
        exact hbl
      obtain ⟨rfl, hcx⟩ := hcx
      have hpl : (zs.take k).length = k := by rw [List.length_take, HL.out]; omega
      have hsucc : zs.take (k + 1) = zs.take k ++ [zs[k]?.getD 0] := by
        have hk' : k < zs.length := by rw [HL.out]; exact hlt
        rw [List.take_succ_eq_append_getElem hk', List.getElem?_eq_getElem hk']; rfl
      obtain ⟨fn, tmps, assign, body, hy, hR⟩ := hY _ (zs[k]?.getD 0) wr hJs (by rw [hpl]; exact hlt)
      have HS := Aside0.mk hsucc
      clear hsucc hpl
      gi_wp2
      refine hR.mono ?_
      rintro e W3 (⟨rfl, hJ3, hk3⟩ | ⟨rfl, hJx3⟩)
      · gi_wp2
        go_roundw
        case rel => exact ⟨k + 1, by omega, by simp, by rw [HS.out]; exact hJ3, hnx.trans hk3⟩
        case measure => simp [intOf]; omega
      · gi_wp2
        refine bodyPost_ret (results_none rfl _ _ _) rfl ?_
        exact ⟨⟨_, rfl⟩, .inr ⟨_, ⟨k + 1, by omega, HS.out.symm⟩, hJx3⟩⟩
    · obtain rfl : k = len := by omega
      have hall : zs.take k = zs := by rw [List.take_of_length_le (by rw [HL.out]; exact Nat.le_refl _)]
      rw [hall] at hJs
      clear hall
      gi_wp2
      go_end0
      exact ⟨⟨_, rfl⟩, .inl ⟨_, rfl, hJs⟩⟩
set_option maxHeartbeats 1000000 in
theorem slices_Values_uint64_uint64_mk (a : Option Addr) (len cap : Nat) (w : World) :
    Calls Try.prog 168 #[.slice a len cap] w fun e w' => e = .returned (.func (.func 176) #[] #[.pointer (some ⟨w.heap.size, 0, none⟩)]) ∧ w' = w.alloc (.cells #[.slice a len cap] 31) := by
  go_enter Try.func168, Try.ntmps168
  go_wp2
  go_ret
  exact ⟨rfl, rfl⟩
theorem slices_Values_uint64_uint64_stops (F : Fence) (n : Nat) (h7 : F.fn 176) (hro : F.round = none) (hn : 1 ≤ n) (Bs n₀ cap : Nat) (A : Option Addr) (zs : List Int) (w : World) (hBs : Bs < w.heap.size) (hn₀ : n₀ ≤ w.heap.size)
    (hc : w.cell? ⟨Bs, 0, none⟩ = some (.slice A zs.length cap)) (hC : Kd.C (Kd.int .u64) w A zs.length zs) (hA : ∀ ad, A = some ad → 0 < zs.length → ad.block < n₀) :
    SeqStopsK F n Try.prog 176 #[.pointer (some ⟨Bs, 0, none⟩)] (fun x : Int => #[Value.int .u64 x]) (Below n₀) (fun ys => ys = zs)
      (fun pre => ∃ k, k ≤ zs.length ∧ pre = zs.take k) zs.length w := fun l J Jx W hW _ _ hY h0 => by
  have hc' := (hW.cell (p := ⟨Bs, 0, none⟩) hBs).trans hc
  exact slices_Values_uint64_uint64_in F n h7 hro hn l Bs n₀ cap A zs hA J Jx hY W hc' (Kd.C_below hC hW) h0
end

end Go.Proofs.Ytjjnfobeeflnhaa.J

/- What Go functions of the program compute, as plain Lean functions, and that the machine comes to just these answers (written by a program for this seat). -/
namespace Go.Proofs.Ytjjnfobeeflnhaa.J
open Go.RowKit Go.Proofs.YtjjnfobeeflnhaaW.PrintWords Go.Proofs.YtjjnfobeeflnhaaW.PrintLast Go.Proofs.YtjjnfobeeflnhaaW.PrintMore
attribute [local go_sem] max2_int min2_int max_two min_two max_three min_three max_four min_four   -- for this text's walks alone
set_option linter.unusedVariables false
set_option linter.unusedSimpArgs false

/-! ### poly_two: function 156 -/
def poly_two.f (k : Nat) (d : Nat → Int → List Int → List Int → Option (List Int)) (a0 : Int) (l1 : List Int) (l2 : List Int) : Option (List Int × Int) := (poly_Is.f k a0 (([l1, l2] : List (List Int)))).bind fun t1407 => (if t1407 = 0 then ((d k a0 l1 l2).bind fun t1408 => (some (t1408, 0))) else (some (([] : List Int), t1407)))
theorem poly_two.mono (d : Nat → Int → List Int → List Int → Option (List Int)) (hd : ∀ a l m k, LeO (d k a l m) (d (k + 1) a l m)) : ∀ a0 a1 a2 k, LeO (poly_two.f k d a0 a1 a2) (poly_two.f (k + 1) d a0 a1 a2) := by
  intro a0 a1 a2 k
  unfold poly_two.f
  repeat' first
      | (with_reducible exact poly_Is.mono _ _ _)
      | (with_reducible exact hd _ _ _ _)
      | (with_reducible exact LeO.refl _)
      | (with_reducible exact LeO.none _)
      | (with_reducible refine LeO.ite ?_ ?_)
      | (with_reducible refine LeO.bind ?_ (fun _ => ?_))
      | exact poly_Is.mono _ _ _
      | exact hd _ _ _ _
      | exact LeO.none _
      | refine LeO.ite ?_ ?_
      | refine LeO.bind ?_ (fun _ => ?_)
set_option maxHeartbeats 8000000 in
set_option maxRecDepth 100000 in
theorem poly_two.calls (k : Nat) (d : Nat → Int → List Int → List Int → Option (List Int)) (fid : FuncId) (hE : ∀ args w, (callFunc fid args).run Try.prog w = .ok (.enter fid args) w)
    (hD : ∀ (k : Nat) (a : Int) (A1 : Option Addr) (c1 : Nat) (l1 : List Int) (A2 : Option Addr) (c2 : Nat) (l2 : List Int) (r : List Int) (w : World), Kd.C (Kd.int .u64) w A1 l1.length l1 → l1.length ≤ c1 → Kd.C (Kd.int .u64) w A2 l2.length l2 → l2.length ≤ c2 → d k a l1 l2 = some r →
      Calls Try.prog fid #[.int .u64 a, .slice A1 l1.length c1, .slice A2 l2.length c2] w fun e w' => ∃ v0_ : Value, e = .returned (v0_) ∧ Kd.R (Kd.int .u64) 22 w' w.heap.size (fun _ => True) v0_ r ∧ Below w.heap.size w w')
    (a0 : Int) (P1_ : Nat → Prop) (A1 : Option Addr) (c1 : Nat) (l1 : List Int) (P2_ : Nat → Prop) (A2 : Option Addr) (c2 : Nat) (l2 : List Int) (r1 : List Int) (r2 : Int) (w : World) (hs1 : Kd.V (Kd.int .u64) 22 w w.heap.size (fun k_ => P1_ k_) (.slice A1 l1.length c1) l1) (hs2 : Kd.V (Kd.int .u64) 22 w w.heap.size (fun k_ => P2_ k_) (.slice A2 l2.length c2) l2) (h : poly_two.f k d a0 l1 l2 = some (r1, r2)) :
    Calls Try.prog 156 #[.int .u64 a0, .slice A1 l1.length c1, .slice A2 l2.length c2, .func (.func fid) #[] #[]] w fun e w' => ∃ v0_ : Value, e = .returned (.tuple #[v0_, .int .i64 r2]) ∧ Kd.R (Kd.int .u64) 22 w' w.heap.size (fun k_ => (w.heap.size ≤ k_)) v0_ r1 ∧ Below w.heap.size w w' := by
  have HO1 := Aside0.mk (show Kd.V (Kd.int .u64) 22 w w.heap.size (fun k_ => ((P1_ k_ ∨ P2_ k_) ∨ w.heap.size ≤ k_)) (.slice A1 l1.length c1) l1 from Kd.V_mono hs1 (fun k_ hk => .inl (.inl hk)))
  have HO2 := Aside0.mk (show Kd.V (Kd.int .u64) 22 w w.heap.size (fun k_ => ((P1_ k_ ∨ P2_ k_) ∨ w.heap.size ≤ k_)) (.slice A2 l2.length c2) l2 from Kd.V_mono hs2 (fun k_ hk => .inl (.inr hk)))
  have HB := Aside0.mk (Below.refl w.heap.size w)
  have HE := Aside0.mk hE
  have HD := Aside0.mk hD
  clear hE hD
  have H : ((poly_Is.f k a0 (([l1, l2] : List (List Int)))).bind fun t1407 => (if t1407 = 0 then ((d k a0 l1 l2).bind fun t1408 => (some (t1408, 0))) else (some (([] : List Int), t1407)))) = some (r1, r2) := h
  clear h
  obtain ⟨y1404, hy1404⟩ : ∃ y_ : List (List Int), y_ = (([l1, l2] : List (List Int))) := ⟨_, rfl⟩
  replace H : ((poly_Is.f k a0 y1404).bind fun t1407 => (if t1407 = 0 then ((d k a0 l1 l2).bind fun t1408 => (some (t1408, 0))) else (some (([] : List Int), t1407)))) = some (r1, r2) := by first | (rw [hy1404]; with_reducible exact H) | (have H2_ := (Option.bind_some _ _).symm.trans H; rw [hy1404]; with_reducible exact H2_) | (have H2_ := (Option.bind_some _ _).symm.trans H; with_reducible exact H2_) | with_reducible exact H | (rw [hy1404]; exact H) | exact H
  have Ny1404 := Aside0.mk hy1404
  clear hy1404
  replace H := Option.bind_eq_some_iff.mp H
  obtain ⟨t1407, A40, H⟩ := H
  replace H : (if t1407 = 0 then ((d k a0 l1 l2).bind fun t1408 => (some (t1408, 0))) else (some (([] : List Int), t1407))) = some (r1, r2) := H
  have A4 := Aside0.mk A40
  clear A40
  by_cases c5 : t1407 = 0
  · rw [if_pos c5] at H
    have c5b0 : (t1407 == 0) = true := beq_iff_eq.mpr c5
    have c5b1 : (t1407 != 0) = false := bne_eq_false_iff_eq.mpr c5
    clear c5
    replace H := Option.bind_eq_some_iff.mp H
    obtain ⟨t1408, A60, H⟩ := H
    replace H : (some (t1408, 0)) = some (r1, r2) := H
    have A6 := Aside0.mk A60
    clear A60
    simp only [Option.some.injEq, Prod.mk.injEq] at H
    obtain ⟨rfl, rfl⟩ := H
    go_enter Try.func156, Try.ntmps156
    go_wp2_with (first | ((with_reducible refine gate_dst (N := 14) rfl ?_); refine Kd.N_lit (Kd.slice 22 (Kd.int .u64)) _ 31 ?hg (N' := 14) ?hd (xs := ([l1, l2] : List (List Int))) (inner := [.slice A1 l1.length c1, .slice A2 l2.length c2]) (ok := (fun k_ => ((P1_ k_ ∨ P2_ k_) ∨ w.heap.size ≤ k_))) (okp := (fun k_ => ((P1_ k_ ∨ P2_ k_) ∨ w.heap.size ≤ k_))) ?hr ?hp (fun _ hk => hk) ((show ∀ k_, w.heap.size ≤ k_ → (fun k_ => ((P1_ k_ ∨ P2_ k_) ∨ w.heap.size ≤ k_)) k_ from fun k_ hk => (.inr (Nat.le_trans (below_size (by repeat (first | (with_reducible first | exact HB.out | apply below_alloc | apply pw_below_drewN | apply below_drew1) | exact HB.out))) hk))) _ (Nat.le_refl _)) (Below.refl _ _) (Nat.le_refl _) (by simp) ?_; (case hd => rfl); (case hg => rfl); (case hr => first | (go_simp; done) | (go_simp; rfl)); (case hp => exact (Reps.one (show Kd.FK (Kd.slice 22 (Kd.int .u64)) _ _ l1 [.slice A1 l1.length c1] from (Kd.FK_slice_mk (Kd.V_reads' (Kd.V_mono (ok' := (fun k_ => ((P1_ k_ ∨ P2_ k_) ∨ w.heap.size ≤ k_))) (HO1.out) (fun k_ hk => hk))).2.1 (Kd.V_F (Kd.V_mono (ok' := (fun k_ => ((P1_ k_ ∨ P2_ k_) ∨ w.heap.size ≤ k_))) (HO1.out) (fun k_ hk => hk))))) (Reps.one (show Kd.FK (Kd.slice 22 (Kd.int .u64)) _ _ l2 [.slice A2 l2.length c2] from (Kd.FK_slice_mk (Kd.V_reads' (Kd.V_mono (ok' := (fun k_ => ((P1_ k_ ∨ P2_ k_) ∨ w.heap.size ≤ k_))) (HO2.out) (fun k_ hk => hk))).2.1 (Kd.V_F (Kd.V_mono (ok' := (fun k_ => ((P1_ k_ ∨ P2_ k_) ∨ w.heap.size ≤ k_))) (HO2.out) (fun k_ hk => hk))))) (Reps.none _ _)))); intro v1405 w7 ho8 hb hg_ hnew_; clear hg_ hnew_; (first | rw [← Ny1404.out] at ho8 | (simp only [Int.reduceToNat] at ho8; rw [← Ny1404.out] at ho8)); have n0_ := Aside0.mk (Kd.V_elder' (by (with_reducible repeat (first | apply Kd.V_alloc | apply Kd.V_drewN | apply Kd.V_drew)); exact HO1.out) (Kd.N_base ho8) hb); have n1_ := Aside0.mk (Kd.V_elder' (by (with_reducible repeat (first | apply Kd.V_alloc | apply Kd.V_drewN | apply Kd.V_drew)); exact HO2.out) (Kd.N_base ho8) hb); have n2_ := Aside0.mk (Kd.N_lower ho8 (below_size (by repeat (first | (with_reducible first | exact HB.out | apply below_alloc | apply pw_below_drewN | apply below_drew1) | exact HB.out)))); have n3_ := Aside0.mk (below_step (by repeat (first | (with_reducible first | exact HB.out | apply below_alloc | apply pw_below_drewN | apply below_drew1) | exact HB.out)) hb); clear HO1; clear HO2; clear HB; have HO1 := n0_; have HO2 := n1_; have HO1406 := n2_; have HB := n3_; clear n0_ n1_ n2_ n3_; clear hb ho8; obtain ⟨Ao9, co9, eo9⟩ := Kd.N_slice HO1406.out; subst eo9) | ((with_reducible refine gate_callee (f := 138) rfl ?_); refine goesL_ (some 15) rfl rfl Try.func138 (by kernel_rfl) rfl #[.int .u64 a0, .slice Ao9 y1404.length co9] rfl (by (try simp only [List.map_toArray, List.map_cons, List.map_nil]); first | done | rfl | (simp only [List.length_drop, List.length_take]; rfl)) ?_; (with_reducible refine (poly_Is.calls k a0 _ _ y1404 t1407 _ ?side1 ?side2 A4.out).mono ?_); (case side1 => repeat (first | exact (Kd.N_reads' HO1406.out).2.2 | (with_reducible refine Kd.C_alloc ?_ _) | (with_reducible refine Kd.C_drewN ?_ _) | (with_reducible refine Kd.C_drew ?_))); (case side2 => exact (Kd.N_reads' HO1406.out).2.1); rintro e w' ⟨rfl, ⟨nd, rfl⟩⟩; refine ⟨_, rfl, ?_⟩) | ((with_reducible refine gate_dst (N := 23) rfl ?_); refine poly_each.goesT (some 23) rfl rfl HE.out #[.int .u64 a0, .slice A1 l1.length c1, .slice A2 l2.length c2] rfl rfl (by (try simp only [List.map_toArray, List.map_cons, List.map_nil]); first | done | rfl | (simp only [List.length_drop, List.length_take]; rfl)) ?_; (with_reducible refine (HD.out k a0 _ _ l1 _ _ l2 t1408 _ ?side1 ?side2 ?side3 ?side4 A6.out).mono ?_); (case side1 => repeat (first | exact (Kd.V_reads' HO1.out).2.2 | (with_reducible refine Kd.C_alloc ?_ _) | (with_reducible refine Kd.C_drewN ?_ _) | (with_reducible refine Kd.C_drew ?_))); (case side2 => exact (Kd.V_reads' HO1.out).2.1); (case side3 => repeat (first | exact (Kd.V_reads' HO2.out).2.2 | (with_reducible refine Kd.C_alloc ?_ _) | (with_reducible refine Kd.C_drewN ?_ _) | (with_reducible refine Kd.C_drew ?_))); (case side4 => exact (Kd.V_reads' HO2.out).2.1); rintro e w10 ⟨v1409, rfl, ho0, hb⟩; refine ⟨_, rfl, ?_⟩; have n0_ := Aside0.mk (Kd.V_elder' (by (with_reducible repeat (first | apply Kd.V_alloc | apply Kd.V_drewN | apply Kd.V_drew)); exact HO1.out) (Kd.R_base ho0) hb); have n1_ := Aside0.mk (Kd.V_elder' (by (with_reducible repeat (first | apply Kd.V_alloc | apply Kd.V_drewN | apply Kd.V_drew)); exact HO2.out) (Kd.R_base ho0) hb); have n2_ := Aside0.mk (Kd.N_elder' (by (with_reducible repeat (first | apply Kd.N_alloc | apply Kd.N_drewN | apply Kd.N_drew)); exact HO1406.out) (Kd.R_base ho0) hb); have n3_ := Aside0.mk (Kd.R_lower (Kd.R_newM (M := fun k_ => (w.heap.size ≤ k_)) ho0 (below_size (by repeat (first | (with_reducible first | exact HB.out | apply below_alloc | apply pw_below_drewN | apply below_drew1) | exact HB.out))) (fun k_ h_ => h_)) (below_size (by repeat (first | (with_reducible first | exact HB.out | apply below_alloc | apply pw_below_drewN | apply below_drew1) | exact HB.out)))); have n4_ := Aside0.mk (below_step (by repeat (first | (with_reducible first | exact HB.out | apply below_alloc | apply pw_below_drewN | apply below_drew1) | exact HB.out)) hb); clear HO1; clear HO2; clear HO1406; clear HB; have HO1 := n0_; have HO2 := n1_; have HO1406 := n2_; have HO1410 := n3_; have HB := n4_; clear n0_ n1_ n2_ n3_ n4_; (try clear hb); (try clear hb2); (try clear hk); (try clear hi); (try clear ho0)))
    go_ret2
    exact ⟨_, by first | rfl | (simp [errW_none, errW_some] <;> rfl) | (simp [*, errW_none, errW_some] <;> rfl), by (with_reducible repeat (first | apply Kd.R_alloc | apply Kd.R_drewN | apply Kd.R_drew)); exact Kd.R_mono HO1410.out (fun _ hk => hk.1), by repeat (first | (with_reducible first | exact HB.out | apply below_alloc | apply pw_below_drewN | apply below_drew1) | exact HB.out)⟩
  · rw [if_neg c5] at H
    have c5b0 : (t1407 == 0) = false := beq_eq_false_iff_ne.mpr c5
    have c5b1 : (t1407 != 0) = true := bne_iff_ne.mpr c5
    simp only [Option.some.injEq, Prod.mk.injEq] at H
    obtain ⟨rfl, rfl⟩ := H
    go_enter Try.func156, Try.ntmps156
    go_wp2_with (first | ((with_reducible refine gate_dst (N := 14) rfl ?_); refine Kd.N_lit (Kd.slice 22 (Kd.int .u64)) _ 31 ?hg (N' := 14) ?hd (xs := ([l1, l2] : List (List Int))) (inner := [.slice A1 l1.length c1, .slice A2 l2.length c2]) (ok := (fun k_ => ((P1_ k_ ∨ P2_ k_) ∨ w.heap.size ≤ k_))) (okp := (fun k_ => ((P1_ k_ ∨ P2_ k_) ∨ w.heap.size ≤ k_))) ?hr ?hp (fun _ hk => hk) ((show ∀ k_, w.heap.size ≤ k_ → (fun k_ => ((P1_ k_ ∨ P2_ k_) ∨ w.heap.size ≤ k_)) k_ from fun k_ hk => (.inr (Nat.le_trans (below_size (by repeat (first | (with_reducible first | exact HB.out | apply below_alloc | apply pw_below_drewN | apply below_drew1) | exact HB.out))) hk))) _ (Nat.le_refl _)) (Below.refl _ _) (Nat.le_refl _) (by simp) ?_; (case hd => rfl); (case hg => rfl); (case hr => first | (go_simp; done) | (go_simp; rfl)); (case hp => exact (Reps.one (show Kd.FK (Kd.slice 22 (Kd.int .u64)) _ _ l1 [.slice A1 l1.length c1] from (Kd.FK_slice_mk (Kd.V_reads' (Kd.V_mono (ok' := (fun k_ => ((P1_ k_ ∨ P2_ k_) ∨ w.heap.size ≤ k_))) (HO1.out) (fun k_ hk => hk))).2.1 (Kd.V_F (Kd.V_mono (ok' := (fun k_ => ((P1_ k_ ∨ P2_ k_) ∨ w.heap.size ≤ k_))) (HO1.out) (fun k_ hk => hk))))) (Reps.one (show Kd.FK (Kd.slice 22 (Kd.int .u64)) _ _ l2 [.slice A2 l2.length c2] from (Kd.FK_slice_mk (Kd.V_reads' (Kd.V_mono (ok' := (fun k_ => ((P1_ k_ ∨ P2_ k_) ∨ w.heap.size ≤ k_))) (HO2.out) (fun k_ hk => hk))).2.1 (Kd.V_F (Kd.V_mono (ok' := (fun k_ => ((P1_ k_ ∨ P2_ k_) ∨ w.heap.size ≤ k_))) (HO2.out) (fun k_ hk => hk))))) (Reps.none _ _)))); intro v1405 w11 ho12 hb hg_ hnew_; clear hg_ hnew_; (first | rw [← Ny1404.out] at ho12 | (simp only [Int.reduceToNat] at ho12; rw [← Ny1404.out] at ho12)); have n0_ := Aside0.mk (Kd.V_elder' (by (with_reducible repeat (first | apply Kd.V_alloc | apply Kd.V_drewN | apply Kd.V_drew)); exact HO1.out) (Kd.N_base ho12) hb); have n1_ := Aside0.mk (Kd.V_elder' (by (with_reducible repeat (first | apply Kd.V_alloc | apply Kd.V_drewN | apply Kd.V_drew)); exact HO2.out) (Kd.N_base ho12) hb); have n2_ := Aside0.mk (Kd.N_lower ho12 (below_size (by repeat (first | (with_reducible first | exact HB.out | apply below_alloc | apply pw_below_drewN | apply below_drew1) | exact HB.out)))); have n3_ := Aside0.mk (below_step (by repeat (first | (with_reducible first | exact HB.out | apply below_alloc | apply pw_below_drewN | apply below_drew1) | exact HB.out)) hb); clear HO1; clear HO2; clear HB; have HO1 := n0_; have HO2 := n1_; have HO1406 := n2_; have HB := n3_; clear n0_ n1_ n2_ n3_; clear hb ho12; obtain ⟨Ao13, co13, eo13⟩ := Kd.N_slice HO1406.out; subst eo13) | ((with_reducible refine gate_callee (f := 138) rfl ?_); refine goesL_ (some 15) rfl rfl Try.func138 (by kernel_rfl) rfl #[.int .u64 a0, .slice Ao13 y1404.length co13] rfl (by (try simp only [List.map_toArray, List.map_cons, List.map_nil]); first | done | rfl | (simp only [List.length_drop, List.length_take]; rfl)) ?_; (with_reducible refine (poly_Is.calls k a0 _ _ y1404 t1407 _ ?side1 ?side2 A4.out).mono ?_); (case side1 => repeat (first | exact (Kd.N_reads' HO1406.out).2.2 | (with_reducible refine Kd.C_alloc ?_ _) | (with_reducible refine Kd.C_drewN ?_ _) | (with_reducible refine Kd.C_drew ?_))); (case side2 => exact (Kd.N_reads' HO1406.out).2.1); rintro e w' ⟨rfl, ⟨nd, rfl⟩⟩; refine ⟨_, rfl, ?_⟩))
    go_ret2
    exact ⟨_, by first | rfl | (simp [errW_none, errW_some] <;> rfl) | (simp [*, errW_none, errW_some] <;> rfl), by first | exact Kd.R_nil _ _ _ _ _ | exact Kd.N_nil _ _ _ _ _ | exact Kd.V_nil _ _ _ _ _ | exact Kd.Q_nil _ _ _ _ _ | exact Kd.S_nil _ _ _ _ _, by repeat (first | (with_reducible first | exact HB.out | apply below_alloc | apply pw_below_drewN | apply below_drew1) | exact HB.out)⟩

end Go.Proofs.Ytjjnfobeeflnhaa.J

/- What Go functions of the program compute, as plain Lean functions, and that the machine comes to just these answers (written by a program for this seat). -/
namespace Go.Proofs.Ytjjnfobeeflnhaa.J
open Go.RowKit Go.Proofs.YtjjnfobeeflnhaaW.PrintWords Go.Proofs.YtjjnfobeeflnhaaW.PrintLast Go.Proofs.YtjjnfobeeflnhaaW.PrintMore
attribute [local go_sem] max2_int min2_int max_two min_two max_three min_three max_four min_four   -- for this text's walks alone
set_option linter.unusedVariables false
set_option linter.unusedSimpArgs false

/-! ### poly_Add: function 104 -/
def poly_Add.f (k : Nat) (a0 : Int) (l1 : List Int) (l2 : List Int) : Option (List Int × Int) := (poly_two.f k (fun k_ a_ l_ m_ => poly_Plus.f k_ a_ l_ m_) a0 l1 l2).bind fun bt1431 => (some (bt1431.1, bt1431.2))
theorem poly_Add.mono : ∀ a0 a1 a2 k, LeO (poly_Add.f k a0 a1 a2) (poly_Add.f (k + 1) a0 a1 a2) := by
  intro a0 a1 a2 k
  unfold poly_Add.f
  repeat' first
      | (with_reducible exact poly_two.mono _ (fun a l m k => poly_Plus.mono a l m k) _ _ _ _)
      | (with_reducible exact LeO.refl _)
      | (with_reducible exact LeO.none _)
      | (with_reducible refine LeO.ite ?_ ?_)
      | (with_reducible refine LeO.bind ?_ (fun _ => ?_))
      | exact poly_two.mono _ (fun a l m k => poly_Plus.mono a l m k) _ _ _ _
      | exact LeO.none _
      | refine LeO.ite ?_ ?_
      | refine LeO.bind ?_ (fun _ => ?_)
set_option maxHeartbeats 8000000 in
set_option maxRecDepth 100000 in
theorem poly_Add.calls (k : Nat) (a0 : Int) (A1 : Option Addr) (c1 : Nat) (l1 : List Int) (A2 : Option Addr) (c2 : Nat) (l2 : List Int) (r1 : List Int) (r2 : Int) (w : World) (hr1 : Kd.C (Kd.int .u64) w A1 l1.length l1) (hc1 : l1.length ≤ c1) (hr2 : Kd.C (Kd.int .u64) w A2 l2.length l2) (hc2 : l2.length ≤ c2) (h : poly_Add.f k a0 l1 l2 = some (r1, r2)) :
    Calls Try.prog 104 #[.int .u64 a0, .slice A1 l1.length c1, .slice A2 l2.length c2] w fun e w' => ∃ v0_ : Value, e = .returned (.tuple #[v0_, .int .i64 r2]) ∧ Kd.R (Kd.int .u64) 22 w' w.heap.size (fun _ => True) v0_ r1 ∧ Below w.heap.size w w' := by
  have HR1 := Aside0.mk hr1
  have HC1 := Aside0.mk hc1
  clear hr1 hc1
  have HR2 := Aside0.mk hr2
  have HC2 := Aside0.mk hc2
  clear hr2 hc2
  have HB := Aside0.mk (Below.refl w.heap.size w)
  have H : ((poly_two.f k (fun k_ a_ l_ m_ => poly_Plus.f k_ a_ l_ m_) a0 l1 l2).bind fun bt1431 => (some (bt1431.1, bt1431.2))) = some (r1, r2) := h
  clear h
  replace H := Option.bind_eq_some_iff.mp H
  obtain ⟨⟨t1431, t1434⟩, A40, H⟩ := H
  replace H : (some (t1431, t1434)) = some (r1, r2) := H
  have A4 := Aside0.mk A40
  clear A40
  simp only [Option.some.injEq, Prod.mk.injEq] at H
  obtain ⟨rfl, rfl⟩ := H
  go_enter Try.func104, Try.ntmps104
  go_wp2_with (first | ((with_reducible refine gate_callee (f := 156) rfl ?_); refine goesL_ (some 11) rfl rfl Try.func156 (by kernel_rfl) rfl #[.int .u64 a0, .slice A1 l1.length c1, .slice A2 l2.length c2, .func (.func 143) #[] #[]] rfl (by (try simp only [List.map_toArray, List.map_cons, List.map_nil]); first | done | rfl | (simp only [List.length_drop, List.length_take]; rfl)) ?_; (with_reducible refine (poly_two.calls k (fun k_ a_ l_ m_ => poly_Plus.f k_ a_ l_ m_) 143 (fun args w => enters_ Try.func143 (by kernel_rfl) rfl args w) (fun k_ a_ A1_ c1_ l1_ A2_ c2_ l2_ r_ w_ h1_ h2_ h3_ h4_ h_ => poly_Plus.calls k_ a_ A1_ c1_ l1_ A2_ c2_ l2_ r_ w_ h1_ h2_ h3_ h4_ h_) a0 (fun k_ => k_ < w.heap.size) _ _ l1 (fun k_ => k_ < w.heap.size) _ _ l2 t1431 t1434 _ ?side1 ?side2 A4.out).mono ?_); (case side1 => exact Kd.V_mk HC1.out (Kd.F_below (Kd.C_F (Kd.heap_int .u64) HR1.out) (by repeat (first | (with_reducible first | exact HB.out | apply below_alloc | apply pw_below_drewN | apply below_drew1) | exact HB.out)))); (case side2 => exact Kd.V_mk HC2.out (Kd.F_below (Kd.C_F (Kd.heap_int .u64) HR2.out) (by repeat (first | (with_reducible first | exact HB.out | apply below_alloc | apply pw_below_drewN | apply below_drew1) | exact HB.out)))); rintro e w5 ⟨v1432, rfl, ho0, hb⟩; refine ⟨_, rfl, ?_⟩; have n0_ := Aside0.mk (Kd.R_lower (Kd.R_mono (ok' := fun k_ => True) ho0 (fun _ hk_ => trivial)) (below_size (by repeat (first | (with_reducible first | exact HB.out | apply below_alloc | apply pw_below_drewN | apply below_drew1) | exact HB.out)))); have n1_ := Aside0.mk (below_step (by repeat (first | (with_reducible first | exact HB.out | apply below_alloc | apply pw_below_drewN | apply below_drew1) | exact HB.out)) hb); clear HB; have HO1433 := n0_; have HB := n1_; clear n0_ n1_; (try clear hb); (try clear hb2); (try clear hk); (try clear hi); (try clear ho0)))
  go_ret2
  exact ⟨_, by first | rfl | (simp [errW_none, errW_some] <;> rfl) | (simp [*, errW_none, errW_some] <;> rfl), by (with_reducible repeat (first | apply Kd.R_alloc | apply Kd.R_drewN | apply Kd.R_drew)); exact HO1433.out, by repeat (first | (with_reducible first | exact HB.out | apply below_alloc | apply pw_below_drewN | apply below_drew1) | exact HB.out)⟩

end Go.Proofs.Ytjjnfobeeflnhaa.J

/- What Go functions of the program compute, as plain Lean functions, and that the machine comes to just these answers (written by a program for this seat). -/
namespace Go.Proofs.Ytjjnfobeeflnhaa.J
open Go.RowKit Go.Proofs.YtjjnfobeeflnhaaW.PrintWords Go.Proofs.YtjjnfobeeflnhaaW.PrintLast Go.Proofs.YtjjnfobeeflnhaaW.PrintMore
attribute [local go_sem] max2_int min2_int max_two min_two max_three min_three max_four min_four   -- for this text's walks alone
set_option linter.unusedVariables false
set_option linter.unusedSimpArgs false

/-! ### poly_Minus: function 135 -/
def poly_Minus.f (k : Nat) (a0 : Int) (l1 l2 : List Int) : Option (List Int) := poly_each.f k field_Minus.f a0 l1 l2
theorem poly_Minus.mono (a0 : Int) (l1 l2 : List Int) (k : Nat) : LeO (poly_Minus.f k a0 l1 l2) (poly_Minus.f (k + 1) a0 l1 l2) := poly_each.mono _ _ _ _ _
set_option maxHeartbeats 8000000 in
set_option maxRecDepth 100000 in
theorem poly_Minus.calls (k : Nat) (a0 : Int) (A1 : Option Addr) (c1 : Nat) (l1 : List Int) (A2 : Option Addr) (c2 : Nat) (l2 : List Int) (r : List Int) (w : World) (hr1 : Kd.C (Kd.int .u64) w A1 l1.length l1) (hc1 : l1.length ≤ c1) (hr2 : Kd.C (Kd.int .u64) w A2 l2.length l2) (hc2 : l2.length ≤ c2) (h : poly_Minus.f k a0 l1 l2 = some r) :
    Calls Try.prog 135 #[.int .u64 a0, .slice A1 l1.length c1, .slice A2 l2.length c2] w fun e w' => ∃ v0_ : Value, e = .returned (v0_) ∧ Kd.R (Kd.int .u64) 22 w' w.heap.size (fun _ => True) v0_ r ∧ Below w.heap.size w w' := by
  have K := Aside0.mk (poly_each.calls k field_Minus.f 142 (fun args w => enters_ Try.func142 (by kernel_rfl) rfl args w) (fun a b c r w h => field_Minus.calls a b c r w h) a0 A1 c1 l1 A2 c2 l2 r w hr1 hc1 hr2 hc2 h)
  clear hr1 hr2 hc1 hc2 h
  go_enter Try.func135, Try.ntmps135
  go_wp2_with (go_at_call 164; refine K.out.mono ?_; rintro e w' ⟨v, rfl, hR, hB⟩; have HR := Aside0.mk hR; have HB := Aside0.mk hB; clear hR hB)
  go_ret
  exact ⟨_, rfl, HR.out, HB.out⟩
/-- The difference of two lists of coefficients, without noughts at its end. -/
def minusI (p : Int) (f g : List Int) : List Int := zipI (fun a b => (field_Minus.f p a b).getD 0) f g
theorem minusI_spec (a0 : Int) (f g : List Int) (h0 : a0 ≠ 0) (hn : max f.length g.length < 17592186044416) (k : Nat) (hk : 2 * max f.length g.length + 1 < k) : poly_Minus.f k a0 f g = some (minusI a0 f g) := by
  refine each_spec _ a0 f g _ (fun x y => ?_) hn k hk
  unfold field_Minus.f
  rw [if_neg h0]
  unfold field_Plus.f
  split <;> rfl

end Go.Proofs.Ytjjnfobeeflnhaa.J

/- What Go functions of the program compute, as plain Lean functions, and that the machine comes to just these answers (written by a program for this seat). -/
namespace Go.Proofs.Ytjjnfobeeflnhaa.J
open Go.RowKit Go.Proofs.YtjjnfobeeflnhaaW.PrintWords Go.Proofs.YtjjnfobeeflnhaaW.PrintLast Go.Proofs.YtjjnfobeeflnhaaW.PrintMore
attribute [local go_sem] max2_int min2_int max_two min_two max_three min_three max_four min_four   -- for this text's walks alone
set_option linter.unusedVariables false
set_option linter.unusedSimpArgs false

/-! ### poly_Sub: function 105 -/
def poly_Sub.f (k : Nat) (a0 : Int) (l1 : List Int) (l2 : List Int) : Option (List Int × Int) := (poly_two.f k (fun k_ a_ l_ m_ => poly_Minus.f k_ a_ l_ m_) a0 l1 l2).bind fun bt1435 => (some (bt1435.1, bt1435.2))
theorem poly_Sub.mono : ∀ a0 a1 a2 k, LeO (poly_Sub.f k a0 a1 a2) (poly_Sub.f (k + 1) a0 a1 a2) := by
  intro a0 a1 a2 k
  unfold poly_Sub.f
  repeat' first
      | (with_reducible exact poly_two.mono _ (fun a l m k => poly_Minus.mono a l m k) _ _ _ _)
      | (with_reducible exact LeO.refl _)
      | (with_reducible exact LeO.none _)
      | (with_reducible refine LeO.ite ?_ ?_)
      | (with_reducible refine LeO.bind ?_ (fun _ => ?_))
      | exact poly_two.mono _ (fun a l m k => poly_Minus.mono a l m k) _ _ _ _
      | exact LeO.none _
      | refine LeO.ite ?_ ?_
      | refine LeO.bind ?_ (fun _ => ?_)
set_option maxHeartbeats 8000000 in
set_option maxRecDepth 100000 in
theorem poly_Sub.calls (k : Nat) (a0 : Int) (A1 : Option Addr) (c1 : Nat) (l1 : List Int) (A2 : Option Addr) (c2 : Nat) (l2 : List Int) (r1 : List Int) (r2 : Int) (w : World) (hr1 : Kd.C (Kd.int .u64) w A1 l1.length l1) (hc1 : l1.length ≤ c1) (hr2 : Kd.C (Kd.int .u64) w A2 l2.length l2) (hc2 : l2.length ≤ c2) (h : poly_Sub.f k a0 l1 l2 = some (r1, r2)) :
    Calls Try.prog 105 #[.int .u64 a0, .slice A1 l1.length c1, .slice A2 l2.length c2] w fun e w' => ∃ v0_ : Value, e = .returned (.tuple #[v0_, .int .i64 r2]) ∧ Kd.R (Kd.int .u64) 22 w' w.heap.size (fun _ => True) v0_ r1 ∧ Below w.heap.size w w' := by
  have HR1 := Aside0.mk hr1
  have HC1 := Aside0.mk hc1
  clear hr1 hc1
  have HR2 := Aside0.mk hr2
  have HC2 := Aside0.mk hc2
  clear hr2 hc2
  have HB := Aside0.mk (Below.refl w.heap.size w)
  have H : ((poly_two.f k (fun k_ a_ l_ m_ => poly_Minus.f k_ a_ l_ m_) a0 l1 l2).bind fun bt1435 => (some (bt1435.1, bt1435.2))) = some (r1, r2) := h
  clear h
  replace H := Option.bind_eq_some_iff.mp H
  obtain ⟨⟨t1435, t1438⟩, A40, H⟩ := H
  replace H : (some (t1435, t1438)) = some (r1, r2) := H
  have A4 := Aside0.mk A40
  clear A40
  simp only [Option.some.injEq, Prod.mk.injEq] at H
  obtain ⟨rfl, rfl⟩ := H
  go_enter Try.func105, Try.ntmps105
  go_wp2_with (first | ((with_reducible refine gate_callee (f := 156) rfl ?_); refine goesL_ (some 11) rfl rfl Try.func156 (by kernel_rfl) rfl #[.int .u64 a0, .slice A1 l1.length c1, .slice A2 l2.length c2, .func (.func 135) #[] #[]] rfl (by (try simp only [List.map_toArray, List.map_cons, List.map_nil]); first | done | rfl | (simp only [List.length_drop, List.length_take]; rfl)) ?_; (with_reducible refine (poly_two.calls k (fun k_ a_ l_ m_ => poly_Minus.f k_ a_ l_ m_) 135 (fun args w => enters_ Try.func135 (by kernel_rfl) rfl args w) (fun k_ a_ A1_ c1_ l1_ A2_ c2_ l2_ r_ w_ h1_ h2_ h3_ h4_ h_ => poly_Minus.calls k_ a_ A1_ c1_ l1_ A2_ c2_ l2_ r_ w_ h1_ h2_ h3_ h4_ h_) a0 (fun k_ => k_ < w.heap.size) _ _ l1 (fun k_ => k_ < w.heap.size) _ _ l2 t1435 t1438 _ ?side1 ?side2 A4.out).mono ?_); (case side1 => exact Kd.V_mk HC1.out (Kd.F_below (Kd.C_F (Kd.heap_int .u64) HR1.out) (by repeat (first | (with_reducible first | exact HB.out | apply below_alloc | apply pw_below_drewN | apply below_drew1) | exact HB.out)))); (case side2 => exact Kd.V_mk HC2.out (Kd.F_below (Kd.C_F (Kd.heap_int .u64) HR2.out) (by repeat (first | (with_reducible first | exact HB.out | apply below_alloc | apply pw_below_drewN | apply below_drew1) | exact HB.out)))); rintro e w5 ⟨v1436, rfl, ho0, hb⟩; refine ⟨_, rfl, ?_⟩; have n0_ := Aside0.mk (Kd.R_lower (Kd.R_mono (ok' := fun k_ => True) ho0 (fun _ hk_ => trivial)) (below_size (by repeat (first | (with_reducible first | exact HB.out | apply below_alloc | apply pw_below_drewN | apply below_drew1) | exact HB.out)))); have n1_ := Aside0.mk (below_step (by repeat (first | (with_reducible first | exact HB.out | apply below_alloc | apply pw_below_drewN | apply below_drew1) | exact HB.out)) hb); clear HB; have HO1437 := n0_; have HB := n1_; clear n0_ n1_; (try clear hb); (try clear hb2); (try clear hk); (try clear hi); (try clear ho0)))
  go_ret2
  exact ⟨_, by first | rfl | (simp [errW_none, errW_some] <;> rfl) | (simp [*, errW_none, errW_some] <;> rfl), by (with_reducible repeat (first | apply Kd.R_alloc | apply Kd.R_drewN | apply Kd.R_drew)); exact HO1437.out, by repeat (first | (with_reducible first | exact HB.out | apply below_alloc | apply pw_below_drewN | apply below_drew1) | exact HB.out)⟩

end Go.Proofs.Ytjjnfobeeflnhaa.J

/- What Go functions of the program compute, as plain Lean functions, and that the machine comes to just these answers (written by a program for this seat). -/
namespace Go.Proofs.Ytjjnfobeeflnhaa.J
open Go.RowKit Go.Proofs.YtjjnfobeeflnhaaW.PrintWords Go.Proofs.YtjjnfobeeflnhaaW.PrintLast Go.Proofs.YtjjnfobeeflnhaaW.PrintMore
attribute [local go_sem] max2_int min2_int max_two min_two max_three min_three max_four min_four   -- for this text's walks alone
set_option linter.unusedVariables false
set_option linter.unusedSimpArgs false

/-! ### poly_Scale: function 106 -/
def poly_Scale.f (k : Nat) (a0 : Int) (l1 : List Int) (a2 : Int) : Option (List Int × Int) := (poly_Is.f k a0 (([l1, (([a2] : List Int))] : List (List Int)))).bind fun t1495 => (if t1495 = 0 then ((poly_By.f k a0 l1 a2).bind fun t1496 => (some (t1496, 0))) else (some (([] : List Int), t1495)))
theorem poly_Scale.mono : ∀ a0 a1 a2 k, LeO (poly_Scale.f k a0 a1 a2) (poly_Scale.f (k + 1) a0 a1 a2) := by
  intro a0 a1 a2 k
  unfold poly_Scale.f
  repeat' first
      | (with_reducible exact poly_By.mono _ _ _ _)
      | (with_reducible exact poly_Is.mono _ _ _)
      | (with_reducible exact LeO.refl _)
      | (with_reducible exact LeO.none _)
      | (with_reducible refine LeO.ite ?_ ?_)
      | (with_reducible refine LeO.bind ?_ (fun _ => ?_))
      | exact poly_By.mono _ _ _ _
      | exact poly_Is.mono _ _ _
      | exact LeO.none _
      | refine LeO.ite ?_ ?_
      | refine LeO.bind ?_ (fun _ => ?_)
set_option maxHeartbeats 8000000 in
set_option maxRecDepth 100000 in
theorem poly_Scale.calls (k : Nat) (a0 : Int) (P1_ : Nat → Prop) (A1 : Option Addr) (c1 : Nat) (l1 : List Int) (a2 : Int) (r1 : List Int) (r2 : Int) (w : World) (hs1 : Kd.V (Kd.int .u64) 22 w w.heap.size (fun k_ => P1_ k_) (.slice A1 l1.length c1) l1) (h : poly_Scale.f k a0 l1 a2 = some (r1, r2)) :
    Calls Try.prog 106 #[.int .u64 a0, .slice A1 l1.length c1, .int .u64 a2] w fun e w' => ∃ v0_ : Value, e = .returned (.tuple #[v0_, .int .i64 r2]) ∧ Kd.R (Kd.int .u64) 22 w' w.heap.size (fun k_ => (w.heap.size ≤ k_)) v0_ r1 ∧ Below w.heap.size w w' := by
  have HO1 := Aside0.mk (show Kd.V (Kd.int .u64) 22 w w.heap.size (fun k_ => (P1_ k_ ∨ w.heap.size ≤ k_)) (.slice A1 l1.length c1) l1 from Kd.V_mono hs1 (fun k_ hk => .inl hk))
  have HB := Aside0.mk (Below.refl w.heap.size w)
  have H : ((poly_Is.f k a0 (([l1, (([a2] : List Int))] : List (List Int)))).bind fun t1495 => (if t1495 = 0 then ((poly_By.f k a0 l1 a2).bind fun t1496 => (some (t1496, 0))) else (some (([] : List Int), t1495)))) = some (r1, r2) := h
  clear h
  obtain ⟨y1489, hy1489⟩ : ∃ y_ : List Int, y_ = (([a2] : List Int)) := ⟨_, rfl⟩
  replace H : ((poly_Is.f k a0 (([l1, y1489] : List (List Int)))).bind fun t1495 => (if t1495 = 0 then ((poly_By.f k a0 l1 a2).bind fun t1496 => (some (t1496, 0))) else (some (([] : List Int), t1495)))) = some (r1, r2) := by first | (rw [hy1489]; with_reducible exact H) | (have H2_ := (Option.bind_some _ _).symm.trans H; rw [hy1489]; with_reducible exact H2_) | (have H2_ := (Option.bind_some _ _).symm.trans H; with_reducible exact H2_) | with_reducible exact H | (rw [hy1489]; exact H) | exact H
  have Ny1489 := Aside0.mk hy1489
  clear hy1489
  obtain ⟨y1492, hy1492⟩ : ∃ y_ : List (List Int), y_ = (([l1, y1489] : List (List Int))) := ⟨_, rfl⟩
  replace H : ((poly_Is.f k a0 y1492).bind fun t1495 => (if t1495 = 0 then ((poly_By.f k a0 l1 a2).bind fun t1496 => (some (t1496, 0))) else (some (([] : List Int), t1495)))) = some (r1, r2) := by first | (rw [hy1492]; with_reducible exact H) | (have H2_ := (Option.bind_some _ _).symm.trans H; rw [hy1492]; with_reducible exact H2_) | (have H2_ := (Option.bind_some _ _).symm.trans H; with_reducible exact H2_) | with_reducible exact H | (rw [hy1492]; exact H) | exact H
  have Ny1492 := Aside0.mk hy1492
  clear hy1492
  replace H := Option.bind_eq_some_iff.mp H
  obtain ⟨t1495, A40, H⟩ := H
  replace H : (if t1495 = 0 then ((poly_By.f k a0 l1 a2).bind fun t1496 => (some (t1496, 0))) else (some (([] : List Int), t1495))) = some (r1, r2) := H
  have A4 := Aside0.mk A40
  clear A40
  by_cases c5 : t1495 = 0
  · rw [if_pos c5] at H
    have c5b0 : (t1495 == 0) = true := beq_iff_eq.mpr c5
    have c5b1 : (t1495 != 0) = false := bne_eq_false_iff_eq.mpr c5
    clear c5
    replace H := Option.bind_eq_some_iff.mp H
    obtain ⟨t1496, A60, H⟩ := H
    replace H : (some (t1496, 0)) = some (r1, r2) := H
    have A6 := Aside0.mk A60
    clear A60
    simp only [Option.some.injEq, Prod.mk.injEq] at H
    obtain ⟨rfl, rfl⟩ := H
    go_enter Try.func106, Try.ntmps106
    go_wp2_with (first | ((with_reducible refine gate_dst (N := 12) rfl ?_); refine Kd.R_lit (Kd.int .u64) _ 22 ?hg (N := 12) ?hd (xs := ([a2] : List Int)) (inner := [.int .u64 a2]) (ok := fun _ => True) (okp := fun _ => True) ?hr ?hp (fun _ hk => hk) trivial (Below.refl _ _) (Nat.le_refl _) (by simp) ?_; (case hd => rfl); (case hg => rfl); (case hr => first | (go_simp; done) | (go_simp; rfl)); (case hp => exact (Reps.one (show Kd.M (Kd.int .u64) _ _ _ a2 [.int .u64 a2] from rfl) (Reps.none _ _))); intro v1490 w7 ho8 hb hg_ hnew_; clear hg_ hnew_; (first | rw [← Ny1489.out] at ho8 | (simp only [Int.reduceToNat] at ho8; rw [← Ny1489.out] at ho8)); have n0_ := Aside0.mk (Kd.V_elder' (by (with_reducible repeat (first | apply Kd.V_alloc | apply Kd.V_drewN | apply Kd.V_drew)); exact HO1.out) (Kd.R_base ho8) hb); have n1_ := Aside0.mk (Kd.R_lower (Kd.R_newM (M := fun k_ => (w.heap.size ≤ k_)) ho8 (below_size (by repeat (first | (with_reducible first | exact HB.out | apply below_alloc | apply pw_below_drewN | apply below_drew1) | exact HB.out))) (fun k_ h_ => h_)) (below_size (by repeat (first | (with_reducible first | exact HB.out | apply below_alloc | apply pw_below_drewN | apply below_drew1) | exact HB.out)))); have n2_ := Aside0.mk (below_step (by repeat (first | (with_reducible first | exact HB.out | apply below_alloc | apply pw_below_drewN | apply below_drew1) | exact HB.out)) hb); clear HO1; clear HB; have HO1 := n0_; have HO1491 := n1_; have HB := n2_; clear n0_ n1_ n2_; clear hb ho8; obtain ⟨Ao9, co9, eo9⟩ := Kd.R_slice HO1491.out; subst eo9) | ((with_reducible refine gate_dst (N := 13) rfl ?_); refine Kd.N_lit (Kd.slice 22 (Kd.int .u64)) _ 31 ?hg (N' := 13) ?hd (xs := ([l1, y1489] : List (List Int))) (inner := [.slice A1 l1.length c1, .slice Ao9 y1489.length co9]) (ok := (fun k_ => (P1_ k_ ∨ w.heap.size ≤ k_))) (okp := (fun k_ => (P1_ k_ ∨ w.heap.size ≤ k_))) ?hr ?hp (fun _ hk => hk) ((show ∀ k_, w7.heap.size ≤ k_ → (fun k_ => (P1_ k_ ∨ w.heap.size ≤ k_)) k_ from fun k_ hk => (.inr (Nat.le_trans (below_size (by repeat (first | (with_reducible first | exact HB.out | apply below_alloc | apply pw_below_drewN | apply below_drew1) | exact HB.out))) hk))) _ (Nat.le_refl _)) (Below.refl _ _) (Nat.le_refl _) (by simp) ?_; (case hd => rfl); (case hg => rfl); (case hr => first | (go_simp; done) | (go_simp; rfl)); (case hp => exact (Reps.one (show Kd.FK (Kd.slice 22 (Kd.int .u64)) _ _ l1 [.slice A1 l1.length c1] from (Kd.FK_slice_mk (Kd.V_reads' (Kd.V_mono (ok' := (fun k_ => (P1_ k_ ∨ w.heap.size ≤ k_))) (HO1.out) (fun k_ hk => hk.1))).2.1 (Kd.V_F (Kd.V_mono (ok' := (fun k_ => (P1_ k_ ∨ w.heap.size ≤ k_))) (HO1.out) (fun k_ hk => hk.1))))) (Reps.one (show Kd.FK (Kd.slice 22 (Kd.int .u64)) _ _ y1489 [.slice Ao9 y1489.length co9] from (Kd.FK_slice_mk (Kd.R_reads' (Kd.R_mono (ok' := (fun k_ => (P1_ k_ ∨ w.heap.size ≤ k_))) (HO1491.out) (fun k_ hk => (.inr (hk.1))))).2.1 (Kd.R_F (Kd.R_mono (ok' := (fun k_ => (P1_ k_ ∨ w.heap.size ≤ k_))) (HO1491.out) (fun k_ hk => (.inr (hk.1))))))) (Reps.none _ _)))); intro v1493 w10 ho11 hb hg_ hnew_; clear hg_ hnew_; (first | rw [← Ny1492.out] at ho11 | (simp only [Int.reduceToNat] at ho11; rw [← Ny1492.out] at ho11)); have n0_ := Aside0.mk (Kd.V_elder' (by (with_reducible repeat (first | apply Kd.V_alloc | apply Kd.V_drewN | apply Kd.V_drew)); exact HO1.out) (Kd.N_base ho11) hb); have n1_ := Aside0.mk (Kd.N_lower ho11 (below_size (by repeat (first | (with_reducible first | exact HB.out | apply below_alloc | apply pw_below_drewN | apply below_drew1) | exact HB.out)))); have n2_ := Aside0.mk (below_step (by repeat (first | (with_reducible first | exact HB.out | apply below_alloc | apply pw_below_drewN | apply below_drew1) | exact HB.out)) hb); clear HO1; clear HB; clear HO1491; have HO1 := n0_; have HO1494 := n1_; have HB := n2_; clear n0_ n1_ n2_; clear hb ho11; obtain ⟨Ao12, co12, eo12⟩ := Kd.N_slice HO1494.out; subst eo12) | ((with_reducible refine gate_callee (f := 138) rfl ?_); refine goesL_ (some 14) rfl rfl Try.func138 (by kernel_rfl) rfl #[.int .u64 a0, .slice Ao12 y1492.length co12] rfl (by (try simp only [List.map_toArray, List.map_cons, List.map_nil]); first | done | rfl | (simp only [List.length_drop, List.length_take]; rfl)) ?_; (with_reducible refine (poly_Is.calls k a0 _ _ y1492 t1495 _ ?side1 ?side2 A4.out).mono ?_); (case side1 => repeat (first | exact (Kd.N_reads' HO1494.out).2.2 | (with_reducible refine Kd.C_alloc ?_ _) | (with_reducible refine Kd.C_drewN ?_ _) | (with_reducible refine Kd.C_drew ?_))); (case side2 => exact (Kd.N_reads' HO1494.out).2.1); rintro e w' ⟨rfl, ⟨nd, rfl⟩⟩; refine ⟨_, rfl, ?_⟩) | ((with_reducible refine gate_callee (f := 136) rfl ?_); refine goesL_ (some 21) rfl rfl Try.func136 (by kernel_rfl) rfl #[.int .u64 a0, .slice A1 l1.length c1, .int .u64 a2] rfl (by (try simp only [List.map_toArray, List.map_cons, List.map_nil]); first | done | rfl | (simp only [List.length_drop, List.length_take]; rfl)) ?_; (with_reducible refine (poly_By.calls k a0 _ _ l1 a2 t1496 _ ?side1 ?side2 A6.out).mono ?_); (case side1 => repeat (first | exact (Kd.V_reads' HO1.out).2.2 | (with_reducible refine Kd.C_alloc ?_ _) | (with_reducible refine Kd.C_drewN ?_ _) | (with_reducible refine Kd.C_drew ?_))); (case side2 => exact (Kd.V_reads' HO1.out).2.1); rintro e w13 ⟨v1497, rfl, ho0, hb⟩; refine ⟨_, rfl, ?_⟩; have n0_ := Aside0.mk (Kd.V_elder' (by (with_reducible repeat (first | apply Kd.V_alloc | apply Kd.V_drewN | apply Kd.V_drew)); exact HO1.out) (Kd.R_base ho0) hb); have n1_ := Aside0.mk (Kd.N_elder' (by (with_reducible repeat (first | apply Kd.N_alloc | apply Kd.N_drewN | apply Kd.N_drew)); exact HO1494.out) (Kd.R_base ho0) hb); have n2_ := Aside0.mk (Kd.R_lower (Kd.R_newM (M := fun k_ => (w.heap.size ≤ k_)) ho0 (below_size (by repeat (first | (with_reducible first | exact HB.out | apply below_alloc | apply pw_below_drewN | apply below_drew1) | exact HB.out))) (fun k_ h_ => h_)) (below_size (by repeat (first | (with_reducible first | exact HB.out | apply below_alloc | apply pw_below_drewN | apply below_drew1) | exact HB.out)))); have n3_ := Aside0.mk (below_step (by repeat (first | (with_reducible first | exact HB.out | apply below_alloc | apply pw_below_drewN | apply below_drew1) | exact HB.out)) hb); clear HO1; clear HO1494; clear HB; have HO1 := n0_; have HO1494 := n1_; have HO1498 := n2_; have HB := n3_; clear n0_ n1_ n2_ n3_; (try clear hb); (try clear hb2); (try clear hk); (try clear hi); (try clear ho0)))
    go_ret2
    exact ⟨_, by first | rfl | (simp [errW_none, errW_some] <;> rfl) | (simp [*, errW_none, errW_some] <;> rfl), by (with_reducible repeat (first | apply Kd.R_alloc | apply Kd.R_drewN | apply Kd.R_drew)); exact Kd.R_mono HO1498.out (fun _ hk => hk.1), by repeat (first | (with_reducible first | exact HB.out | apply below_alloc | apply pw_below_drewN | apply below_drew1) | exact HB.out)⟩
  · rw [if_neg c5] at H
    have c5b0 : (t1495 == 0) = false := beq_eq_false_iff_ne.mpr c5
    have c5b1 : (t1495 != 0) = true := bne_iff_ne.mpr c5
    simp only [Option.some.injEq, Prod.mk.injEq] at H
    obtain ⟨rfl, rfl⟩ := H
    go_enter Try.func106, Try.ntmps106
    go_wp2_with (first | ((with_reducible refine gate_dst (N := 12) rfl ?_); refine Kd.R_lit (Kd.int .u64) _ 22 ?hg (N := 12) ?hd (xs := ([a2] : List Int)) (inner := [.int .u64 a2]) (ok := fun _ => True) (okp := fun _ => True) ?hr ?hp (fun _ hk => hk) trivial (Below.refl _ _) (Nat.le_refl _) (by simp) ?_; (case hd => rfl); (case hg => rfl); (case hr => first | (go_simp; done) | (go_simp; rfl)); (case hp => exact (Reps.one (show Kd.M (Kd.int .u64) _ _ _ a2 [.int .u64 a2] from rfl) (Reps.none _ _))); intro v1490 w14 ho15 hb hg_ hnew_; clear hg_ hnew_; (first | rw [← Ny1489.out] at ho15 | (simp only [Int.reduceToNat] at ho15; rw [← Ny1489.out] at ho15)); have n0_ := Aside0.mk (Kd.V_elder' (by (with_reducible repeat (first | apply Kd.V_alloc | apply Kd.V_drewN | apply Kd.V_drew)); exact HO1.out) (Kd.R_base ho15) hb); have n1_ := Aside0.mk (Kd.R_lower (Kd.R_newM (M := fun k_ => (w.heap.size ≤ k_)) ho15 (below_size (by repeat (first | (with_reducible first | exact HB.out | apply below_alloc | apply pw_below_drewN | apply below_drew1) | exact HB.out))) (fun k_ h_ => h_)) (below_size (by repeat (first | (with_reducible first | exact HB.out | apply below_alloc | apply pw_below_drewN | apply below_drew1) | exact HB.out)))); have n2_ := Aside0.mk (below_step (by repeat (first | (with_reducible first | exact HB.out | apply below_alloc | apply pw_below_drewN | apply below_drew1) | exact HB.out)) hb); clear HO1; clear HB; have HO1 := n0_; have HO1491 := n1_; have HB := n2_; clear n0_ n1_ n2_; clear hb ho15; obtain ⟨Ao16, co16, eo16⟩ := Kd.R_slice HO1491.out; subst eo16) | ((with_reducible refine gate_dst (N := 13) rfl ?_); refine Kd.N_lit (Kd.slice 22 (Kd.int .u64)) _ 31 ?hg (N' := 13) ?hd (xs := ([l1, y1489] : List (List Int))) (inner := [.slice A1 l1.length c1, .slice Ao16 y1489.length co16]) (ok := (fun k_ => (P1_ k_ ∨ w.heap.size ≤ k_))) (okp := (fun k_ => (P1_ k_ ∨ w.heap.size ≤ k_))) ?hr ?hp (fun _ hk => hk) ((show ∀ k_, w14.heap.size ≤ k_ → (fun k_ => (P1_ k_ ∨ w.heap.size ≤ k_)) k_ from fun k_ hk => (.inr (Nat.le_trans (below_size (by repeat (first | (with_reducible first | exact HB.out | apply below_alloc | apply pw_below_drewN | apply below_drew1) | exact HB.out))) hk))) _ (Nat.le_refl _)) (Below.refl _ _) (Nat.le_refl _) (by simp) ?_; (case hd => rfl); (case hg => rfl); (case hr => first | (go_simp; done) | (go_simp; rfl)); (case hp => exact (Reps.one (show Kd.FK (Kd.slice 22 (Kd.int .u64)) _ _ l1 [.slice A1 l1.length c1] from (Kd.FK_slice_mk (Kd.V_reads' (Kd.V_mono (ok' := (fun k_ => (P1_ k_ ∨ w.heap.size ≤ k_))) (HO1.out) (fun k_ hk => hk.1))).2.1 (Kd.V_F (Kd.V_mono (ok' := (fun k_ => (P1_ k_ ∨ w.heap.size ≤ k_))) (HO1.out) (fun k_ hk => hk.1))))) (Reps.one (show Kd.FK (Kd.slice 22 (Kd.int .u64)) _ _ y1489 [.slice Ao16 y1489.length co16] from (Kd.FK_slice_mk (Kd.R_reads' (Kd.R_mono (ok' := (fun k_ => (P1_ k_ ∨ w.heap.size ≤ k_))) (HO1491.out) (fun k_ hk => (.inr (hk.1))))).2.1 (Kd.R_F (Kd.R_mono (ok' := (fun k_ => (P1_ k_ ∨ w.heap.size ≤ k_))) (HO1491.out) (fun k_ hk => (.inr (hk.1))))))) (Reps.none _ _)))); intro v1493 w17 ho18 hb hg_ hnew_; clear hg_ hnew_; (first | rw [← Ny1492.out] at ho18 | (simp only [Int.reduceToNat] at ho18; rw [← Ny1492.out] at ho18)); have n0_ := Aside0.mk (Kd.V_elder' (by (with_reducible repeat (first | apply Kd.V_alloc | apply Kd.V_drewN | apply Kd.V_drew)); exact HO1.out) (Kd.N_base ho18) hb); have n1_ := Aside0.mk (Kd.N_lower ho18 (below_size (by repeat (first | (with_reducible first | exact HB.out | apply below_alloc | apply pw_below_drewN | apply below_drew1) | exact HB.out)))); have n2_ := Aside0.mk (below_step (by repeat (first | (with_reducible first | exact HB.out | apply below_alloc | apply pw_below_drewN | apply below_drew1) | exact HB.out)) hb); clear HO1; clear HB; clear HO1491; have HO1 := n0_; have HO1494 := n1_; have HB := n2_; clear n0_ n1_ n2_; clear hb ho18; obtain ⟨Ao19, co19, eo19⟩ := Kd.N_slice HO1494.out; subst eo19) | ((with_reducible refine gate_callee (f := 138) rfl ?_); refine goesL_ (some 14) rfl rfl Try.func138 (by kernel_rfl) rfl #[.int .u64 a0, .slice Ao19 y1492.length co19] rfl (by (try simp only [List.map_toArray, List.map_cons, List.map_nil]); first | done | rfl | (simp only [List.length_drop, List.length_take]; rfl)) ?_; (with_reducible refine (poly_Is.calls k a0 _ _ y1492 t1495 _ ?side1 ?side2 A4.out).mono ?_); (case side1 => repeat (first | exact (Kd.N_reads' HO1494.out).2.2 | (with_reducible refine Kd.C_alloc ?_ _) | (with_reducible refine Kd.C_drewN ?_ _) | (with_reducible refine Kd.C_drew ?_))); (case side2 => exact (Kd.N_reads' HO1494.out).2.1); rintro e w' ⟨rfl, ⟨nd, rfl⟩⟩; refine ⟨_, rfl, ?_⟩))
    go_ret2
    exact ⟨_, by first | rfl | (simp [errW_none, errW_some] <;> rfl) | (simp [*, errW_none, errW_some] <;> rfl), by first | exact Kd.R_nil _ _ _ _ _ | exact Kd.N_nil _ _ _ _ _ | exact Kd.V_nil _ _ _ _ _ | exact Kd.Q_nil _ _ _ _ _ | exact Kd.S_nil _ _ _ _ _, by repeat (first | (with_reducible first | exact HB.out | apply below_alloc | apply pw_below_drewN | apply below_drew1) | exact HB.out)⟩

end Go.Proofs.Ytjjnfobeeflnhaa.J

/- What comes in laid out as a type says is a value of a kind, within the bounds that its weights leave: once for every type. -/
namespace Go.Proofs.Ytjjnfobeeflnhaa.Op
open Go.RowKit Go.Proofs.YtjjnfobeeflnhaaW.PrintWords Go.Proofs.YtjjnfobeeflnhaaW.PrintLast Go.Proofs.YtjjnfobeeflnhaaW.PrintMore

def Opens {α : Type} (P : Program) (d : Kd α) (t : TypeId) (wf : α → Prop) : Prop :=
  ∀ (H : Type) (enc : TypeId × Value → H) (w : World) (base fuel : Nat) (spare : Nat → Bool) (held : Bool) (cs : List Value) (x : DataW H × List MemPlace), cs.length = d.sz →
    DataW.trod enc P w base spare held fuel t cs = some x → (x.1.weights P t).all (· ≤ reachBytes) = true → ∃ a, d.K w a cs ∧ wf a

theorem op_int {P : Program} {t : TypeId} {k : IntKind} (ht : P.underlying t = some (.int k)) : Opens P (Kd.int k) t (fun n => (Lit.int k n).wf = true) := by
  intro H enc w base fuel spare held cs x _ h _
  obtain ⟨n, rfl, _, hw⟩ := DataW.trod_int ht h
  exact ⟨n, rfl, hw⟩

theorem op_bool {P : Program} {t : TypeId} (ht : P.underlying t = some .bool) : Opens P Kd.bool t (fun _ => True) := by
  intro H enc w base fuel spare held cs x _ h _
  obtain ⟨n, rfl, _⟩ := DataW.trod_bool ht h
  exact ⟨n, rfl, trivial⟩

theorem all_weights {H : Type} {P : Program} {e : TypeId} {p : Nat → Bool} : ∀ (ds : List (DataW H)), (DataW.weightsAll P e ds).all p = true → ∀ d ∈ ds, (d.weights P e).all p = true
  | [], _, d, hd => by simp at hd
  | a :: r, h, d, hd => by
    unfold DataW.weightsAll at h
    rw [List.all_append, Bool.and_eq_true] at h
    rcases List.mem_cons.1 hd with rfl | hd
    · exact h.1
    · exact all_weights r h.2 d hd

theorem add_add_ (a : Addr) (i j : Nat) : a.add (i + j) = (a.add i).add j := by
  cases a
  unfold Addr.add
  rcases Nat.eq_zero_or_pos i with hi | hi <;> rcases Nat.eq_zero_or_pos j with hj | hj
  · simp [hi, hj]
  · simp [hi, show j ≠ 0 by omega]
  · simp [hj, show i ≠ 0 by omega]
  · simp [show i ≠ 0 by omega, show j ≠ 0 by omega, Nat.add_assoc]

theorem pick {β : Type} {p : Nat → β → Prop} : ∀ n, (∀ i : Nat, i < n → ∃ q, p i q) → ∃ l : List β, l.length = n ∧ ∀ (i : Nat) (q : β), l[i]? = some q → p i q
  | 0, _ => ⟨[], rfl, fun i q h => by simp at h⟩
  | n + 1, h => by
    obtain ⟨l, hl, hp⟩ := pick n (fun i hi => h i (by omega))
    obtain ⟨q, hq⟩ := h n (by omega)
    refine ⟨l ++ [q], by simp [hl], fun i r hr => ?_⟩
    rcases Nat.lt_or_ge i l.length with hi | hi
    · rw [List.getElem?_append_left hi] at hr
      exact hp i r hr
    · rw [List.getElem?_append_right hi] at hr
      have h0 : i - l.length = 0 := by
        rcases Nat.eq_zero_or_pos (i - l.length) with h' | h'
        · exact h'
        · rw [List.getElem?_eq_none (by simp; omega)] at hr; cases hr
      rw [h0] at hr
      obtain rfl : q = r := by simpa using hr
      have : i = n := by omega
      rw [this]; exact hq

theorem weights_at {H : Type} {P : Program} {p : Nat → Bool} : ∀ (ts : List TypeId) (ds : List (DataW H)) (j : Nat) {t : TypeId} {d : DataW H}, (DataW.weightsEach P ts ds).all p = true → ts[j]? = some t → ds[j]? = some d → (d.weights P t).all p = true
  | [], _, _, _, _, _, ht, _ => by simp at ht
  | _ :: _, [], _, _, _, _, _, hd => by simp at hd
  | t :: ts, d :: ds, j, t', d', h, ht, hd => by
    unfold DataW.weightsEach at h
    rw [List.all_append, Bool.and_eq_true] at h
    match j, ht, hd with
    | 0, ht, hd =>
      obtain rfl : t = t' := by simpa using ht
      obtain rfl : d = d' := by simpa using hd
      exact h.1
    | j + 1, ht, hd => exact weights_at ts ds j h.2 (by simpa using ht) (by simpa using hd)

theorem op_slice {α : Type} {P : Program} {d : Kd α} {t e : TypeId} {B : Nat} {wf : α → Prop} (ht : P.underlying t = some (.slice e)) (hB : P.bytesOf e = B) (hsz : P.cellsOf e = d.sz) (he : Opens P d e wf) :
    Opens P (Kd.slice e d) t (fun l => l.length ≤ maxLen ∧ l.length * B ≤ 140737488351232 ∧ ∀ a ∈ l, wf a) := by
  intro H enc w base fuel spare held cs x _ h hw
  rcases Go.Deep.open_slice ht h with ⟨rfl, _⟩ | ⟨a, len, cap, m, n, D, Pl, rfl, hb, hl, hm, hmm, rfl, hx⟩
  · exact ⟨[], ⟨none, 0, rfl, Nat.le_refl _, rfl, Nat.zero_le _, fun h0 => absurd h0 (by simp)⟩, by simp, by simp, fun a ha => by simp at ha⟩
  · have hlm : len ≤ m := by rw [hmm]; split <;> omega
    simp only [DataW.weights, ht, List.all_cons, List.all_append, Bool.and_eq_true, List.length_map, List.length_range] at hw
    obtain ⟨hw0, hw1, _⟩ := hw
    have each : ∀ i : Nat, i < len → ∃ q : α, wf q ∧ ∃ c : List Value, c.length = d.sz ∧ d.K w q c ∧ ∀ j u, c[j]? = some u → w.cell? (a.add (i * d.sz + j)) = some u := by
      intro i hi
      obtain ⟨cs', h1, h2⟩ := hx i (by omega)
      rw [hsz] at h1
      obtain ⟨_, hlen, hcell⟩ := World.cells?_some h1
      obtain ⟨y, hK, hwf⟩ := he H enc w base n spare held cs' _ hlen h2 (all_weights _ hw1 _ (List.mem_map.2 ⟨i, List.mem_range.2 hi, rfl⟩))
      refine ⟨y, hwf, cs', hlen, hK, fun j u hu => ?_⟩
      have hj : j < d.sz := by
        rw [← hlen]
        rcases Nat.lt_or_ge j cs'.length with h' | h'
        · exact h'
        · rw [List.getElem?_eq_none h'] at hu; cases hu
      have := hcell j hj
      rw [hu] at this
      rw [show a.add (i * d.sz + j) = (a.add (i * d.sz)).add j from add_add_ _ _ _]
      exact this
    obtain ⟨l, rfl, hl2⟩ := pick len each
    refine ⟨l, ⟨some a, cap, rfl, hl, rfl, Nat.le_trans hl hm, fun _ => ⟨a, rfl, fun j p hj => (hl2 j p hj).2⟩⟩, Nat.le_trans hl hm, ?_, ?_⟩
    · have hw2 := of_decide_eq_true hw0
      rw [hB] at hw2
      exact Nat.le_trans (Nat.mul_le_mul_right _ (by omega)) hw2
    · intro y hy
      obtain ⟨j, hj⟩ := List.mem_iff_getElem?.1 hy
      exact (hl2 j y hj).1

/-- Fields in line, from the place o on. -/
def OpL {β : Type} (P : Program) (d : Kd β) (fs : List Field) (o : Nat) (wf : β → Prop) : Prop :=
  ∀ (H : Type) (enc : TypeId × Value → H) (w : World) (base n : Nat) (spare : Nat → Bool) (held : Bool) (cs : List Value) (xs : List (DataW H × List MemPlace)), cs.length = d.sz → xs.length = fs.length →
    (∀ (i : Nat) (f : Field), fs[i]? = some f → DataW.trod enc P w base spare held n f.type ((cs.drop (f.offset - o)).take (P.cellsOf f.type)) = xs[i]?) →
    (DataW.weightsEach P (fs.map (·.type)) (xs.map (·.1))).all (· ≤ reachBytes) = true → ∃ a, d.K w a cs ∧ wf a

theorem opL_one {β : Type} {P : Program} {d : Kd β} {f : Field} {o : Nat} {wf : β → Prop} (ho : f.offset = o) (hc : P.cellsOf f.type = d.sz) (h : Opens P d f.type wf) : OpL P d [f] o wf := by
  intro H enc w base n spare held cs xs hl hx hf hw
  match xs, hx with
  | [y], _ =>
    have h0 := hf 0 f rfl
    rw [ho, Nat.sub_self, List.drop_zero, hc, ← hl, List.take_length] at h0
    simp only [List.map_cons, List.map_nil, DataW.weightsEach, List.append_nil] at hw
    exact h H enc w base n spare held cs y hl h0 hw

theorem opL_cons {α β : Type} {P : Program} {d1 : Kd α} {d : Kd β} {f : Field} {fs : List Field} {o : Nat} {wf1 : α → Prop} {wf : β → Prop} (ho : f.offset = o) (hc : P.cellsOf f.type = d1.sz) (h1 : Opens P d1 f.type wf1)
    (hfs0 : (fs.all fun g => decide (o + d1.sz ≤ g.offset)) = true) (h : OpL P d fs (o + d1.sz) wf) : OpL P (Kd.pair d1 d) (f :: fs) o (fun x => wf1 x.1 ∧ wf x.2) := by
  have hfs : ∀ g ∈ fs, o + d1.sz ≤ g.offset := fun g hg => of_decide_eq_true (List.all_eq_true.1 hfs0 g hg)
  intro H enc w base n spare held cs xs hl hx hf hw
  have hl' : cs.length = d1.sz + d.sz := hl
  match xs, hx with
  | y :: ys, hx =>
    have h0 := hf 0 f rfl
    rw [ho, Nat.sub_self, List.drop_zero, hc] at h0
    simp only [List.map_cons, DataW.weightsEach, List.all_append, Bool.and_eq_true] at hw
    obtain ⟨a, ka, wa⟩ := h1 H enc w base n spare held (cs.take d1.sz) y (by rw [List.length_take]; omega) h0 hw.1
    obtain ⟨b, kb, wb⟩ := h H enc w base n spare held (cs.drop d1.sz) ys (by rw [List.length_drop]; omega) (by simpa using hx) (fun i g hg => by
      have := hf (i + 1) g (by simpa using hg)
      rw [List.drop_drop]
      have hg2 := hfs g (List.mem_of_getElem? hg)
      rw [show d1.sz + (g.offset - (o + d1.sz)) = g.offset - o by omega, this]
      simp) hw.2
    exact ⟨(a, b), ⟨cs.take d1.sz, cs.drop d1.sz, (List.take_append_drop _ _).symm, ka, kb⟩, wa, wb⟩

theorem op_struct {α β : Type} {P : Program} {d : Kd α} {t : TypeId} {fs : Array Field} {wf : α → Prop} {p : β → α} (g : α → β) (hg : ∀ a, p (g a) = a) (ht : P.underlying t = some (.struct fs)) (h : OpL P d fs.toList 0 wf) :
    Opens P (Kd.iso d p) t (fun b => wf (p b)) := by
  intro H enc w base fuel spare held cs x hl hx hw
  obtain ⟨xs, n, rfl, rfl, _, hxl, hf⟩ := DataW.trod_struct ht hx
  simp only [DataW.weights, ht] at hw
  obtain ⟨a, ka, wa⟩ := h H enc w base n spare held cs xs hl (by simpa using hxl) (fun i f hi => by
    rw [Nat.sub_zero]
    exact hf i f (by simpa using hi)) hw
  refine ⟨g a, ?_, ?_⟩
  · show d.K w (p (g a)) cs
    rw [hg]; exact ka
  · show wf (p (g a))
    rw [hg]; exact wa

theorem op_agg {α : Type} {P : Program} {d : Kd α} {t : TypeId} {fs : Array Field} {wf : α → Prop} (ht : P.underlying t = some (.struct fs)) (h : OpL P d fs.toList 0 wf) : Opens P d t wf :=
  op_struct (d := d) (p := fun a => a) (fun a => a) (fun _ => rfl) ht h

/-- An array of two. -/
theorem op_array2 {α : Type} {P : Program} {d : Kd α} {t e : TypeId} {wf : α → Prop} (ht : P.underlying t = some (.array 2 e)) (hc : P.cellsOf e = d.sz) (h : Opens P d e wf) : Opens P (Kd.pair d d) t (fun x => wf x.1 ∧ wf x.2) := by
  intro H enc w base fuel spare held cs x hl hx hw
  obtain ⟨xs, m, rfl, rfl, _, hxl, hf⟩ := DataW.trod_array ht hx
  simp only [DataW.weights, ht] at hw
  have hl' : cs.length = d.sz + d.sz := hl
  match xs, hxl with
  | [y, z], _ =>
    have h0 := hf 0 (by omega)
    have h1 := hf 1 (by omega)
    rw [Nat.zero_mul, List.drop_zero, hc] at h0
    rw [Nat.one_mul, hc, List.take_of_length_le (by rw [List.length_drop]; omega)] at h1
    simp only [List.map_cons, List.map_nil, DataW.weightsAll, List.all_append, Bool.and_eq_true] at hw
    obtain ⟨a, ka, wa⟩ := h H enc w base m spare held (cs.take d.sz) y (by rw [List.length_take]; omega) h0 hw.1
    obtain ⟨b, kb, wb⟩ := h H enc w base m spare held (cs.drop d.sz) z (by rw [List.length_drop]; omega) h1 hw.2.1
    exact ⟨(a, b), ⟨cs.take d.sz, cs.drop d.sz, (List.take_append_drop _ _).symm, ka, kb⟩, wa, wb⟩

theorem okWide_arr {P : Program} {W : World} {r : Reach} {b0 : Nat} {t e : TypeId} {n : Nat} {v : Value} (ht : P.underlying t = some (.array n e)) (h : Value.okWide P W r b0 t v) : ∃ cs, v = .agg cs ∧ cs.size = P.cellsOf t := by
  simp only [Value.okWide, ht] at h
  obtain ⟨cs, h1, h2, _⟩ := h
  exact ⟨cs, h1, h2⟩

theorem okWide_agg {P : Program} {W : World} {r : Reach} {b0 : Nat} {t : TypeId} {fs : Array Field} {v : Value} (ht : P.underlying t = some (.struct fs)) (h : Value.okWide P W r b0 t v) : ∃ cs, v = .agg cs ∧ cs.size = P.cellsOf t := by
  simp only [Value.okWide, ht] at h
  obtain ⟨cs, h1, h2, _⟩ := h
  exact ⟨cs, h1, h2⟩

/-- One argument. -/
theorem arg {α H : Type} {enc : TypeId × Value → H} {P : Program} {d : Kd α} {t : TypeId} {wf : α → Prop} (h : Opens P d t wf) {w : World} {base : Nat} {spare : Nat → Bool} {held : Bool} {v : Value} {x : DataW H} {ps : List MemPlace}
    (hl : v.cells.toList.length = d.sz) (hv : DataW.Trod enc P w base spare held t v x ps) {ts : List TypeId} {ds : List (DataW H)} {j : Nat} (hsz : (DataW.weightsEach P ts ds).all (· ≤ reachBytes) = true) (ht : ts[j]? = some t) (hd : ds[j]? = some x) :
    ∃ a, d.K w a v.cells.toList ∧ wf a := by
  obtain ⟨fuel, hf⟩ := hv
  exact h H enc w base fuel spare held _ _ hl hf (weights_at ts ds j hsz ht hd)

end Go.Proofs.Ytjjnfobeeflnhaa.Op

/- Three closed facts over the whole program, with its header's words as numbers. -/
namespace Go.Proofs.Ytjjnfobeeflnhaa.Facts
theorem toList_of (s : String) (l : List Char) (h : s = String.ofList l) : s.toList = l := by rw [h, String.toList_ofList]
def glue : List (List Char) → List Char
  | [] => []
  | [w] => w
  | w :: v :: r => w ++ Char.ofNat 32 :: glue (v :: r)
theorem signs_space (r : List Char) : wordsSigns (Char.ofNat 32 :: r) = [] :: wordsSigns r := rfl
theorem signs_cons (c : Char) (r : List Char) (h : c ≠ Char.ofNat 32) (w : List Char) (ws : List (List Char)) (e : wordsSigns r = w :: ws) : wordsSigns (c :: r) = (c :: w) :: ws := by
  rw [wordsSigns]
  · rw [e]
  · exact h
theorem signs_one : ∀ (w : List Char), (∀ c ∈ w, c ≠ Char.ofNat 32) → wordsSigns w = [w]
  | [], _ => rfl
  | c :: w, h => signs_cons c w (h c (List.mem_cons_self ..)) _ _ (signs_one w (fun d hd => h d (List.mem_cons_of_mem _ hd)))
theorem signs_more (r : List Char) : ∀ (w : List Char), (∀ c ∈ w, c ≠ Char.ofNat 32) → wordsSigns (w ++ Char.ofNat 32 :: r) = w :: wordsSigns r
  | [], _ => signs_space r
  | c :: w, h => signs_cons c _ (h c (List.mem_cons_self ..)) _ _ (signs_more r w (fun d hd => h d (List.mem_cons_of_mem _ hd)))
theorem signs_glue : ∀ (ws : List (List Char)), ws ≠ [] → (∀ w ∈ ws, ∀ c ∈ w, c ≠ Char.ofNat 32) → wordsSigns (glue ws) = ws
  | [], h, _ => absurd rfl h
  | [w], _, h => signs_one w (h w (List.mem_cons_self ..))
  | w :: v :: r, _, h => by
    rw [glue, signs_more _ w (h w (List.mem_cons_self ..)), signs_glue (v :: r) (by simp) (fun u hu => h u (List.mem_cons_of_mem _ hu))]
def W : List (List Char) := (List.map (List.map Char.ofNat) [[104, 97, 114, 110, 101, 115, 115],
  [56, 98, 98, 99, 100, 53, 56, 100, 55, 50, 48, 97, 53, 56, 100, 57, 52, 98, 55, 57, 101, 52, 50, 101, 52, 51, 102, 99, 99, 49, 53, 53, 57, 54, 97, 50, 97, 48, 101, 99, 97, 98, 49, 48, 54, 55, 52, 48, 102, 55, 97, 48, 53, 52, 57, 55, 52, 100, 97, 52, 102, 54, 100, 56],
  [99, 117, 116],
  [97, 116],
  [106, 117, 110, 116, 111, 47, 106, 117, 110, 116, 111, 108, 97, 119, 48, 55, 46, 84, 119, 105, 99, 101, 67, 104, 101, 99, 107, 115],
  [106, 117, 110, 116, 111, 47, 106, 117, 110, 116, 111, 108, 97, 119, 48, 55, 46, 84, 119, 105, 99, 101, 77, 97, 107, 101, 115],
  [106, 117, 110, 116, 111, 47, 106, 117, 110, 116, 111, 108, 97, 119, 48, 55, 46, 84, 119, 105, 99, 101, 86, 97, 108, 117, 101, 115],
  [106, 117, 110, 116, 111, 47, 106, 117, 110, 116, 111, 108, 97, 119, 48, 55, 46, 84, 119, 105, 99, 101, 80, 114, 111, 100, 117, 99, 116],
  [106, 117, 110, 116, 111, 47, 106, 117, 110, 116, 111, 108, 97, 119, 48, 55, 46, 84, 119, 105, 99, 101, 74, 111, 105, 110, 115],
  [106, 117, 110, 116, 111, 47, 106, 117, 110, 116, 111, 108, 97, 119, 48, 55, 46, 84, 119, 105, 99, 101, 79, 110, 101],
  [106, 117, 110, 116, 111, 47, 106, 117, 110, 116, 111, 108, 97, 119, 48, 55, 46, 84, 119, 105, 99, 101, 77, 111, 118, 101, 115],
  [106, 117, 110, 116, 111, 47, 106, 117, 110, 116, 111, 108, 97, 119, 48, 52, 46, 83, 104, 97, 114, 101, 83, 101, 116, 117, 112, 115],
  [106, 117, 110, 116, 111, 47, 106, 117, 110, 116, 111, 108, 97, 119, 48, 52, 46, 83, 104, 97, 114, 101, 77, 97, 107, 101, 115],
  [106, 117, 110, 116, 111, 47, 106, 117, 110, 116, 111, 108, 97, 119, 48, 52, 46, 83, 104, 97, 114, 101, 86, 97, 108, 117, 101, 115],
  [106, 117, 110, 116, 111, 47, 106, 117, 110, 116, 111, 108, 97, 119, 48, 52, 46, 83, 104, 97, 114, 101, 77, 111, 118, 101, 115],
  [106, 117, 110, 116, 111, 47, 106, 117, 110, 116, 111, 108, 97, 119, 48, 52, 46, 83, 104, 97, 114, 101, 78, 111, 116, 104, 105, 110, 103],
  [106, 117, 110, 116, 111, 47, 106, 117, 110, 116, 111, 108, 97, 119, 48, 52, 46, 83, 104, 97, 114, 101, 79, 110, 108, 121],
  [106, 117, 110, 116, 111, 47, 106, 117, 110, 116, 111, 108, 97, 119, 48, 52, 46, 83, 104, 97, 114, 101, 84, 104, 101, 114, 101],
  [106, 117, 110, 116, 111, 47, 106, 117, 110, 116, 111, 108, 97, 119, 48, 52, 46, 83, 104, 97, 114, 101, 83, 117, 109, 115],
  [106, 117, 110, 116, 111, 47, 106, 117, 110, 116, 111, 108, 97, 119, 48, 52, 46, 83, 104, 97, 114, 101, 70, 105, 116, 115],
  [106, 117, 110, 116, 111, 47, 106, 117, 110, 116, 111, 108, 97, 119, 48, 55, 46, 84, 119, 105, 99, 101, 67, 117, 116, 115],
  [106, 117, 110, 116, 111, 47, 106, 117, 110, 116, 111, 108, 97, 119, 48, 55, 46, 84, 119, 105, 99, 101, 77, 111, 118, 101, 100],
  [106, 117, 110, 116, 111, 47, 106, 117, 110, 116, 111, 108, 97, 119, 48, 50, 46, 80, 111, 108, 121, 84, 104, 114, 111, 117, 103, 104],
  [106, 117, 110, 116, 111, 47, 106, 117, 110, 116, 111, 108, 97, 119, 48, 50, 46, 80, 111, 108, 121, 87, 101, 105, 103, 104, 116, 115],
  [106, 117, 110, 116, 111, 47, 106, 117, 110, 116, 111, 108, 97, 119, 48, 50, 46, 80, 111, 108, 121, 65, 119, 97, 121],
  [106, 117, 110, 116, 111, 47, 106, 117, 110, 116, 111, 108, 97, 119, 48, 50, 46, 80, 111, 108, 121, 83, 108, 111, 112, 101, 115],
  [106, 117, 110, 116, 111, 47, 106, 117, 110, 116, 111, 108, 97, 119, 48, 50, 46, 80, 111, 108, 121, 80, 114, 111, 100, 117, 99, 116, 115],
  [106, 117, 110, 116, 111, 47, 106, 117, 110, 116, 111, 108, 97, 119, 48, 50, 46, 80, 111, 108, 121, 83, 117, 109, 115],
  [106, 117, 110, 116, 111, 47, 106, 117, 110, 116, 111, 108, 97, 119, 48, 50, 46, 80, 111, 108, 121, 66, 97, 99, 107],
  [106, 117, 110, 116, 111, 47, 106, 117, 110, 116, 111, 108, 97, 119, 48, 50, 46, 80, 111, 108, 121, 86, 97, 108, 117, 101, 115],
  [106, 117, 110, 116, 111, 47, 106, 117, 110, 116, 111, 108, 97, 119, 48, 50, 46, 80, 111, 108, 121, 82, 111, 111, 116, 115],
  [106, 117, 110, 116, 111, 47, 106, 117, 110, 116, 111, 108, 97, 119, 48, 50, 46, 80, 111, 108, 121, 70, 101, 119],
  [106, 117, 110, 116, 111, 47, 106, 117, 110, 116, 111, 108, 97, 119, 48, 50, 46, 80, 111, 108, 121, 86, 97, 108, 117, 101, 100],
  [106, 117, 110, 116, 111, 47, 106, 117, 110, 116, 111, 108, 97, 119, 48, 50, 46, 80, 111, 108, 121, 81, 117, 111, 116, 105, 101, 110, 116, 115],
  [106, 117, 110, 116, 111, 47, 106, 117, 110, 116, 111, 108, 97, 119, 48, 50, 46, 80, 111, 108, 121, 65, 112, 97, 114, 116],
  [106, 117, 110, 116, 111, 47, 106, 117, 110, 116, 111, 108, 97, 119, 48, 52, 46, 83, 104, 97, 114, 101, 83, 101, 99, 114, 101, 116, 115],
  [106, 117, 110, 116, 111, 47, 106, 117, 110, 116, 111, 108, 97, 119, 48, 52, 46, 83, 104, 97, 114, 101, 66, 97, 99, 107]])
set_option maxRecDepth 100000 in
theorem head : Try.pinned.checked.prog.initOrder.toList = glue W := toList_of _ _ (by kernel_rfl)
theorem plain : (W.all fun w => w.all fun c => c.toNat != 32) = true := by kernel_rfl
theorem signs : wordsSigns Try.pinned.checked.prog.initOrder.toList = W := by
  rw [head]
  refine signs_glue W (by simp [W]) fun w hw c hc e => ?_
  have h := List.all_eq_true.1 (List.all_eq_true.1 plain w hw) c hc
  rw [e] at h
  cases h
theorem words : behindMainWord (wordsSigns Try.pinned.checked.prog.initOrder.toList) = W.drop 2 := by
  rw [signs]
  kernel_rfl
theorem lifts : Try.pinned.checked.prog.headLifts = [] := by
  unfold Program.headLifts
  rw [words]
  kernel_rfl
theorem final : Try.pinned.checked.prog.liftsFinal = false := by
  unfold Program.liftsFinal
  rw [words, lifts]
  kernel_rfl
theorem made_of (P : Program) (rest : List (List Char)) (h : behindMainWord (wordsSigns P.initOrder.toList) = [Char.ofNat 99, Char.ofNat 117, Char.ofNat 116] :: rest) : P.make = some .cut := by
  unfold Program.make
  rw [h]
  kernel_rfl
theorem enters_of (P : Program) (rest : List (List Char)) (h : behindMainWord (wordsSigns P.initOrder.toList) = [Char.ofNat 99, Char.ofNat 117, Char.ofNat 116] :: rest) (hl : P.laysLater = false) (hb : P.bearsReflect = false) (hd : P.doorFits [] = true)
    (hs : stripLifts liftWords ([Char.ofNat 99, Char.ofNat 117, Char.ofNat 116] :: rest) = ([], [Char.ofNat 99, Char.ofNat 117, Char.ofNat 116] :: rest)) : P.mayEnter = true := by
  unfold Program.mayEnter
  rw [h]
  simp only [hs, hl, hb, hd]
  kernel_rfl
theorem made : Try.pinned.checked.prog.make = some .cut := made_of _ (W.drop 3) (words.trans (by kernel_rfl))
theorem enters : Try.pinned.checked.prog.mayEnter = true := enters_of _ (W.drop 3) (words.trans (by kernel_rfl)) (by kernel_rfl) (by kernel_rfl) (by kernel_rfl) (by kernel_rfl)
end Go.Proofs.Ytjjnfobeeflnhaa.Facts

/- Both tests of a prime and both tests of a setup answer alike, and what they answer. -/
namespace Go.Proofs.Ytjjnfobeeflnhaa.L
open Go.RowKit Go.Proofs.YtjjnfobeeflnhaaW.PrintWords Go.Proofs.Ytjjnfobeeflnhaa.J
set_option linter.unusedVariables false
set_option linter.unusedSimpArgs false

theorem u64_small {n : Int} (h0 : 0 ≤ n) (h1 : n < 18446744073709551616) : IntKind.u64.wrap n = n := by
  simp [IntKind.wrap, IntKind.signed, IntKind.bits]
  omega
theorem w64_small {n : Int} (h0 : -9223372036854775808 ≤ n) (h1 : n < 9223372036854775808) : wrap64 n = n := by
  unfold wrap64
  omega

/-- No divisor from 2 on whose square is at most a. -/
def free (a : Int) : Prop := ∀ y : Fin 257, 2 ≤ y.val → ((y.val : Int) * (y.val : Int)) ≤ a → a % (y.val : Int) ≠ 0
def isP (a : Int) : Bool := decide (3 ≤ a ∧ a ≤ 65537 ∧ ∀ y : Fin 257, 2 ≤ y.val → ((y.val : Int) * (y.val : Int)) ≤ a → a % (y.val : Int) ≠ 0)
theorem free_of {a : Int} (h : a ≤ 65537) (hf : ∀ y : Fin 257, 2 ≤ y.val → ((y.val : Int) * (y.val : Int)) ≤ a → a % (y.val : Int) ≠ 0) (y : Int) (h2 : 2 ≤ y) (hy : y * y ≤ a) : a % y ≠ 0 := by
  have hb : y < 257 := by
    rcases Int.lt_or_le y 257 with h' | h'
    · exact h'
    · have : 257 * 257 ≤ y * y := Int.mul_le_mul h' h' (by omega) (by omega)
      omega
  have := hf ⟨y.toNat, by omega⟩ (show 2 ≤ y.toNat by omega)
  simp only at this
  rw [show ((y.toNat : Nat) : Int) = y by omega] at this
  exact this hy
theorem isP_iff (a : Int) : isP a = true ↔ 3 ≤ a ∧ a ≤ 65537 ∧ ∀ y : Int, 2 ≤ y → y * y ≤ a → a % y ≠ 0 := by
  unfold isP
  rw [decide_eq_true_iff]
  constructor
  · rintro ⟨h1, h2, h3⟩
    exact ⟨h1, h2, fun y hy => free_of h2 h3 y hy⟩
  · rintro ⟨h1, h2, h3⟩
    exact ⟨h1, h2, fun y hy hq => h3 y.val (by omega) hq⟩

theorem sq_small {x : Int} (h0 : 0 ≤ x) (h1 : x ≤ 300) : 0 ≤ x * x ∧ x * x ≤ 90000 :=
  ⟨Int.mul_nonneg h0 h0, Int.mul_le_mul h1 h1 h0 (by omega)⟩

theorem ref_loop (a : Int) (h3 : 3 ≤ a) (ha : a ≤ 65537) : ∀ (m : Nat) (x : Int), 2 ≤ x → x + m = 258 → (∀ y : Int, 2 ≤ y → y < x → y * y ≤ a → a % y ≠ 0) → Ev (fun k => juntoref01_Is.l0 k a x) (isP a)
  | 0, x, h2, hx, hy => by
    have hb : isP a = true := (isP_iff a).2 ⟨h3, ha, fun y y2 yq => hy y y2 (by
      rcases Int.lt_or_le y x with h' | h'
      · exact h'
      · have : 257 * 257 ≤ y * y := Int.mul_le_mul (by omega) (by omega) (by omega) (by omega)
        omega) yq⟩
    rw [hb]
    refine Ev.step (f := fun k => some true) (fun k => ?_) (Ev.now _)
    have hq := sq_small (x := x) (by omega) (by omega)
    have : ¬ (x * x ≤ a) := by
      have : 257 * 257 ≤ x * x := Int.mul_le_mul (by omega) (by omega) (by omega) (by omega)
      omega
    simp only [juntoref01_Is.l0]
    rw [u64_small hq.1 (by omega), if_neg this]
  | m + 1, x, h2, hx, hy => by
    have hq := sq_small (x := x) (by omega) (by omega)
    by_cases hle : x * x ≤ a
    · by_cases hd : a % x = 0
      · have hb : isP a = false := by
          rw [Bool.eq_false_iff]
          intro h'
          exact ((isP_iff a).1 h').2.2 x h2 hle hd
        rw [hb]
        refine Ev.step (f := fun k => some false) (fun k => ?_) (Ev.now _)
        simp only [juntoref01_Is.l0]
        rw [u64_small hq.1 (by omega), if_pos hle, if_neg (show ¬ x = 0 by omega), if_pos (by rw [Int.tmod_eq_emod_of_nonneg (by omega)]; exact hd)]
      · refine Ev.step (f := fun k => juntoref01_Is.l0 k a (x + 1)) (fun k => ?_) (ref_loop a h3 ha m (x + 1) (by omega) (by omega) fun y y2 yx yq => ?_)
        · conv => lhs; simp only [juntoref01_Is.l0]
          rw [u64_small hq.1 (by omega), if_pos hle, if_neg (show ¬ x = 0 by omega), if_neg (by rw [Int.tmod_eq_emod_of_nonneg (by omega)]; exact hd), u64_small (show 0 ≤ x + 1 by omega) (by omega)]
        · rcases Int.lt_or_le y x with h' | h'
          · exact hy y y2 h' yq
          · obtain rfl : y = x := by omega
            exact hd
    · have hb : isP a = true := (isP_iff a).2 ⟨h3, ha, fun y y2 yq => hy y y2 (by
        rcases Int.lt_or_le y x with h' | h'
        · exact h'
        · have : x * x ≤ y * y := Int.mul_le_mul h' h' (by omega) (by omega)
          omega) yq⟩
      rw [hb]
      refine Ev.step (f := fun k => some true) (fun k => ?_) (Ev.now _)
      simp only [juntoref01_Is.l0]
      rw [u64_small hq.1 (by omega), if_neg hle]

theorem odd_loop (a : Int) (h3 : 3 ≤ a) (ha : a ≤ 65537) (hodd : a % 2 = 1) : ∀ (m : Nat) (x : Int), 3 ≤ x → x % 2 = 1 → x + 2 * m = 259 → (∀ y : Int, 2 ≤ y → y < x → y * y ≤ a → a % y ≠ 0) → Ev (fun k => field_Is.l0 k a x) (isP a)
  | 0, x, h2, hxo, hx, hy => by
    have hb : isP a = true := (isP_iff a).2 ⟨h3, ha, fun y y2 yq => hy y y2 (by
      rcases Int.lt_or_le y x with h' | h'
      · exact h'
      · have : 257 * 257 ≤ y * y := Int.mul_le_mul (by omega) (by omega) (by omega) (by omega)
        omega) yq⟩
    rw [hb]
    refine Ev.step (f := fun k => some true) (fun k => ?_) (Ev.now _)
    have hq := sq_small (x := x) (by omega) (by omega)
    have : ¬ (x * x ≤ a) := by
      have : 257 * 257 ≤ x * x := Int.mul_le_mul (by omega) (by omega) (by omega) (by omega)
      omega
    simp only [field_Is.l0]
    rw [u64_small hq.1 (by omega), if_neg this]
  | m + 1, x, h2, hxo, hx, hy => by
    have hq := sq_small (x := x) (by omega) (by omega)
    by_cases hle : x * x ≤ a
    · by_cases hd : a % x = 0
      · have hb : isP a = false := by
          rw [Bool.eq_false_iff]
          intro h'
          exact ((isP_iff a).1 h').2.2 x (by omega) hle hd
        rw [hb]
        refine Ev.step (f := fun k => some false) (fun k => ?_) (Ev.now _)
        simp only [field_Is.l0]
        rw [u64_small hq.1 (by omega), if_pos hle, if_neg (show ¬ x = 0 by omega), if_pos (by rw [Int.tmod_eq_emod_of_nonneg (by omega)]; exact hd)]
      · refine Ev.step (f := fun k => field_Is.l0 k a (x + 2)) (fun k => ?_) (odd_loop a h3 ha hodd m (x + 2) (by omega) (by omega) (by omega) fun y y2 yx yq => ?_)
        · conv => lhs; simp only [field_Is.l0]
          rw [u64_small hq.1 (by omega), if_pos hle, if_neg (show ¬ x = 0 by omega), if_neg (by rw [Int.tmod_eq_emod_of_nonneg (by omega)]; exact hd), u64_small (show 0 ≤ x + 2 by omega) (by omega)]
        · rcases Int.lt_or_le y x with h' | h'
          · exact hy y y2 h' yq
          · rcases Int.lt_or_le x y with h'' | h''
            · obtain rfl : y = x + 1 := by omega
              intro h0
              have h1 : (2 : Int) ∣ a := Int.dvd_trans (Int.dvd_of_emod_eq_zero (by omega)) (Int.dvd_of_emod_eq_zero h0)
              have := Int.emod_eq_zero_of_dvd h1
              omega
            · obtain rfl : y = x := by omega
              exact hd
    · have hb : isP a = true := (isP_iff a).2 ⟨h3, ha, fun y y2 yq => hy y y2 (by
        rcases Int.lt_or_le y x with h' | h'
        · exact h'
        · have : x * x ≤ y * y := Int.mul_le_mul h' h' (by omega) (by omega)
          omega) yq⟩
      rw [hb]
      refine Ev.step (f := fun k => some true) (fun k => ?_) (Ev.now _)
      simp only [field_Is.l0]
      rw [u64_small hq.1 (by omega), if_neg hle]

theorem not_isP {a : Int} (h : ¬ (3 ≤ a ∧ a ≤ 65537)) : isP a = false := by
  rw [Bool.eq_false_iff]
  intro h'
  have := (isP_iff a).1 h'
  exact h ⟨this.1, this.2.1⟩

theorem ref_is (a : Int) : Ev (fun k => juntoref01_Is.f k a) (isP a) := by
  by_cases h3 : a < 3
  · rw [not_isP (by omega)]
    refine Ev.step (f := fun k => some false) (fun k => ?_) (Ev.now _)
    simp [juntoref01_Is.f, juntoref01_Is.j0, h3]
  · by_cases hb : a > 65537
    · rw [not_isP (by omega)]
      refine Ev.step (f := fun k => some false) (fun k => ?_) (Ev.now _)
      simp [juntoref01_Is.f, juntoref01_Is.j0, h3, hb]
    · refine Ev.step (f := fun k => juntoref01_Is.l0 k a 2) (fun k => ?_) (ref_loop a (by omega) (by omega) 256 2 (by omega) (by omega) fun y y2 yx => by omega)
      simp [juntoref01_Is.f, juntoref01_Is.j0, h3, hb]

theorem field_is (a : Int) : Ev (fun k => field_Is.f k a) (isP a) := by
  by_cases h3 : a < 3
  · rw [not_isP (by omega)]
    refine Ev.step (f := fun k => some false) (fun k => ?_) (Ev.now _)
    simp [field_Is.f, field_Is.j0, h3]
  · by_cases hb : a > 65537
    · rw [not_isP (by omega)]
      refine Ev.step (f := fun k => some false) (fun k => ?_) (Ev.now _)
      simp [field_Is.f, field_Is.j0, h3, hb]
    · by_cases ho : a % 2 = 0
      · have hp : isP a = false := by
          rw [Bool.eq_false_iff]
          intro h'
          exact ((isP_iff a).1 h').2.2 2 (by omega) (by omega) ho
        rw [hp]
        refine Ev.step (f := fun k => some false) (fun k => ?_) (Ev.now _)
        have ht : Int.tmod a 2 = 0 := by rw [Int.tmod_eq_emod_of_nonneg (by omega)]; exact ho
        simp [field_Is.f, field_Is.j0, h3, hb, ht]
      · refine Ev.step (f := fun k => field_Is.l0 k a 3) (fun k => ?_) (odd_loop a (by omega) (by omega) (by omega) 128 3 (by omega) (by omega) (by omega) fun y y2 yx yq => ?_)
        · have ht : ¬ Int.tmod a 2 = 0 := by rw [Int.tmod_eq_emod_of_nonneg (by omega)]; exact ho
          simp [field_Is.f, field_Is.j0, h3, hb, ht]
        · obtain rfl : y = 2 := by omega
          exact ho

/-- What the tests of a row answer: 0 or 2. -/
def belowV (p : Int) (l : List Int) : Int := if ∀ x ∈ l, x < p then 0 else 2

theorem below_loop (p : Int) (l : List Int) (hl : l.length ≤ maxLen) : ∀ (m i : Nat), i + m = l.length → (∀ x ∈ l.take i, x < p) → Ev (fun k => field_Below.l0 k p l (l.length : Int) (i : Int)) (belowV p l)
  | 0, i, hi, hx => by
    have hv : belowV p l = 0 := by
      unfold belowV
      rw [if_pos]
      rw [List.take_of_length_le (by omega)] at hx
      exact hx
    rw [hv]
    refine Ev.step (f := fun k => some 0) (fun k => ?_) (Ev.now _)
    simp only [field_Below.l0]
    rw [if_neg (by omega)]
  | m + 1, i, hi, hx => by
    have hm : (l.length : Int) ≤ 9223372036854775807 := by simp only [maxLen] at hl; omega
    have hlt : i < l.length := by omega
    have hr : rd l (i : Int) = l[i] := by simp [rd, List.getD_eq_getElem?_getD, hlt]
    by_cases hge : l[i] ≥ p
    · have hv : belowV p l = 2 := by
        unfold belowV
        rw [if_neg]
        intro h'
        have := h' _ (List.getElem_mem hlt)
        omega
      rw [hv]
      refine Ev.step (f := fun k => some 2) (fun k => ?_) (Ev.now _)
      simp only [field_Below.l0]
      rw [if_pos (by omega), if_pos (by omega), if_pos (by omega), if_pos (by rw [hr]; exact hge)]
    · refine Ev.step (f := fun k => field_Below.l0 k p l (l.length : Int) ((i + 1 : Nat) : Int)) (fun k => ?_) (below_loop p l hl m (i + 1) (by omega) fun x hx' => ?_)
      · conv => lhs; simp only [field_Below.l0]
        rw [if_pos (by omega), if_pos (by omega), if_pos (by omega), if_neg (by rw [hr]; exact hge), w64_small (by omega) (by omega)]
        rfl
      · rw [List.take_add_one, List.mem_append] at hx'
        rcases hx' with h' | h'
        · exact hx x h'
        · rw [List.getElem?_eq_getElem hlt] at h'
          simp only [Option.toList_some, List.mem_singleton] at h'
          rw [h']; omega

theorem field_below (p : Int) (l : List Int) (hl : l.length ≤ maxLen) : Ev (fun k => field_Below.f k p l) (belowV p l) :=
  below_loop p l hl l.length 0 (by omega) (fun x hx => by simp at hx)

theorem within_eq : ∀ k a b c d, juntoref01_Within.l0 k a b c d = field_Below.l0 k a b c d
  | 0, _, _, _, _ => rfl
  | k + 1, a, b, c, d => by
    simp only [juntoref01_Within.l0, field_Below.l0, within_eq k]

theorem ref_within (p : Int) (l : List Int) (hl : l.length ≤ maxLen) : Ev (fun k => juntoref01_Within.f k p l) (belowV p l) := by
  refine Ev.congr (fun k => ?_) (field_below p l hl)
  exact within_eq _ _ _ _ _

end Go.Proofs.Ytjjnfobeeflnhaa.L

/- Both ways to evaluate a polynomial answer alike, and what they answer. -/
namespace Go.Proofs.Ytjjnfobeeflnhaa.L
open Go.RowKit Go.Proofs.YtjjnfobeeflnhaaW.PrintWords Go.Proofs.Ytjjnfobeeflnhaa.J
set_option linter.unusedVariables false
set_option linter.unusedSimpArgs false

theorem mul_small {p a b : Int} (hp : p ≤ 65537) (ha : 0 ≤ a) (ha' : a < p) (hb : 0 ≤ b) (hb' : b < p) : 0 ≤ a * b ∧ a * b < 18446744073709551616 := by
  have h1 : a * b ≤ 65537 * 65537 := Int.mul_le_mul (by omega) (by omega) hb (by omega)
  exact ⟨Int.mul_nonneg ha hb, by omega⟩

theorem times_at {p a b : Int} (h0 : 0 < p) (hp : p ≤ 65537) (ha : 0 ≤ a) (ha' : a < p) (hb : 0 ≤ b) (hb' : b < p) : field_Times.f p a b = some (a * b % p) := by
  obtain ⟨h1, h2⟩ := mul_small hp ha ha' hb hb'
  unfold field_Times.f field_mul.f
  simp only [u64_small h1 h2, if_neg (show ¬ p = 0 by omega), Option.bind_some, Int.tmod_eq_emod_of_nonneg h1]

theorem ref_mul {p a b : Int} (h0 : 0 < p) (hp : p ≤ 65537) (ha : 0 ≤ a) (ha' : a < p) (hb : 0 ≤ b) (hb' : b < p) : juntoref01_Mul.f p a b = some (a * b % p) := by
  obtain ⟨h1, h2⟩ := mul_small hp ha ha' hb hb'
  unfold juntoref01_Mul.f
  rw [u64_small h1 h2, if_neg (show ¬ p = 0 by omega), Int.tmod_eq_emod_of_nonneg h1]

theorem ref_add {p a b : Int} (h0 : 0 < p) (hp : p ≤ 65537) (ha : 0 ≤ a) (ha' : a < p) (hb : 0 ≤ b) (hb' : b < p) : juntoref01_Add.f p a b = some ((a + b) % p) := by
  unfold juntoref01_Add.f
  rw [u64_small (by omega) (by omega), if_neg (show ¬ p = 0 by omega), Int.tmod_eq_emod_of_nonneg (by omega)]

theorem plus_at {p a b : Int} (h0 : 0 < p) (hp : p ≤ 65537) (ha : 0 ≤ a) (ha' : a < p) (hb : 0 ≤ b) (hb' : b < p) : field_Plus.f p a b = some ((a + b) % p) := by
  unfold field_Plus.f
  rw [u64_small (n := a + b) (by omega) (by omega)]
  by_cases h : a + b ≥ p
  · rw [if_pos h, u64_small (by omega) (by omega)]
    rw [show (a + b) % p = a + b - p by rw [← Int.sub_emod_right, Int.emod_eq_of_lt (by omega) (by omega)]]
  · rw [if_neg h, Int.emod_eq_of_lt (by omega) (by omega)]

end Go.Proofs.Ytjjnfobeeflnhaa.L

/- The field of the residues modulo a prime: primes by trial division, no zero divisors, Fermat. Plain Lean, no program in sight. -/
namespace Go.Proofs.Ytjjnfobeeflnhaa.Fld

/-- A prime. -/
def Pr (p : Nat) : Prop := 2 ≤ p ∧ ∀ d, d ∣ p → d = 1 ∨ d = p

/-- Trial division up to the root is enough. -/
theorem pr_of_trial {p : Nat} (h2 : 2 ≤ p) (h : ∀ d, 2 ≤ d → d * d ≤ p → p % d ≠ 0) : Pr p := by
  refine ⟨h2, fun d hd => ?_⟩
  obtain ⟨e, he⟩ := hd
  by_cases h1 : d = 1
  · exact .inl h1
  by_cases h3 : e = 1
  · right; rw [he, h3, Nat.mul_one]
  exfalso
  have hd0 : d ≠ 0 := by rintro rfl; omega
  have he0 : e ≠ 0 := by rintro rfl; omega
  by_cases hle : d ≤ e
  · refine h d (by omega) ?_ (Nat.mod_eq_zero_of_dvd ⟨e, he⟩)
    rw [he]; exact Nat.mul_le_mul_left d hle
  · refine h e (by omega) ?_ (Nat.mod_eq_zero_of_dvd ⟨d, by rw [he, Nat.mul_comm]⟩)
    rw [he]; exact Nat.mul_le_mul_right e (by omega)

set_option linter.unusedVariables false
set_option linter.unusedSimpArgs false

end Go.Proofs.Ytjjnfobeeflnhaa.Fld

/- Polynomials over the residues modulo a prime, as lists of coefficients: sums, products, values, trailing zeros, division, interpolation. Plain Lean, no program in sight. -/
namespace Go.Proofs.Ytjjnfobeeflnhaa.Fld
set_option linter.unusedVariables false
set_option linter.unusedSimpArgs false

section
variable {p : Nat} [NeZero p]

/-! ### sums -/
def sm : Nat → (Nat → Fin p) → Fin p
  | 0, _ => 0
  | n + 1, g => sm n g + g n
theorem sm_succ (n : Nat) (g : Nat → Fin p) : sm (n + 1) g = sm n g + g n := rfl
theorem sm_congr {n : Nat} {g h : Nat → Fin p} (e : ∀ i, i < n → g i = h i) : sm n g = sm n h := by
  induction n with
  | zero => rfl
  | succ n ih => rw [sm_succ, sm_succ, ih (fun i hi => e i (by omega)), e n (by omega)]
theorem sm_zero {n : Nat} {g : Nat → Fin p} (e : ∀ i, i < n → g i = 0) : sm n g = 0 := by
  induction n with
  | zero => rfl
  | succ n ih => rw [sm_succ, ih (fun i hi => e i (by omega)), e n (by omega)]; grind
theorem sm_add (n : Nat) (g h : Nat → Fin p) : sm n (fun i => g i + h i) = sm n g + sm n h := by
  induction n with
  | zero => show (0 : Fin p) = 0 + 0; grind
  | succ n ih => rw [sm_succ, sm_succ, sm_succ, ih]; grind
theorem sm_front (n : Nat) (g : Nat → Fin p) : sm (n + 1) g = g 0 + sm n (fun i => g (i + 1)) := by
  induction n with
  | zero => show 0 + g 0 = g 0 + 0; grind
  | succ n ih => rw [sm_succ, ih, sm_succ]; grind
theorem sm_rev (n : Nat) (g : Nat → Fin p) : sm (n + 1) g = sm (n + 1) (fun i => g (n - i)) := by
  induction n generalizing g with
  | zero => rfl
  | succ n ih =>
    rw [sm_front, ih (fun i => g (i + 1)), sm_succ (n + 1) (fun i => g (n + 1 - i))]
    have : sm (n + 1) (fun i => g (n - i + 1)) = sm (n + 1) (fun i => g (n + 1 - i)) := sm_congr fun i hi => by congr 1; omega
    rw [this, show n + 1 - (n + 1) = 0 by omega]; grind
theorem sm_one {n k : Nat} {g : Nat → Fin p} (hk : k < n) (e : ∀ i, i < n → i ≠ k → g i = 0) : sm n g = g k := by
  induction n with
  | zero => omega
  | succ n ih =>
    rw [sm_succ]
    by_cases h : k = n
    · rw [h, sm_zero (fun i hi => e i (by omega) (by omega))]; grind
    · rw [ih (by omega) (fun i h1 h2 => e i (by omega) h2), e n (by omega) (by omega)]; grind

/-! ### coefficients, values -/
def co (f : List (Fin p)) (i : Nat) : Fin p := f.getD i 0
theorem co_nil (i : Nat) : co ([] : List (Fin p)) i = 0 := by simp [co]
theorem co_cons_zero (a : Fin p) (f : List (Fin p)) : co (a :: f) 0 = a := by simp [co]
theorem co_cons_succ (a : Fin p) (f : List (Fin p)) (i : Nat) : co (a :: f) (i + 1) = co f i := by simp [co]
theorem co_ge {f : List (Fin p)} {i : Nat} (h : f.length ≤ i) : co f i = 0 := by simp [co, List.getD_eq_getElem?_getD, List.getElem?_eq_none h]
theorem co_lt {f : List (Fin p)} {i : Nat} (h : i < f.length) : co f i = f[i] := by simp [co, List.getD_eq_getElem?_getD, h]
/-- Equal as polynomials. -/
def Eqv (f g : List (Fin p)) : Prop := ∀ i, co f i = co g i
theorem Eqv.refl (f : List (Fin p)) : Eqv f f := fun _ => rfl
theorem Eqv.symm {f g : List (Fin p)} (h : Eqv f g) : Eqv g f := fun i => (h i).symm
theorem Eqv.trans {f g k : List (Fin p)} (h : Eqv f g) (h' : Eqv g k) : Eqv f k := fun i => (h i).trans (h' i)
/-! ### trailing zeros -/
def trim (f : List (Fin p)) : List (Fin p) := f.foldr (fun c r => if r = [] ∧ c = 0 then [] else c :: r) []
theorem trim_nil : trim ([] : List (Fin p)) = [] := rfl
theorem trim_cons (a : Fin p) (f : List (Fin p)) : trim (a :: f) = if trim f = [] ∧ a = 0 then [] else a :: trim f := rfl
theorem trim_co (f : List (Fin p)) : Eqv (trim f) f := by
  induction f with
  | nil => exact Eqv.refl _
  | cons a f ih =>
    intro i
    rw [trim_cons]
    split
    · rename_i h
      obtain ⟨h1, rfl⟩ := h
      cases i with
      | zero => rw [co_nil, co_cons_zero]
      | succ i => rw [co_nil, co_cons_succ, ← ih i, h1, co_nil]
    · cases i with
      | zero => rw [co_cons_zero, co_cons_zero]
      | succ i => rw [co_cons_succ, co_cons_succ, ih i]
theorem trim_eq_nil {f : List (Fin p)} (h : ∀ i, co f i = 0) : trim f = [] := by
  induction f with
  | nil => rfl
  | cons a f ih =>
    rw [trim_cons, if_pos ⟨ih (fun i => by rw [← co_cons_succ a, h]), by rw [← co_cons_zero a f, h]⟩]
theorem trim_congr {f g : List (Fin p)} (h : Eqv f g) : trim f = trim g := by
  induction f generalizing g with
  | nil => rw [trim_nil, trim_eq_nil (fun i => by rw [← h i, co_nil])]
  | cons a f ih =>
    cases g with
    | nil => rw [trim_nil, trim_eq_nil (fun i => by rw [h i, co_nil])]
    | cons b g =>
      have h0 : a = b := by have := h 0; rwa [co_cons_zero, co_cons_zero] at this
      have h1 : Eqv f g := fun i => by have := h (i + 1); rwa [co_cons_succ, co_cons_succ] at this
      rw [trim_cons, trim_cons, ih h1, h0]
theorem trim_trim (f : List (Fin p)) : trim (trim f) = trim f := trim_congr (trim_co f)
theorem trim_length_le (f : List (Fin p)) : (trim f).length ≤ f.length := by
  induction f with
  | nil => simp [trim_nil]
  | cons a f ih => rw [trim_cons]; split <;> simp <;> omega
/-- Nothing to trim. -/
def Tr (f : List (Fin p)) : Prop := trim f = f
theorem Tr.trim (f : List (Fin p)) : Tr (trim f) := trim_trim f
theorem Tr.ext {f g : List (Fin p)} (hf : Tr f) (hg : Tr g) (h : Eqv f g) : f = g := by rw [← hf, ← hg, trim_congr h]
/-! ### making a list out of its coefficients -/
def mk (n : Nat) (c : Nat → Fin p) : List (Fin p) := (List.range n).map c
end
section
variable {p : Nat}
theorem mk_length (n : Nat) (c : Nat → Fin p) : (mk n c).length = n := by simp [mk]
end
section
variable {p : Nat} [NeZero p]
theorem co_mk (n : Nat) (c : Nat → Fin p) (i : Nat) : co (mk n c) i = if i < n then c i else 0 := by
  by_cases h : i < n
  · rw [co_lt (by rw [mk_length]; exact h), if_pos h]; simp [mk]
  · rw [co_ge (by rw [mk_length]; omega), if_neg h]

/-! ### sums, products -/
def add (f g : List (Fin p)) : List (Fin p) := mk (max f.length g.length) (fun i => co f i + co g i)
def sub (f g : List (Fin p)) : List (Fin p) := mk (max f.length g.length) (fun i => co f i - co g i)
def smul (c : Fin p) (f : List (Fin p)) : List (Fin p) := f.map (c * ·)
theorem co_add (f g : List (Fin p)) (i : Nat) : co (add f g) i = co f i + co g i := by
  unfold add; rw [co_mk]; split
  · rfl
  · rw [co_ge (f := f) (by omega), co_ge (f := g) (by omega)]; grind
theorem co_sub (f g : List (Fin p)) (i : Nat) : co (sub f g) i = co f i - co g i := by
  unfold sub; rw [co_mk]; split
  · rfl
  · rw [co_ge (f := f) (by omega), co_ge (f := g) (by omega)]; grind
theorem co_smul (c : Fin p) (f : List (Fin p)) (i : Nat) : co (smul c f) i = c * co f i := by
  unfold smul
  by_cases h : i < f.length
  · rw [co_lt (by simpa using h), co_lt h]; simp
  · rw [co_ge (by simp; omega), co_ge (by omega)]; grind
end
section
variable {p : Nat}
theorem smul_length (c : Fin p) (f : List (Fin p)) : (smul c f).length = f.length := by simp [smul]
end
section
variable {p : Nat} [NeZero p]
theorem add_length (f g : List (Fin p)) : (add f g).length = max f.length g.length := mk_length _ _
theorem sub_length (f g : List (Fin p)) : (sub f g).length = max f.length g.length := mk_length _ _
/-- A product of coefficients. -/
def cv (c d : Nat → Fin p) (n : Nat) : Fin p := sm (n + 1) (fun i => c i * d (n - i))
theorem cv_congr {c c' d d' : Nat → Fin p} (h : ∀ i, c i = c' i) (h' : ∀ i, d i = d' i) (n : Nat) : cv c d n = cv c' d' n := sm_congr fun i _ => by rw [h, h']
theorem cv_comm (c d : Nat → Fin p) (n : Nat) : cv c d n = cv d c n := by
  unfold cv
  rw [sm_rev]
  exact sm_congr fun i hi => by rw [show n - (n - i) = i by omega]; grind
theorem cv_add (c d d' : Nat → Fin p) (n : Nat) : cv c (fun i => d i + d' i) n = cv c d n + cv c d' n := by
  unfold cv; rw [← sm_add]; exact sm_congr fun i _ => by grind
theorem cv_add' (c c' d : Nat → Fin p) (n : Nat) : cv (fun i => c i + c' i) d n = cv c d n + cv c' d n := by
  unfold cv; rw [← sm_add]; exact sm_congr fun i _ => by grind
/-- A product. -/
def mul : List (Fin p) → List (Fin p) → List (Fin p)
  | [], _ => []
  | a :: f, g => add (smul a g) (0 :: mul f g)
theorem co_mul (f g : List (Fin p)) (n : Nat) : co (mul f g) n = cv (co f) (co g) n := by
  induction f generalizing n with
  | nil => rw [mul, co_nil]; unfold cv; rw [sm_zero]; intro i _; rw [co_nil]; grind
  | cons a f ih =>
    rw [mul, co_add, co_smul]
    unfold cv
    rw [sm_front, co_cons_zero]
    cases n with
    | zero => rw [co_cons_zero]; show a * co g 0 + 0 = a * co g 0 + 0; rfl
    | succ n =>
      rw [co_cons_succ, ih n]
      unfold cv
      congr 1
      exact sm_congr fun i _ => by rw [co_cons_succ, show n + 1 - (i + 1) = n - i by omega]
/-! ### equations between polynomials -/
theorem Eqv.add {f f' g g' : List (Fin p)} (h : Eqv f f') (h' : Eqv g g') : Eqv (add f g) (add f' g') := fun i => by rw [co_add, co_add, h i, h' i]
theorem Eqv.sub {f f' g g' : List (Fin p)} (h : Eqv f f') (h' : Eqv g g') : Eqv (sub f g) (sub f' g') := fun i => by rw [co_sub, co_sub, h i, h' i]
theorem Eqv.mul {f f' g g' : List (Fin p)} (h : Eqv f f') (h' : Eqv g g') : Eqv (mul f g) (mul f' g') := fun i => by rw [co_mul, co_mul, cv_congr h h']
theorem Eqv.smul {f f' : List (Fin p)} (c : Fin p) (h : Eqv f f') : Eqv (smul c f) (smul c f') := fun i => by rw [co_smul, co_smul, h i]
theorem mul_comm (f g : List (Fin p)) : Eqv (mul f g) (mul g f) := fun i => by rw [co_mul, co_mul, cv_comm]
theorem mul_add (f g k : List (Fin p)) : Eqv (mul f (Fld.add g k)) (Fld.add (mul f g) (mul f k)) := fun i => by
  rw [co_mul, co_add, co_mul, co_mul, cv_congr (fun _ => rfl) (co_add g k), cv_add]
theorem add_mul (f g k : List (Fin p)) : Eqv (mul (Fld.add f g) k) (Fld.add (mul f k) (mul g k)) := fun i => by
  rw [co_mul, co_add, co_mul, co_mul, cv_congr (co_add f g) (fun _ => rfl), cv_add']
theorem mul_sub (f g k : List (Fin p)) : Eqv (mul f (Fld.sub g k)) (Fld.sub (mul f g) (mul f k)) := fun i => by
  have h : Eqv (Fld.add (Fld.sub g k) k) g := fun i => by rw [co_add, co_sub]; grind
  have h1 := (mul_add f (Fld.sub g k) k).symm.trans ((Eqv.refl f).mul h) i
  rw [co_add] at h1
  rw [co_sub, ← h1]; grind
theorem sub_mul (f g k : List (Fin p)) : Eqv (mul (Fld.sub f g) k) (Fld.sub (mul f k) (mul g k)) :=
  (mul_comm _ _).trans ((mul_sub k f g).trans ((mul_comm _ _).sub (mul_comm _ _)))
theorem mul_one (f : List (Fin p)) : Eqv (mul f [1]) f := fun i => by
  rw [co_mul, cv_comm]; unfold cv
  rw [sm_one (k := 0) (by omega)]
  · rw [co_cons_zero]; show 1 * co f i = co f i; grind
  · intro j _ hj
    obtain ⟨m, rfl⟩ : ∃ m, j = m + 1 := ⟨j - 1, by omega⟩
    rw [co_cons_succ, co_nil]; grind

/-! ### degrees of products, roots -/
end
end Go.Proofs.Ytjjnfobeeflnhaa.Fld

/- The program's words over the residues modulo a number: numbers, rows of coefficients, sums, products, values. -/
namespace Go.Proofs.Ytjjnfobeeflnhaa.L
open Go.RowKit Go.Proofs.YtjjnfobeeflnhaaW.PrintWords Go.Proofs.Ytjjnfobeeflnhaa.J
set_option linter.unusedVariables false
set_option linter.unusedSimpArgs false

section
variable {q : Nat} [NeZero q]
/-- The number that a residue is. -/
def nI (a : Fin q) : Int := (a.val : Int)
/-- A row of residues as numbers. -/
def oI (f : List (Fin q)) : List Int := f.map nI

theorem q_pos : 0 < q := Nat.pos_of_ne_zero (NeZero.ne q)
end
section
variable {q : Nat}
theorem nI_range (a : Fin q) : 0 ≤ nI a ∧ nI a < (q : Int) := by
  have := a.isLt
  unfold nI; omega
theorem nI_inj {a b : Fin q} (h : nI a = nI b) : a = b := Fin.ext (by unfold nI at h; omega)
end
section
variable {q : Nat} [NeZero q]
theorem nI_zero : nI (0 : Fin q) = 0 := by simp [nI]
theorem nI_eq_zero {a : Fin q} : nI a = 0 ↔ a = 0 := ⟨fun h => nI_inj (h.trans nI_zero.symm), fun h => by rw [h, nI_zero]⟩
theorem nI_one (h : 1 < q) : nI (1 : Fin q) = 1 := by
  have : ((1 : Fin q) : Nat) = 1 % q := rfl
  unfold nI; rw [this, Nat.mod_eq_of_lt h]; rfl
end
section
variable {q : Nat}
theorem nI_of {x : Int} (h0 : 0 ≤ x) (h1 : x < (q : Int)) : ∃ a : Fin q, nI a = x := ⟨⟨x.toNat, by omega⟩, by show ((x.toNat : Nat) : Int) = x; omega⟩
theorem nI_mul (a b : Fin q) : nI (a * b) = nI a * nI b % (q : Int) := by
  unfold nI; rw [Fin.val_mul]; simp
theorem nI_add (a b : Fin q) : nI (a + b) = (nI a + nI b) % (q : Int) := by
  unfold nI; rw [Fin.val_add]; simp
theorem nI_sub (a b : Fin q) : nI (a - b) = (nI a + (q : Int) - nI b) % (q : Int) := by
  have hb := b.isLt
  have e : (a - b).val = (q - b.val + a.val) % q := by rw [Fin.sub_def]
  unfold nI; rw [e]
  have : (a.val : Int) + (q : Int) - (b.val : Int) = ((q - b.val + a.val : Nat) : Int) := by omega
  rw [this]; simp

theorem oI_nil : oI ([] : List (Fin q)) = [] := rfl
theorem oI_cons (a : Fin q) (f : List (Fin q)) : oI (a :: f) = nI a :: oI f := rfl
theorem oI_length (f : List (Fin q)) : (oI f).length = f.length := by simp [oI]
theorem oI_of : ∀ {l : List Int}, (∀ c ∈ l, 0 ≤ c ∧ c < (q : Int)) → ∃ f : List (Fin q), oI f = l
  | [], _ => ⟨[], rfl⟩
  | a :: l, h => by
    obtain ⟨x, hx⟩ := nI_of (h a (by simp)).1 (h a (by simp)).2
    obtain ⟨f, hf⟩ := oI_of (l := l) (fun c hc => h c (by simp [hc]))
    exact ⟨x :: f, by rw [oI_cons, hx, hf]⟩
theorem oI_inj : ∀ {f g : List (Fin q)}, oI f = oI g → f = g
  | [], [], _ => rfl
  | [], _ :: _, h => by cases h
  | _ :: _, [], h => by cases h
  | a :: f, b :: g, h => by
    rw [oI_cons, oI_cons] at h
    injection h with h1 h2
    rw [nI_inj h1, oI_inj h2]
end
section
variable {q : Nat} [NeZero q]
theorem oI_getD (f : List (Fin q)) (i : Nat) : (oI f).getD i 0 = nI (Fld.co f i) := by
  by_cases h : i < f.length
  · rw [Fld.co_lt h]; simp [oI, List.getD_eq_getElem?_getD, h]
  · rw [Fld.co_ge (by omega), nI_zero]; simp [oI, List.getD_eq_getElem?_getD, List.getElem?_eq_none (show f.length ≤ i by omega)]
theorem rd_oI (f : List (Fin q)) (i : Nat) : rd (oI f) (i : Int) = nI (Fld.co f i) := by
  rw [← oI_getD]; simp [rd]
end
section
variable {q : Nat}
theorem oI_set (f : List (Fin q)) (i : Nat) (a : Fin q) : (oI f).set i (nI a) = oI (f.set i a) := by simp [oI, List.map_set]
end
section
variable {q : Nat} [NeZero q]
theorem oI_zeros (n : Nat) : List.replicate n (0 : Int) = oI (List.replicate n (0 : Fin q)) := by simp [oI, nI_zero]
theorem short_oI (f : List (Fin q)) : shortI (oI f) = oI (Fld.trim f) := by
  induction f with
  | nil => rfl
  | cons a f ih =>
    have e : shortI (oI (a :: f)) = if shortI (oI f) = [] ∧ nI a = 0 then [] else nI a :: shortI (oI f) := rfl
    rw [e, ih, Fld.trim_cons]
    by_cases h : Fld.trim f = [] ∧ a = 0
    · rw [if_pos h, if_pos (by rw [h.1, h.2]; exact ⟨rfl, nI_zero⟩)]; rfl
    · rw [if_neg h, if_neg (fun h' => h ⟨oI_inj (h'.1.trans oI_nil.symm), nI_eq_zero.1 h'.2⟩)]; rfl

theorem co_set (f : List (Fin q)) (i : Nat) (a : Fin q) (hi : i < f.length) (s : Nat) : Fld.co (f.set i a) s = if s = i then a else Fld.co f s := by
  unfold Fld.co
  rw [List.getD_eq_getElem?_getD, List.getD_eq_getElem?_getD]
  by_cases h : s = i
  · subst h; rw [if_pos rfl, List.getElem?_set_self hi]; rfl
  · rw [if_neg h, List.getElem?_set_ne (by omega)]
/-! what the field's words tell -/
section
variable (hq : q ≤ 65537)
include hq
theorem times_fp (a b : Fin q) : field_Times.f (q : Int) (nI a) (nI b) = some (nI (a * b)) := by
  have hp := q_pos (q := q)
  rw [times_at (by omega) (by omega) (nI_range a).1 (nI_range a).2 (nI_range b).1 (nI_range b).2, nI_mul]
theorem mul_fp (a b : Fin q) : juntoref01_Mul.f (q : Int) (nI a) (nI b) = some (nI (a * b)) := by
  have hp := q_pos (q := q)
  rw [ref_mul (by omega) (by omega) (nI_range a).1 (nI_range a).2 (nI_range b).1 (nI_range b).2, nI_mul]
theorem plus_fp (a b : Fin q) : field_Plus.f (q : Int) (nI a) (nI b) = some (nI (a + b)) := by
  have hp := q_pos (q := q)
  rw [plus_at (by omega) (by omega) (nI_range a).1 (nI_range a).2 (nI_range b).1 (nI_range b).2, nI_add]
theorem add_fp (a b : Fin q) : juntoref01_Add.f (q : Int) (nI a) (nI b) = some (nI (a + b)) := by
  have hp := q_pos (q := q)
  rw [ref_add (by omega) (by omega) (nI_range a).1 (nI_range a).2 (nI_range b).1 (nI_range b).2, nI_add]
theorem minus_fp (a b : Fin q) : field_Minus.f (q : Int) (nI a) (nI b) = some (nI (a - b)) := by
  have hp := q_pos (q := q)
  have ha := nI_range a
  have hb := nI_range b
  unfold field_Minus.f
  rw [if_neg (by omega), u64_small (by omega) (by omega), Int.tmod_eq_emod_of_nonneg (by omega)]
  have e : ((q : Int) - nI b) % (q : Int) = nI (0 - b) := by rw [nI_sub, nI_zero, Int.zero_add]
  rw [e, plus_fp hq, Option.bind_some]
  congr 2
  grind
end

/-! rows -/
theorem short_fp (f : List (Fin q)) (hl : f.length ≤ 1000000000) : Ev (fun k => poly_Short.f k (oI f)) (oI (Fld.trim f)) := by
  rw [← short_oI]
  exact ⟨f.length + 1, fun k hk => short_spec (oI f) (by rw [oI_length]; omega) k (by rw [oI_length]; omega)⟩
theorem zip_fp (D : Int → Int → Int) (O : Fin q → Fin q → Fin q) (h : ∀ a b : Fin q, D (nI a) (nI b) = nI (O a b)) (f g : List (Fin q)) : zipI D (oI f) (oI g) = oI (Fld.trim (Fld.mk (max f.length g.length) (fun i => O (Fld.co f i) (Fld.co g i)))) := by
  unfold zipI
  rw [← short_oI, oI_length, oI_length]
  unfold Fld.mk oI
  rw [List.map_map]
  congr 1
  apply List.map_congr_left
  intro i _
  show D ((oI f).getD i 0) ((oI g).getD i 0) = nI (O (Fld.co f i) (Fld.co g i))
  rw [oI_getD, oI_getD, h]
theorem plusI_fp (hq : q ≤ 65537) (f g : List (Fin q)) : plusI (q : Int) (oI f) (oI g) = oI (Fld.trim (Fld.add f g)) :=
  zip_fp _ (· + ·) (fun a b => by rw [plus_fp hq]; rfl) f g
theorem plus_rows (hq : q ≤ 65537) (f g : List (Fin q)) (hf : f.length ≤ 1000000000) (hg : g.length ≤ 1000000000) : Ev (fun k => poly_Plus.f k (q : Int) (oI f) (oI g)) (oI (Fld.trim (Fld.add f g))) := by
  rw [← plusI_fp hq]
  exact ⟨2 * max f.length g.length + 2, fun k hk => plusI_spec (q : Int) (oI f) (oI g) (by rw [oI_length, oI_length]; omega) k (by rw [oI_length, oI_length]; omega)⟩

/-- A row that is filled from the front on. -/
def fill (n j : Nat) (F : Nat → Fin q) : List (Fin q) := Fld.mk n (fun i => if i < j then F i else 0)
theorem fill_zero (n : Nat) (F : Nat → Fin q) : fill n 0 F = List.replicate n 0 := by
  apply List.ext_getElem (by simp [fill, Fld.mk])
  intro i h1 h2
  simp [fill, Fld.mk]
theorem fill_length (n j : Nat) (F : Nat → Fin q) : (fill n j F).length = n := Fld.mk_length _ _
theorem fill_set (n j : Nat) (F : Nat → Fin q) : (fill n j F).set j (F j) = fill n (j + 1) F := by
  apply List.ext_getElem (by simp [fill, Fld.mk])
  intro i h1 h2
  simp only [fill, Fld.mk, List.getElem_set, List.getElem_map, List.getElem_range]
  by_cases h : j = i
  · rw [if_pos h, if_pos (by omega), h]
  · rw [if_neg h]
    by_cases h' : i < j
    · rw [if_pos h', if_pos (by omega)]
    · rw [if_neg h', if_neg (by omega)]
theorem fill_all (n : Nat) (F : Nat → Fin q) : fill n n F = Fld.mk n F := by
  apply List.ext_getElem (by simp [fill, Fld.mk])
  intro i h1 h2
  have : i < n := by simpa [fill, Fld.mk] using h1
  simp [fill, Fld.mk, this]

theorem by_loop (hq : q ≤ 65537) (f : List (Fin q)) (c : Fin q) (hf : f.length ≤ 1000000000) : ∀ (m i : Nat), i + m = f.length →
    Ev (fun k => poly_By.l0 k (q : Int) (nI c) (oI (fill f.length i fun j => Fld.co f j * c)) (oI f) (f.length : Int) (i : Int)) (oI (Fld.trim (Fld.mk f.length fun j => Fld.co f j * c)))
  | 0, i, hi => by
    obtain rfl : i = f.length := by omega
    refine Ev.step (f := fun k => (poly_Short.f k (oI (Fld.mk f.length fun j => Fld.co f j * c))).bind fun t => some t) (fun k => ?_) (Ev.bind (short_fp _ (by rw [Fld.mk_length]; exact hf)) (Ev.now _))
    simp only [poly_By.l0]
    rw [if_neg (by omega), fill_all]
  | m + 1, i, hi => by
    refine Ev.step (f := fun k => poly_By.l0 k (q : Int) (nI c) (oI (fill f.length (i + 1) fun j => Fld.co f j * c)) (oI f) (f.length : Int) ((i + 1 : Nat) : Int)) (fun k => ?_) (by_loop hq f c hf m (i + 1) (by omega))
    conv => lhs; simp only [poly_By.l0]
    rw [if_pos (by omega), if_pos (by omega), if_pos (by rw [oI_length]; omega), rd_oI, times_fp hq, Option.bind_some, if_pos (by rw [oI_length, fill_length]; omega), Int.toNat_natCast, oI_set, fill_set f.length i (fun j => Fld.co f j * c), w64_small (by omega) (by omega)]
    rfl
theorem by_rows (hq : q ≤ 65537) (f : List (Fin q)) (c : Fin q) (hf : f.length ≤ 1000000000) : Ev (fun k => poly_By.f k (q : Int) (oI f) (nI c)) (oI (Fld.trim (Fld.smul c f))) := by
  have e : Fld.Eqv (Fld.mk f.length fun j => Fld.co f j * c) (Fld.smul c f) := fun i => by
    rw [Fld.co_mk, Fld.co_smul]
    split
    · grind
    · rw [Fld.co_ge (f := f) (by omega)]; grind
  rw [← Fld.trim_congr e]
  have h := by_loop hq f c hf f.length 0 (by omega)
  rw [fill_zero, ← oI_zeros] at h
  refine Ev.congr (fun k => ?_) h
  unfold poly_By.f
  rw [oI_length, if_pos (by omega), if_pos (by omega), Int.toNat_natCast]
  rfl

/-! products -/
/-- What the first i rows of a product come to. -/
def part (f g : List (Fin q)) (i s : Nat) : Fin q := Fld.sm i (fun j => if j ≤ s then Fld.co f j * Fld.co g (s - j) else 0)
/-- The row h stands at factor i, k of a product. -/
def At2 (f g h : List (Fin q)) (i k : Nat) : Prop := ∀ s, Fld.co h s = part f g i s + (if i ≤ s ∧ s < i + k then Fld.co f i * Fld.co g (s - i) else 0)
theorem At2.next {f g h : List (Fin q)} {i k : Nat} (H : At2 f g h i k) (hk : i + k < h.length) : At2 f g (h.set (i + k) (Fld.co h (i + k) + Fld.co f i * Fld.co g k)) i (k + 1) := fun s => by
  rw [co_set _ _ _ hk]
  by_cases e : s = i + k
  · subst e
    rw [if_pos rfl, H (i + k), if_neg (by omega), if_pos (by omega), show i + k - i = k by omega]; grind
  · rw [if_neg e, H s]
    by_cases e' : i ≤ s ∧ s < i + k
    · rw [if_pos e', if_pos (by omega)]
    · rw [if_neg e', if_neg (by omega)]
theorem At2.round {f g h : List (Fin q)} {i k : Nat} (H : At2 f g h i k) (hk : g.length ≤ k) : At2 f g h (i + 1) 0 := fun s => by
  rw [H s, if_neg (by omega : ¬ (i + 1 ≤ s ∧ s < i + 1 + 0))]
  have e : part f g (i + 1) s = part f g i s + (if i ≤ s then Fld.co f i * Fld.co g (s - i) else 0) := rfl
  rw [e]
  by_cases h1 : i ≤ s
  · by_cases h2 : s < i + k
    · rw [if_pos ⟨h1, h2⟩, if_pos h1]; grind
    · rw [if_neg (by omega), if_pos h1, Fld.co_ge (f := g) (by omega)]; grind
  · rw [if_neg (by omega), if_neg h1]; grind
/-! inverses -/
end

end Go.Proofs.Ytjjnfobeeflnhaa.L

/- Rows drawn from a tape, rows without noughts at the end, rows compared: what the words tell. -/
namespace Go.Proofs.Ytjjnfobeeflnhaa.L
open Go.RowKit Go.Proofs.YtjjnfobeeflnhaaW.PrintWords Go.Proofs.Ytjjnfobeeflnhaa.J
set_option linter.unusedVariables false
set_option linter.unusedSimpArgs false

/-! rows compared -/
theorem same_loop (a b : List Int) (hl : a.length = b.length) (hs : a.length ≤ maxLen) : ∀ (m i : Nat), i + m = a.length → Ev (fun k => juntoref01_Same.l0 k a b (a.length : Int) (i : Int)) (decide (a.drop i = b.drop i))
  | 0, i, hi => by
    have e : a.drop i = b.drop i := by rw [List.drop_of_length_le (by omega), List.drop_of_length_le (by omega)]
    rw [decide_eq_true e]
    refine Ev.step (f := fun k => some true) (fun k => ?_) (Ev.now _)
    simp only [juntoref01_Same.l0]
    rw [if_neg (by omega)]
  | m + 1, i, hi => by
    have hm : (a.length : Int) ≤ 9223372036854775807 := by simp only [maxLen] at hs; omega
    have h1 : i < a.length := by omega
    have h2 : i < b.length := by omega
    have ra : rd a (i : Int) = a[i] := by simp [rd, List.getD_eq_getElem?_getD, h1]
    have rb : rd b (i : Int) = b[i] := by simp [rd, List.getD_eq_getElem?_getD, h2]
    by_cases e : a[i] = b[i]
    · have e2 : decide (a.drop i = b.drop i) = decide (a.drop (i + 1) = b.drop (i + 1)) := by
        rw [List.drop_eq_getElem_cons h1, List.drop_eq_getElem_cons h2, e]
        exact decide_eq_decide.2 ⟨fun h => (List.cons.inj h).2, fun h => by rw [h]⟩
      rw [e2]
      refine Ev.step (f := fun k => juntoref01_Same.l0 k a b (a.length : Int) ((i + 1 : Nat) : Int)) (fun k => ?_) (same_loop a b hl hs m (i + 1) (by omega))
      conv => lhs; simp only [juntoref01_Same.l0]
      rw [if_pos (by omega), if_pos (by omega), if_pos (by omega), if_pos (by omega), ra, rb, if_pos e, w64_small (by omega) (by omega)]
      rfl
    · have e2 : decide (a.drop i = b.drop i) = false := by
        rw [List.drop_eq_getElem_cons h1, List.drop_eq_getElem_cons h2]
        exact decide_eq_false fun h => e (List.cons.inj h).1
      rw [e2]
      refine Ev.step (f := fun k => some false) (fun k => ?_) (Ev.now _)
      simp only [juntoref01_Same.l0]
      rw [if_pos (by omega), if_pos (by omega), if_pos (by omega), if_pos (by omega), ra, rb, if_neg e]
theorem same_at (a b : List Int) (hs : a.length ≤ maxLen) : Ev (fun k => juntoref01_Same.f k a b) (decide (a = b)) := by
  unfold juntoref01_Same.f
  by_cases h : a.length = b.length
  · have := same_loop a b h hs a.length 0 (by omega)
    rw [List.drop_zero, List.drop_zero] at this
    exact Ev.congr (fun k => if_pos (by omega)) this
  · rw [decide_eq_false (fun e => h (by rw [e]))]
    exact Ev.congr (fun k => if_neg (by omega)) (Ev.now _)
theorem same_self (a : List Int) (hs : a.length ≤ maxLen) : Ev (fun k => juntoref01_Same.f k a a) true := by
  have := same_at a a hs
  rwa [decide_eq_true rfl] at this

/-! rows without noughts at the end -/
theorem trim_loop (l : List Int) (hl : l.length < 17592186044416) : ∀ (n : Nat), n ≤ l.length → Ev (fun k => juntoref02_Trim.l0 k l (n : Int)) (shortI (l.take n))
  | 0, _ => by
    refine Ev.step (f := fun k => some []) (fun k => ?_) (Ev.now _)
    simp only [juntoref02_Trim.l0]
    rw [if_neg (by omega)]
    simp
  | n + 1, hn => by
    have hw : wrap64 (((n + 1 : Nat) : Int) - 1) = (n : Int) := by unfold wrap64; omega
    have hr : rd l (n : Int) = l[n] := by simp [rd, List.getD_eq_getElem?_getD, show n < l.length by omega]
    rw [List.take_succ_eq_append_getElem (by omega), shortI_snoc]
    by_cases hz : l[n] = 0
    · rw [if_pos hz]
      refine Ev.step (f := fun k => juntoref02_Trim.l0 k l (n : Int)) (fun k => ?_) (trim_loop l hl n (by omega))
      conv => lhs; simp only [juntoref02_Trim.l0]
      rw [hw, if_pos (by omega), if_pos (by omega), if_pos (by omega), hr, if_pos hz]
    · rw [if_neg hz]
      refine Ev.step (f := fun k => some (l.take n ++ [l[n]])) (fun k => ?_) (Ev.now _)
      conv => lhs; simp only [juntoref02_Trim.l0]
      rw [hw, if_pos (by omega), if_pos (by omega), if_pos (by omega), hr, if_neg hz, Option.bind_some, if_pos (by omega), if_pos (by omega)]
      rw [show (((n + 1 : Nat) : Int)).toNat = n + 1 by omega, List.take_succ_eq_append_getElem (by omega)]
      rw [if_pos (by simp; omega)]; rfl
theorem trim_at (l : List Int) (hl : l.length < 17592186044416) : Ev (fun k => juntoref02_Trim.f k l) (shortI l) := by
  have := trim_loop l hl l.length (Nat.le_refl _)
  rw [List.take_length] at this
  exact this
section
variable {q : Nat} [NeZero q]
theorem trim_fp (f : List (Fin q)) (hl : f.length ≤ 1000000000) : Ev (fun k => juntoref02_Trim.f k (oI f)) (oI (Fld.trim f)) := by
  rw [← short_oI]
  exact trim_at _ (by rw [oI_length]; omega)

/-! rows drawn from a tape -/
/-- The residue of a number. -/
def resid (q : Nat) [NeZero q] (x : Int) : Fin q := Fin.ofNat q (x % (q : Int)).toNat
/-- The first n numbers of a tape. -/
def drawn (q : Nat) [NeZero q] (tape : List Int) (n : Nat) : List (Fin q) := Fld.mk n (fun i => resid q (tape.getD i 0))
end

end Go.Proofs.Ytjjnfobeeflnhaa.L

/- The reference's words over the residues modulo a prime: sums, differences, products, inverses. -/
namespace Go.Proofs.Ytjjnfobeeflnhaa.L
open Go.RowKit Go.Proofs.YtjjnfobeeflnhaaW.PrintWords Go.Proofs.Ytjjnfobeeflnhaa.J
set_option linter.unusedVariables false
set_option linter.unusedSimpArgs false

section
variable {q : Nat} [NeZero q]
theorem cof_fp (f : List (Fin q)) (i : Nat) : juntoref02_at.f (oI f) (i : Int) = some (nI (Fld.co f i)) := by
  unfold juntoref02_at.f
  rw [oI_length]
  by_cases h : i < f.length
  · rw [if_pos (by omega), if_pos (by omega), rd_oI]
  · rw [if_neg (by omega), Fld.co_ge (by omega), nI_zero]
theorem add_loop (hq : q ≤ 65537) (f g : List (Fin q)) (n : Nat) (hn : n ≤ 1000000000) : ∀ (m i : Nat), i + m = n →
    Ev (fun k => juntoref02_Add.l0 k (q : Int) (oI f) (oI g) (oI (fill n i fun j => Fld.co f j + Fld.co g j)) (n : Int) (i : Int)) (oI (Fld.trim (Fld.mk n fun j => Fld.co f j + Fld.co g j)))
  | 0, i, hi => by
    obtain rfl : i = n := by omega
    refine Ev.step (f := fun k => (juntoref02_Trim.f k (oI (Fld.mk i fun j => Fld.co f j + Fld.co g j))).bind fun t => some t) (fun k => ?_) (Ev.bind (trim_fp _ (by rw [Fld.mk_length]; exact hn)) (Ev.now _))
    simp only [juntoref02_Add.l0]
    rw [if_neg (by omega), fill_all]
  | m + 1, i, hi => by
    refine Ev.step (f := fun k => juntoref02_Add.l0 k (q : Int) (oI f) (oI g) (oI (fill n (i + 1) fun j => Fld.co f j + Fld.co g j)) (n : Int) ((i + 1 : Nat) : Int)) (fun k => ?_) (add_loop hq f g n hn m (i + 1) (by omega))
    conv => lhs; simp only [juntoref02_Add.l0]
    rw [if_pos (by omega), cof_fp, Option.bind_some, cof_fp, Option.bind_some, add_fp hq, Option.bind_some, if_pos (by omega), if_pos (by rw [oI_length, fill_length]; omega), Int.toNat_natCast, oI_set, fill_set n i (fun j => Fld.co f j + Fld.co g j), w64_small (by omega) (by omega)]
    rfl
theorem add_rows (hq : q ≤ 65537) (f g : List (Fin q)) (hf : f.length ≤ 1000000000) (hg : g.length ≤ 1000000000) : Ev (fun k => juntoref02_Add.f k (q : Int) (oI f) (oI g)) (oI (Fld.trim (Fld.add f g))) := by
  have h := add_loop hq f g (max f.length g.length) (by omega) (max f.length g.length) 0 (by omega)
  rw [fill_zero, ← oI_zeros] at h
  refine Ev.congr (fun k => ?_) h
  have e : mx ((oI f).length : Int) ((oI g).length : Int) = ((max f.length g.length : Nat) : Int) := by
    rw [oI_length, oI_length]; unfold mx; split <;> omega
  unfold juntoref02_Add.f
  rw [e, if_pos (by omega), Int.toNat_natCast, if_pos (by omega), Option.bind_some]
  simp
theorem scale_loop (hq : q ≤ 65537) (f : List (Fin q)) (c : Fin q) (hf : f.length ≤ 1000000000) : ∀ (m i : Nat), i + m = f.length →
    Ev (fun k => juntoref02_Scale.l0 k (q : Int) (oI f) (nI c) (oI (fill f.length i fun j => Fld.co f j * c)) (f.length : Int) (i : Int)) (oI (Fld.trim (Fld.mk f.length fun j => Fld.co f j * c)))
  | 0, i, hi => by
    obtain rfl : i = f.length := by omega
    refine Ev.step (f := fun k => (juntoref02_Trim.f k (oI (Fld.mk f.length fun j => Fld.co f j * c))).bind fun t => some t) (fun k => ?_) (Ev.bind (trim_fp _ (by rw [Fld.mk_length]; exact hf)) (Ev.now _))
    simp only [juntoref02_Scale.l0]
    rw [if_neg (by omega), fill_all]
  | m + 1, i, hi => by
    refine Ev.step (f := fun k => juntoref02_Scale.l0 k (q : Int) (oI f) (nI c) (oI (fill f.length (i + 1) fun j => Fld.co f j * c)) (f.length : Int) ((i + 1 : Nat) : Int)) (fun k => ?_) (scale_loop hq f c hf m (i + 1) (by omega))
    conv => lhs; simp only [juntoref02_Scale.l0]
    rw [if_pos (by omega), if_pos (by omega), if_pos (by rw [oI_length]; omega), rd_oI, mul_fp hq, Option.bind_some, if_pos (by rw [oI_length, fill_length]; omega), Int.toNat_natCast, oI_set, fill_set f.length i (fun j => Fld.co f j * c), w64_small (by omega) (by omega)]
    rfl
theorem scale_rows (hq : q ≤ 65537) (f : List (Fin q)) (c : Fin q) (hf : f.length ≤ 1000000000) : Ev (fun k => juntoref02_Scale.f k (q : Int) (oI f) (nI c)) (oI (Fld.trim (Fld.smul c f))) := by
  have e : Fld.Eqv (Fld.mk f.length fun j => Fld.co f j * c) (Fld.smul c f) := fun i => by
    rw [Fld.co_mk, Fld.co_smul]
    split
    · grind
    · rw [Fld.co_ge (f := f) (by omega)]; grind
  rw [← Fld.trim_congr e]
  have h := scale_loop hq f c hf f.length 0 (by omega)
  rw [fill_zero, ← oI_zeros] at h
  refine Ev.congr (fun k => ?_) h
  unfold juntoref02_Scale.f
  rw [oI_length, if_pos (by omega), if_pos (by omega), Int.toNat_natCast]
  rfl
theorem minus_one (h1 : 1 < q) (hq : q ≤ 65537) : IntKind.u64.wrap ((q : Int) - 1) = nI (0 - 1 : Fin q) := by
  rw [u64_small (by omega) (by omega), nI_sub, nI_zero, nI_one h1, Int.zero_add, Int.emod_eq_of_lt (by omega) (by omega)]
theorem sub_rows (h1 : 1 < q) (hq : q ≤ 65537) (f g : List (Fin q)) (hf : f.length ≤ 1000000000) (hg : g.length ≤ 1000000000) : Ev (fun k => juntoref02_Sub.f k (q : Int) (oI f) (oI g)) (oI (Fld.trim (Fld.sub f g))) := by
  have e : Fld.Eqv (Fld.add f (Fld.trim (Fld.smul (0 - 1) g))) (Fld.sub f g) := fun i => by
    rw [Fld.co_add, Fld.co_sub, Fld.trim_co _ i, Fld.co_smul]; grind
  rw [← Fld.trim_congr e]
  unfold juntoref02_Sub.f
  rw [minus_one h1 hq]
  refine Ev.bind (scale_rows hq g (0 - 1) hg) (Ev.bind (add_rows hq f _ hf ?_) (Ev.now _))
  have := Fld.trim_length_le (Fld.smul (0 - 1) g)
  rw [Fld.smul_length] at this
  omega
end

/-! parties as numbers -/
/-! tests of rows of coefficients -/
/-- What both tests of a row answer: 0, 2 or 3. -/
def withinV (p : Int) (l : List Int) : Int := if (l.length : Int) > 201 then 3 else belowV p l
theorem ref_rowok (p : Int) (l : List Int) (hl : l.length ≤ maxLen) : Ev (fun k => juntoref02_Within.f k p l) (withinV p l) := by
  unfold juntoref02_Within.f withinV
  by_cases h : (l.length : Int) > 201
  · simp only [h, if_true]; exact Ev.now _
  · simp only [h, if_false]
    exact Ev.bind (ref_within p l hl) (Ev.now _)
def isV (p : Int) : List (List Int) → Int
  | [] => 0
  | f :: fs => if withinV p f = 0 then isV p fs else withinV p f
theorem is_loop (p : Int) (l : List (List Int)) (hn : l.length ≤ 1000000) (hl : ∀ f ∈ l, f.length ≤ maxLen) : ∀ (m i : Nat), i + m = l.length → Ev (fun k => poly_Is.l0 k p l (l.length : Int) (i : Int)) (isV p (l.drop i))
  | 0, i, hi => by
    rw [List.drop_of_length_le (by omega), isV]
    refine Ev.step (f := fun k => some 0) (fun k => ?_) (Ev.now _)
    simp only [poly_Is.l0]
    rw [if_neg (by omega)]
  | m + 1, i, hi => by
    have hlt : i < l.length := by omega
    have hr : rd_L3 l (i : Int) = l[i] := by simp [rd_L3, List.getD_eq_getElem?_getD, hlt]
    rw [List.drop_eq_getElem_cons hlt, isV]
    by_cases h3 : ((l[i]).length : Int) > 201
    · have e : withinV p l[i] = 3 := by unfold withinV; rw [if_pos h3]
      rw [e, if_neg (by decide)]
      refine Ev.step (f := fun k => some 3) (fun k => ?_) (Ev.now _)
      simp only [poly_Is.l0]
      rw [if_pos (by omega), if_pos (by omega), if_pos (by omega), hr, if_pos h3]
    · have e : withinV p l[i] = belowV p l[i] := by unfold withinV; rw [if_neg h3]
      rw [e]
      refine Ev.step (f := fun k => (field_Below.f k p l[i]).bind fun t => if t = 0 then poly_Is.l0 k p l (l.length : Int) ((i + 1 : Nat) : Int) else some t) (fun k => ?_) (Ev.bind (field_below p _ (hl _ (List.getElem_mem hlt))) ?_)
      · conv => lhs; simp only [poly_Is.l0]
        rw [if_pos (by omega), if_pos (by omega), if_pos (by omega), hr, if_neg h3, w64_small (by omega) (by omega)]
        rfl
      · by_cases h0 : belowV p l[i] = 0
        · simp only [h0, if_true]
          exact is_loop p l hn hl m (i + 1) (by omega)
        · simp only [h0, if_false]
          exact Ev.now _
theorem poly_is (p : Int) (l : List (List Int)) (hn : l.length ≤ 1000000) (hl : ∀ f ∈ l, f.length ≤ maxLen) (hp : isP p = true) : Ev (fun k => poly_Is.f k p l) (isV p l) := by
  unfold poly_Is.f
  refine Ev.bind (field_is p) ?_
  simp only [hp, if_true]
  have h := is_loop p l hn hl l.length 0 (by omega)
  rw [List.drop_zero] at h
  exact h

end Go.Proofs.Ytjjnfobeeflnhaa.L

/- Small facts about numbers that came in, setups and rows. -/
namespace Go.Proofs.Ytjjnfobeeflnhaa.L
open Go.RowKit Go.Proofs.YtjjnfobeeflnhaaW.PrintWords Go.Proofs.Ytjjnfobeeflnhaa.J

theorem u64_wf {n : Int} (h : (Lit.int .u64 n).wf = true) : 0 ≤ n ∧ n < 18446744073709551616 := by
  simp [Lit.wf, IntKind.min, IntKind.max, IntKind.signed, IntKind.bits] at h
  omega

theorem belowV_zero {p : Int} {l : List Int} (h : belowV p l = 0) : ∀ x ∈ l, x < p := by
  unfold belowV at h
  split at h
  · assumption
  · cases h

end Go.Proofs.Ytjjnfobeeflnhaa.L

/- Both ways to share a polynomial answer alike, and what they answer. -/
namespace Go.Proofs.Ytjjnfobeeflnhaa.L
open Go.RowKit Go.Proofs.YtjjnfobeeflnhaaW.PrintWords Go.Proofs.Ytjjnfobeeflnhaa.J
set_option linter.unusedVariables false
set_option linter.unusedSimpArgs false

theorem isV_one (p : Int) (l : List Int) : isV p [l] = withinV p l := by
  rw [isV, isV]; split
  · rename_i h; exact h.symm
  · rfl
theorem withinV_zero {p : Int} {l : List Int} (h : withinV p l = 0) : l.length ≤ 201 ∧ ∀ x ∈ l, x < p := by
  unfold withinV at h
  split at h
  · cases h
  · exact ⟨by omega, belowV_zero h⟩
theorem withinV_ne (p : Int) (l : List Int) (h : l.length ≤ 201) : withinV p l = belowV p l := by
  unfold withinV
  rw [if_neg (by omega)]
section
variable {q : Nat}
theorem rows_of {l : List Int} (h : withinV (q : Int) l = 0) (hu : ∀ c ∈ l, 0 ≤ c) : ∃ f : List (Fin q), oI f = l ∧ f.length ≤ 201 := by
  obtain ⟨h1, h2⟩ := withinV_zero h
  obtain ⟨f, hf⟩ := oI_of (q := q) (fun c hc => ⟨hu c hc, h2 c hc⟩)
  exact ⟨f, hf, by rw [← hf, oI_length] at h1; exact h1⟩
end
end Go.Proofs.Ytjjnfobeeflnhaa.L

/- Both ways to divide with rest answer alike, and what they answer. -/
namespace Go.Proofs.Ytjjnfobeeflnhaa.L
open Go.RowKit Go.Proofs.YtjjnfobeeflnhaaW.PrintWords Go.Proofs.Ytjjnfobeeflnhaa.J
set_option linter.unusedVariables false
set_option linter.unusedSimpArgs false

theorem pr_of_isP {q : Nat} (h : isP (q : Int) = true) : Fld.Pr q := by
  obtain ⟨h1, h2, h3⟩ := (isP_iff _).1 h
  refine Fld.pr_of_trial (by omega) fun d hd hdd h0 => h3 (d : Int) (by omega) (by exact_mod_cast hdd) (by exact_mod_cast h0)

section
variable {q : Nat} [NeZero q]
/-! the program's -/
/-! the reference's -/
end

end Go.Proofs.Ytjjnfobeeflnhaa.L

/- What Go functions of the program compute, as plain Lean functions, and that the machine comes to just these answers (written by a program for this seat). -/
namespace Go.Proofs.Ytjjnfobeeflnhaa.J
open Go.RowKit Go.Proofs.YtjjnfobeeflnhaaW.PrintWords Go.Proofs.YtjjnfobeeflnhaaW.PrintLast Go.Proofs.YtjjnfobeeflnhaaW.PrintMore
attribute [local go_sem] max2_int min2_int max_two min_two max_three min_three max_four min_four   -- for this text's walks alone
set_option linter.unusedVariables false
set_option linter.unusedSimpArgs false

-- NOT PRINTED: function 169 (slices_Compact_uint64_uint64)

end Go.Proofs.Ytjjnfobeeflnhaa.J
