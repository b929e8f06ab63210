/- Part 3 of the proof of ShareBack: what the functions compute as plain Lean functions, that the machine comes to just these answers, and that the answer is true; no conditions. -/
import Derived.Test.YtjjnfobeeflnhaaShareBackZ0
import Derived.Test.YtjjnfobeeflnhaaShareBackZ1
import Derived.Test.YtjjnfobeeflnhaaShareBackZ2
import Derived.RangeFuncBox
import Derived.RangeFuncLeaves
import Derived.RangeFuncCalls
import Derived.RangeFuncWrites
import Derived.Shelf.Abstract
import Derived.OwnWalkIn
import Derived.TacticsInMore
import Derived.LoopNIn
import Derived.LoopIn
import Derived.Deep.Slices
import Derived.ChangeArms
import Derived.DataReads
import Derived.SizedLaws
import Derived.WideShapes
import Derived.OpenShut
import Derived.Test.YtjjnfobeeflnhaaRows
import Derived.JoinedOf
import Derived.KernelRfl
set_option linter.unusedSimpArgs false
set_option linter.unusedVariables false
set_option maxHeartbeats 8000000
set_option maxRecDepth 100000
namespace Go.Proofs.Ytjjnfobeeflnhaa.J
open Go.RowKit Go.Proofs.YtjjnfobeeflnhaaW.PrintWords Go.Proofs.YtjjnfobeeflnhaaW.PrintLast Go.Proofs.YtjjnfobeeflnhaaW.PrintMore
attribute [local go_sem] max2_int min2_int max_two min_two max_three min_three max_four min_four
def qqb.l0 : Nat → List (List Int) → Int → Int → Int → Int → Int → Option (Int)
 | 0, _, _, _, _, _, _ => none
 | k + 1, x7, x8, x9, x819000, x819001, x819002 => if x9 < x8 then (if 0 ≤ x9 then (if x9 < (x7.length : Int) then (if ((rd_L3 x7 x9).length : Int) = x819001 then ((qcb.f k x819000 (rd_L3 x7 x9)).bind fun t820 => (if t820 = 0 then (qqb.l0 k x7 x8 (wrap64 (x9 + 1)) x819000 x819001 x819002) else (some 2))) else (some 2)) else (none)) else (none)) else (some 0)
def qqb.f (k : Nat) (a0_0 : Int) (a0_1 : Int) (a0_2 : Int) (l1 : List (List Int)) : Option (Int) := qqb.l0 k l1 (l1.length : Int) 0 a0_0 a0_1 a0_2
theorem qqb.calls (k : Nat) (a0_0 : Int) (a0_1 : Int) (a0_2 : Int) (A1 : Option Addr) (c1 : Nat) (l1 : List (List Int)) (r : Int) (w : World) (hr1 : Kd.C (Kd.slice 22 (Kd.int .u64)) w A1 l1.length l1) (hc1 : l1.length ≤ c1) (h : qqb.f k a0_0 a0_1 a0_2 l1 = some r) :
  Calls Try.prog 146 #[.agg #[.int .u64 a0_0, .int .i64 a0_1, .int .i64 a0_2], .slice A1 l1.length c1] w fun e w' => e = .returned (.int .i64 r) ∧ Below w.heap.size w w' := by
 have hu24 := Try.underlying24
 have HR1 := Aside0.mk hr1
 have HC1 := Aside0.mk hc1
 clear hr1 hc1
 have HB := Aside0.mk (Below.refl w.heap.size w)
 have H : (qqb.l0 k l1 (l1.length : Int) 0 a0_0 a0_1 a0_2) = some r := h
 clear h
 have H' := Aside0.mk H
 clear H
 go_enter Try.func146, Try.ntmps146
 go_wp2_with (first | ((with_reducible refine gate_dst (N := 2) rfl ?_); refine box_event ?hg (N := 2) ?hd (cs := #[.int .u64 a0_0, .int .i64 a0_1, .int .i64 a0_2]) (t := 24) ?hr ?_; (case hd => rfl); (case hg => rfl); (case hr => first | (go_simp; done) | (go_simp; rfl)); intro gb818 hg w3 hbox hb; have n0_ := Aside0.mk (qma (by with_reducible repeat first | exact HB.out | apply qda | apply qba | apply qca) hb); have n1_ := Aside0.mk (hbox); have n2_ := Aside0.mk ((by rw [hg]; exact (qla (by with_reducible repeat first | exact HB.out | apply qda | apply qba | apply qca)) : w.heap.size ≤ gb818)); have n3_ := Aside0.mk ((by rw [hg]; exact (qla (by with_reducible repeat first | exact HB.out | apply qda | apply qba | apply qca)) : w.heap.size ≤ gb818)); clear HB; have HB := n0_; have BK818 := n1_; have GW818 := n2_; have GE818 := n3_; clear n0_ n1_ n2_ n3_; clear hb hbox hg))
 go_loopg [9] k (fun kq v9 w' => ∃ (x9_1 : Int), v9 = .int .i64 x9_1 ∧ Aside0 (qqb.l0 kq l1 (l1.length : Int) x9_1 a0_0 a0_1 a0_2 = some r) ∧ Aside0 (kq ≤ k) ∧ Aside0 (w'.heap[gb818]? = some (.cells #[.int .u64 a0_0, .int .i64 a0_1, .int .i64 a0_2] 24 (0, 0))) ∧ Aside0 (Below w.heap.size w w'))
 case atStart => exact ⟨(0), (by first | rfl | (simp; done) | (simp [*]; done)), H', ⟨Nat.le_refl _⟩, ⟨by (with_reducible repeat first | refine qfa ?_ _ | refine qia ?_ | refine qea ?_ _); exact BK818.out⟩, ⟨by repeat (first | (with_reducible first | exact HB.out | apply qda | apply qba | apply qca | refine qga ?_ GE818.out) | exact HB.out)⟩⟩
 case round =>
  clear H'; (try clear c1); (try clear p2)
  obtain ⟨x9_1, rfl, HA, HK1, BK818, HB⟩ := hrel
  cases gk with
  | zero => exact absurd HA.out (by simp [qqb.l0])
  | succ k1 =>
   have H := HA.out
   clear HA
   simp only [qqb.l0] at H
   by_cases c4 : x9_1 < (l1.length : Int)
   ·rw [if_pos c4] at H
    have c4b0 : decide (x9_1 < (l1.length : Int)) = true := decide_eq_true c4
    clear c4
    by_cases c5 : 0 ≤ x9_1
    ·rw [if_pos c5] at H
     have c5b0 : decide (0 ≤ x9_1) = true := decide_eq_true c5
     clear c5
     by_cases c6 : x9_1 < (l1.length : Int)
     ·rw [if_pos c6] at H
      have c6b0 : decide (x9_1 < (l1.length : Int)) = true := decide_eq_true c6
      clear c6
      by_cases c7 : ((rd_L3 l1 x9_1).length : Int) = a0_1
      ·rw [if_pos c7] at H
       have c7b0 : (((rd_L3 l1 x9_1).length : Int) == a0_1) = true := beq_iff_eq.mpr c7
       have c7b1 : (((rd_L3 l1 x9_1).length : Int) != a0_1) = false := bne_eq_false_iff_eq.mpr c7
       clear c7
       replace H := Option.bind_eq_some_iff.mp H
       obtain ⟨t820, A80, H⟩ := H
       try dsimp only at H
       have A8 := Aside0.mk A80
       clear A80
       by_cases c9 : t820 = 0
       ·rw [if_pos c9] at H
        have c9b0 : (t820 == 0) = true := beq_iff_eq.mpr c9
        have c9b1 : (t820 != 0) = false := bne_eq_false_iff_eq.mpr c9
        clear c9
        have H' := Aside0.mk H
        clear H
        have p819 : 0 ≤ (x9_1 : Int) := of_decide_eq_true (by first | (with_reducible assumption) | assumption)
        have q819 : x9_1 < (l1.length : Int) := of_decide_eq_true (by first | (with_reducible assumption) | assumption)
        obtain ⟨ad819, A819_0, c819_0, e819, hx819_0, hl819_0, hi819_0⟩ := at_L3 HR1.out x9_1 p819 q819
        cases e819
        replace hx819_0 := (HB.out.cell (World.block_lt_of_cell? w _ hx819_0)).trans hx819_0
        have HR819_0 := Aside0.mk hi819_0
        have HC819_0 := Aside0.mk hl819_0
        clear hi819_0 hl819_0; replace p819 := eq_true p819; replace q819 := eq_true q819
        have hcz10_0 : wr.cell? ⟨gb818, 0, none⟩ = some (.int .u64 a0_0) := (qja BK818.out 0).trans rfl
        have hcz10_1 : wr.cell? ⟨gb818, 1, none⟩ = some (.int .i64 a0_1) := (qja BK818.out 1).trans rfl
        have hcz10_2 : wr.cell? ⟨gb818, 2, none⟩ = some (.int .i64 a0_2) := (qja BK818.out 2).trans rfl
        have hfz10_0 := qha BK818.out 0
        have hfz10_1 := qha BK818.out 1
        have hfz10_2 := qha BK818.out 2
        go_wp2_with (first | (go_at_call 123; (with_reducible refine (qcb.calls k1 a0_0 _ _ (rd_L3 l1 x9_1) t820 _ ?side1 ?side2 A8.out).mono ?_); (case side1 => repeat (first | exact (Kd.C_below HR819_0.out HB.out) | (with_reducible first | refine Kd.C_alloc ?_ _ | refine Kd.C_drewN ?_ _ | refine Kd.C_drew ?_))); (case side2 => exact HC819_0.out); rintro e w' ⟨rfl, ⟨nd, rfl⟩⟩))
        go_roundg k1
        case measure => have := HK1.out; omega
        case rel => exact ⟨(wrap64 (x9_1 + 1)), (by first | rfl | (simp; done) | (simp [*]; done)), H', ⟨by have := HK1.out; omega⟩, ⟨by (with_reducible repeat first | refine qfa ?_ _ | refine qia ?_ | refine qea ?_ _); exact BK818.out⟩, ⟨by repeat (first | (with_reducible first | exact HB.out | apply qda | apply qba | apply qca | refine qga ?_ GE818.out) | exact HB.out)⟩⟩
       ·rw [if_neg c9] at H
        have c9b0 : (t820 == 0) = false := beq_eq_false_iff_ne.mpr c9
        have c9b1 : (t820 != 0) = true := bne_iff_ne.mpr c9
        obtain rfl := Option.some.inj H
        have p819 : 0 ≤ (x9_1 : Int) := of_decide_eq_true (by first | (with_reducible assumption) | assumption)
        have q819 : x9_1 < (l1.length : Int) := of_decide_eq_true (by first | (with_reducible assumption) | assumption)
        obtain ⟨ad819, A819_0, c819_0, e819, hx819_0, hl819_0, hi819_0⟩ := at_L3 HR1.out x9_1 p819 q819
        cases e819
        replace hx819_0 := (HB.out.cell (World.block_lt_of_cell? w _ hx819_0)).trans hx819_0
        have HR819_0 := Aside0.mk hi819_0
        have HC819_0 := Aside0.mk hl819_0
        clear hi819_0 hl819_0; replace p819 := eq_true p819; replace q819 := eq_true q819
        have hcz11_0 : wr.cell? ⟨gb818, 0, none⟩ = some (.int .u64 a0_0) := (qja BK818.out 0).trans rfl
        have hcz11_1 : wr.cell? ⟨gb818, 1, none⟩ = some (.int .i64 a0_1) := (qja BK818.out 1).trans rfl
        have hcz11_2 : wr.cell? ⟨gb818, 2, none⟩ = some (.int .i64 a0_2) := (qja BK818.out 2).trans rfl
        have hfz11_0 := qha BK818.out 0
        have hfz11_1 := qha BK818.out 1
        have hfz11_2 := qha BK818.out 2
        go_wp2_with (first | (go_at_call 123; (with_reducible refine (qcb.calls k1 a0_0 _ _ (rd_L3 l1 x9_1) t820 _ ?side1 ?side2 A8.out).mono ?_); (case side1 => repeat (first | exact (Kd.C_below HR819_0.out HB.out) | (with_reducible first | refine Kd.C_alloc ?_ _ | refine Kd.C_drewN ?_ _ | refine Kd.C_drew ?_))); (case side2 => exact HC819_0.out); rintro e w' ⟨rfl, ⟨nd, rfl⟩⟩))
        go_ret
        exact ⟨by first | rfl | (simp [errW_none, errW_some] <;> rfl) | (simp [*, errW_none, errW_some] <;> rfl), by repeat (first | (with_reducible first | exact HB.out | apply qda | apply qba | apply qca | refine qga ?_ GE818.out) | exact HB.out)⟩
      ·rw [if_neg c7] at H
       have c7b0 : (((rd_L3 l1 x9_1).length : Int) == a0_1) = false := beq_eq_false_iff_ne.mpr c7
       have c7b1 : (((rd_L3 l1 x9_1).length : Int) != a0_1) = true := bne_iff_ne.mpr c7
       obtain rfl := Option.some.inj H
       have p819 : 0 ≤ (x9_1 : Int) := of_decide_eq_true (by first | (with_reducible assumption) | assumption)
       have q819 : x9_1 < (l1.length : Int) := of_decide_eq_true (by first | (with_reducible assumption) | assumption)
       obtain ⟨ad819, A819_0, c819_0, e819, hx819_0, hl819_0, hi819_0⟩ := at_L3 HR1.out x9_1 p819 q819
       cases e819
       replace hx819_0 := (HB.out.cell (World.block_lt_of_cell? w _ hx819_0)).trans hx819_0
       have HR819_0 := Aside0.mk hi819_0
       have HC819_0 := Aside0.mk hl819_0
       clear hi819_0 hl819_0; replace p819 := eq_true p819; replace q819 := eq_true q819
       have hcz12_0 : wr.cell? ⟨gb818, 0, none⟩ = some (.int .u64 a0_0) := (qja BK818.out 0).trans rfl
       have hcz12_1 : wr.cell? ⟨gb818, 1, none⟩ = some (.int .i64 a0_1) := (qja BK818.out 1).trans rfl
       have hcz12_2 : wr.cell? ⟨gb818, 2, none⟩ = some (.int .i64 a0_2) := (qja BK818.out 2).trans rfl
       have hfz12_0 := qha BK818.out 0
       have hfz12_1 := qha BK818.out 1
       have hfz12_2 := qha BK818.out 2
       go_wp2
       go_ret
       exact ⟨by first | rfl | (simp [errW_none, errW_some] <;> rfl) | (simp [*, errW_none, errW_some] <;> rfl), by repeat (first | (with_reducible first | exact HB.out | apply qda | apply qba | apply qca | refine qga ?_ GE818.out) | exact HB.out)⟩
     ·rw [if_neg c6] at H
      exact absurd H (by simp)
    ·rw [if_neg c5] at H
     exact absurd H (by simp)
   ·rw [if_neg c4] at H
    have c4b0 : decide (x9_1 < (l1.length : Int)) = false := decide_eq_false c4
    clear c4
    obtain rfl := Option.some.inj H
    go_wp2
    go_ret
    exact ⟨by first | rfl | (simp [errW_none, errW_some] <;> rfl) | (simp [*, errW_none, errW_some] <;> rfl), by repeat (first | (with_reducible first | exact HB.out | apply qda | apply qba | apply qca | refine qga ?_ GE818.out) | exact HB.out)⟩
mutual
def qkb.l0 : Nat → List Int → List (List Int) → Int → Int → Int → Int → Int → Option (List Int × Int)
 | 0, _, _, _, _, _, _, _ => none
 | k + 1, x8, x27, x28, x29, x822000, x822001, x822002 => if x29 < x28 then (if 0 ≤ x29 then (if x29 < (x27.length : Int) then (qkb.l1 k x8 x27 x28 x29 (rd_L3 x27 x29) ((rd_L3 x27 x29).length : Int) 0 x822000 x822001 x822002) else (none)) else (none)) else (some (x8, 0))
def qkb.l1 : Nat → List Int → List (List Int) → Int → Int → List Int → Int → Int → Int → Int → Int → Option (List Int × Int)
 | 0, _, _, _, _, _, _, _, _, _, _ => none
 | k + 1, x8, x27, x28, x29, x33, x34, x35, x822000, x822001, x822002 => if x35 < x34 then (if 0 ≤ x35 then (if x35 < (x33.length : Int) then (if x35 < (x8.length : Int) then ((qbc.f x822000 (rd x8 x35) (rd x33 x35)).bind fun t830 => (qkb.l1 k (x8.set (x35 : Int).toNat t830) x27 x28 x29 x33 x34 (wrap64 (x35 + 1)) x822000 x822001 x822002)) else (none)) else (none)) else (none)) else (qkb.l0 k x8 x27 x28 (wrap64 (x29 + 1)) x822000 x822001 x822002)
end
def qkb.f (k : Nat) (a0_0 : Int) (a0_1 : Int) (a0_2 : Int) (l1 : List (List Int)) : Option (List Int × Int) := (qab.f k a0_0 a0_1 a0_2).bind fun t822 => (if t822 = 0 then ((qqb.f k a0_0 a0_1 a0_2 l1).bind fun t823 => (if t823 = 0 then (if 0 ≤ a0_1 then (if (a0_1 : Int).toNat ≤ 35184372088832 then (qkb.l0 k (List.replicate (a0_1 : Int).toNat 0) l1 (l1.length : Int) 0 a0_0 a0_1 a0_2) else (none)) else (none)) else (some (([] : List Int), t823)))) else (some (([] : List Int), t822)))
def qkb.T14 : Bool × List (List Nat × List Nat) := (true, [([], []), ([], []), ([], []), ([2], [2]), ([], []), ([], []), ([4, 5], [4, 5]), ([6], [6]), ([], []), ([3, 7, 8], [3, 7, 8]), ([0, 1, 0, 1, 2, 3, 4, 5, 6, 7, 8, 9], [0, 1]), ([10, 9, 9, 0, 1, 2, 3, 4, 5, 6, 7, 8, 9], [9, 10])])
def qkb.B14 : List Nat := [0, 0, 0, 4, 0, 0, 48, 112, 0, 508, 1023, 2047]
theorem qkb.tab14 : rtab .any (opsOf Try.f78 14) = qkb.T14 := by kernel_rfl
theorem qkb.bits14 : waitsOk qkb.T14.2 qkb.B14 = true := by kernel_rfl
theorem qkb.calls (k : Nat) (a0_0 : Int) (a0_1 : Int) (a0_2 : Int) (A1 : Option Addr) (c1 : Nat) (l1 : List (List Int)) (r1 : List Int) (r2 : Int) (w : World) (hr1 : Kd.C (Kd.slice 22 (Kd.int .u64)) w A1 l1.length l1) (hc1 : l1.length ≤ c1) (h : qkb.f k a0_0 a0_1 a0_2 l1 = some (r1, r2)) :
  Calls Try.prog 78 #[.agg #[.int .u64 a0_0, .int .i64 a0_1, .int .i64 a0_2], .slice A1 l1.length c1] w fun e w' => ∃ v0_ : Value, e = .returned (.tuple #[v0_, .int .i64 r2]) ∧ Kd.R (Kd.int .u64) 22 w' w.heap.size (fun _ => True) v0_ r1 ∧ Below w.heap.size w w' := by
 have hu24 := Try.underlying24
 have HR1 := Aside0.mk hr1
 have HC1 := Aside0.mk hc1
 clear hr1 hc1
 have HB := Aside0.mk (Below.refl w.heap.size w)
 have H : ((qab.f k a0_0 a0_1 a0_2).bind fun t822 => (if t822 = 0 then ((qqb.f k a0_0 a0_1 a0_2 l1).bind fun t823 => (if t823 = 0 then (if 0 ≤ a0_1 then (if (a0_1 : Int).toNat ≤ 35184372088832 then (qkb.l0 k (List.replicate (a0_1 : Int).toNat 0) l1 (l1.length : Int) 0 a0_0 a0_1 a0_2) else (none)) else (none)) else (some (([] : List Int), t823)))) else (some (([] : List Int), t822)))) = some (r1, r2) := h
 clear h
 replace H := Option.bind_eq_some_iff.mp H
 obtain ⟨t822, A30, H⟩ := H
 try dsimp only at H
 have A3 := Aside0.mk A30
 clear A30
 by_cases c4 : t822 = 0
 ·rw [if_pos c4] at H
  have c4b0 : (t822 == 0) = true := beq_iff_eq.mpr c4
  have c4b1 : (t822 != 0) = false := bne_eq_false_iff_eq.mpr c4
  clear c4
  replace H := Option.bind_eq_some_iff.mp H
  obtain ⟨t823, A50, H⟩ := H
  try dsimp only at H
  have A5 := Aside0.mk A50
  clear A50
  by_cases c6 : t823 = 0
  ·rw [if_pos c6] at H
   have c6b0 : (t823 == 0) = true := beq_iff_eq.mpr c6
   have c6b1 : (t823 != 0) = false := bne_eq_false_iff_eq.mpr c6
   clear c6
   by_cases c7 : 0 ≤ a0_1
   ·rw [if_pos c7] at H
    have c7b0 := eq_true c7
    have c7b1 : decide (0 ≤ a0_1) = true := decide_eq_true c7
    clear c7
    by_cases c8 : (a0_1 : Int).toNat ≤ 35184372088832
    ·rw [if_pos c8] at H
     have c8b0 := eq_true c8
     have c8b1 : decide ((a0_1 : Int).toNat ≤ 35184372088832) = true := decide_eq_true c8
     clear c8
     obtain ⟨y824, hy824⟩ : ∃ y_ : List Int, y_ = (List.replicate (a0_1 : Int).toNat 0) := ⟨_, rfl⟩
     replace H : (qkb.l0 k y824 l1 (l1.length : Int) 0 a0_0 a0_1 a0_2) = some (r1, r2) := by first | (rw [hy824]; with_reducible exact H) | (have H2_ := (Option.bind_some _ _).symm.trans H; rw [hy824]; with_reducible exact H2_) | (have H2_ := (Option.bind_some _ _).symm.trans H; with_reducible exact H2_) | with_reducible exact H | (rw [hy824]; exact H) | exact H
     have Ny824 := Aside0.mk hy824
     clear hy824
     have H' := Aside0.mk H
     clear H
     go_enter Try.func78, Try.ntmps78
     go_wp2_with (first | ((with_reducible refine gate_dst (N := 2) rfl ?_); refine box_event ?hg (N := 2) ?hd (cs := #[.int .u64 a0_0, .int .i64 a0_1, .int .i64 a0_2]) (t := 24) ?hr ?_; (case hd => rfl); (case hg => rfl); (case hr => first | (go_simp; done) | (go_simp; rfl)); intro gb821 hg w9 hbox hb; have n0_ := Aside0.mk (qma (by with_reducible repeat first | exact HB.out | apply qda | apply qba | apply qca) hb); have n1_ := Aside0.mk (hbox); have n2_ := Aside0.mk ((by rw [hg]; exact (qla (by with_reducible repeat first | exact HB.out | apply qda | apply qba | apply qca)) : w.heap.size ≤ gb821)); have n3_ := Aside0.mk ((by rw [hg]; exact (qla (by with_reducible repeat first | exact HB.out | apply qda | apply qba | apply qca)) : w.heap.size ≤ gb821)); clear HB; have HB := n0_; have BK821 := n1_; have GW821 := n2_; have GE821 := n3_; clear n0_ n1_ n2_ n3_; clear hb hbox hg; have hcz10_0 : w9.cell? ⟨gb821, 0, none⟩ = some (.int .u64 a0_0) := (qja BK821.out 0).trans rfl; have hcz10_1 : w9.cell? ⟨gb821, 1, none⟩ = some (.int .i64 a0_1) := (qja BK821.out 1).trans rfl; have hcz10_2 : w9.cell? ⟨gb821, 2, none⟩ = some (.int .i64 a0_2) := (qja BK821.out 2).trans rfl; have hfz10_0 := qha BK821.out 0; have hfz10_1 := qha BK821.out 1; have hfz10_2 := qha BK821.out 2) | ((with_reducible refine qqa (f := 64) rfl ?_); refine goesL_ (some 14) rfl rfl Try.func64 (by kernel_rfl) rfl #[.agg #[.int .u64 a0_0, .int .i64 a0_1, .int .i64 a0_2]] rfl (by (try simp only [qM1, qM2, qM3]); first | done | rfl) ?_; (with_reducible refine (qab.calls k a0_0 a0_1 a0_2 t822 _ A3.out).mono ?_); rintro e w11 ⟨rfl, hb⟩; refine ⟨_, rfl, ?_⟩; have n0_ := Aside0.mk (qpa (g := gb821) (o := .cells #[.int .u64 a0_0, .int .i64 a0_1, .int .i64 a0_2] 24 (0, 0)) (by (with_reducible repeat first | refine qfa ?_ _ | refine qia ?_ | refine qea ?_ _); exact BK821.out) hb); have n1_ := Aside0.mk (qma (by with_reducible repeat first | exact HB.out | apply qda | apply qba | apply qca | refine qga ?_ GE821.out) hb); clear BK821; clear HB; have BK821 := n0_; have HB := n1_; clear n0_ n1_; (try clear hb); (try clear hb2); (try clear hk); (try clear hi); have hcz12_0 : w11.cell? ⟨gb821, 0, none⟩ = some (.int .u64 a0_0) := (qja BK821.out 0).trans rfl; have hcz12_1 : w11.cell? ⟨gb821, 1, none⟩ = some (.int .i64 a0_1) := (qja BK821.out 1).trans rfl; have hcz12_2 : w11.cell? ⟨gb821, 2, none⟩ = some (.int .i64 a0_2) := (qja BK821.out 2).trans rfl; have hfz12_0 := qha BK821.out 0; have hfz12_1 := qha BK821.out 1; have hfz12_2 := qha BK821.out 2) | ((with_reducible refine qqa (f := 146) rfl ?_); refine goesL_ (some 20) rfl rfl Try.func146 (by kernel_rfl) rfl #[.agg #[.int .u64 a0_0, .int .i64 a0_1, .int .i64 a0_2], .slice A1 l1.length c1] rfl (by (try simp only [qM1, qM2, qM3]); first | done | rfl) ?_; (with_reducible refine (qqb.calls k a0_0 a0_1 a0_2 _ _ l1 t823 _ ?side1 ?side2 A5.out).mono ?_); (case side1 => repeat (first | exact (Kd.C_below HR1.out HB.out) | (with_reducible first | refine Kd.C_alloc ?_ _ | refine Kd.C_drewN ?_ _ | refine Kd.C_drew ?_))); (case side2 => exact HC1.out); rintro e w13 ⟨rfl, hb⟩; refine ⟨_, rfl, ?_⟩; have n0_ := Aside0.mk (qpa (g := gb821) (o := .cells #[.int .u64 a0_0, .int .i64 a0_1, .int .i64 a0_2] 24 (0, 0)) (by (with_reducible repeat first | refine qfa ?_ _ | refine qia ?_ | refine qea ?_ _); exact BK821.out) hb); have n1_ := Aside0.mk (qma (by with_reducible repeat first | exact HB.out | apply qda | apply qba | apply qca | refine qga ?_ GE821.out) hb); clear BK821; clear HB; have BK821 := n0_; have HB := n1_; clear n0_ n1_; (try clear hb); (try clear hb2); (try clear hk); (try clear hi); have hcz14_0 : w13.cell? ⟨gb821, 0, none⟩ = some (.int .u64 a0_0) := (qja BK821.out 0).trans rfl; have hcz14_1 : w13.cell? ⟨gb821, 1, none⟩ = some (.int .i64 a0_1) := (qja BK821.out 1).trans rfl; have hcz14_2 : w13.cell? ⟨gb821, 2, none⟩ = some (.int .i64 a0_2) := (qja BK821.out 2).trans rfl; have hfz14_0 := qha BK821.out 0; have hfz14_1 := qha BK821.out 1; have hfz14_2 := qha BK821.out 2) | ((with_reducible refine gate_dst (N := 26) rfl ?_); refine Kd.R_make (Kd.int .u64) _ 22 rfl (N := 26) rfl 31 _ _ rfl a0_1 rfl rfl Try.underlying31 (.int .u64 0) 8 info22 rfl (by decide) (by omega) 0 (ok := fun _ => True) (okp := fun _ => True) rfl (fun _ hk => hk) trivial (of_decide_eq_true (by first | (with_reducible assumption) | assumption)) (Nat.le_trans (Nat.mul_le_mul_right _ (of_decide_eq_true (by first | (with_reducible assumption) | assumption) : a0_1.toNat ≤ 35184372088832)) (by omega)) (Below.refl _ _) (Nat.le_refl _) ?_; intro v825 w15 ho16 hb hg_ hnew_; clear hg_ hnew_; (first | rw [← Ny824.out] at ho16 | (simp only [Int.reduceToNat] at ho16; rw [← Ny824.out] at ho16)); have n0_ := Aside0.mk (Kd.R_lower ho16 (qla (by with_reducible repeat first | exact HB.out | apply qda | apply qba | apply qca | refine qga ?_ GE821.out))); have n1_ := Aside0.mk (qpa (g := gb821) (o := .cells #[.int .u64 a0_0, .int .i64 a0_1, .int .i64 a0_2] 24 (0, 0)) (by (with_reducible repeat first | refine qfa ?_ _ | refine qia ?_ | refine qea ?_ _); exact BK821.out) hb); have n2_ := Aside0.mk (qma (by with_reducible repeat first | exact HB.out | apply qda | apply qba | apply qca | refine qga ?_ GE821.out) hb); clear BK821; clear HB; have HO826 := n0_; have BK821 := n1_; have HB := n2_; clear n0_ n1_ n2_; clear hb ho16))
     go_loopg [29] k (fun kq v29 w' => ∃ (x8_1 : List Int) (x29_1 : Int), v29 = .int .i64 x29_1 ∧ Aside0 (qkb.l0 kq x8_1 l1 (l1.length : Int) x29_1 a0_0 a0_1 a0_2 = some (r1, r2)) ∧ Aside0 (kq ≤ k) ∧ Aside0 (Kd.R (Kd.int .u64) 22 w' w.heap.size (fun _ => True) v825 x8_1) ∧ Aside0 (w'.heap[gb821]? = some (.cells #[.int .u64 a0_0, .int .i64 a0_1, .int .i64 a0_2] 24 (0, 0))) ∧ Aside0 (Below w.heap.size w w'))
     case atStart => exact ⟨(y824), (0), (by first | rfl | (simp; done) | (simp [*]; done)), H', ⟨Nat.le_refl _⟩, ⟨by (with_reducible repeat first | apply Kd.qoa | apply Kd.qna | apply Kd.R_drew); exact HO826.out⟩, ⟨by (with_reducible repeat first | refine qfa ?_ _ | refine qia ?_ | refine qea ?_ _); exact BK821.out⟩, ⟨by repeat (first | (with_reducible first | exact HB.out | apply qda | apply qba | apply qca | refine qga ?_ GE821.out) | exact HB.out)⟩⟩
     case round =>
      clear H'; (try clear c1); (try clear p2); (try clear c4); (try clear c4b0); (try clear c4b1); (try clear c6); (try clear c6b0); (try clear c6b1); (try clear c7); (try clear c7b0); (try clear c7b1); (try clear c8); (try clear c8b0); (try clear c8b1); (try clear c14); (try clear hcz10_0); (try clear hcz10_1); (try clear hcz10_2); (try clear hcz12_0); (try clear hcz12_1); (try clear hcz12_2); (try clear hcz14_0); (try clear hcz14_1); (try clear hcz14_2); (try clear hfz10_0); (try clear hfz10_1); (try clear hfz10_2); (try clear hfz12_0); (try clear hfz12_1); (try clear hfz12_2); (try clear hfz14_0); (try clear hfz14_1); (try clear hfz14_2)
      obtain ⟨x8_1, x29_1, rfl, HA, HK1, HO_8, BK821, HB⟩ := hrel
      cases gk with
      | zero => exact absurd HA.out (by simp [qkb.l0])
      | succ k1 =>
       have H := HA.out
       clear HA
       simp only [qkb.l0] at H
       by_cases c17 : x29_1 < (l1.length : Int)
       ·rw [if_pos c17] at H
        have c17b0 : decide (x29_1 < (l1.length : Int)) = true := decide_eq_true c17
        clear c17
        by_cases c18 : 0 ≤ x29_1
        ·rw [if_pos c18] at H
         have c18b0 : decide (0 ≤ x29_1) = true := decide_eq_true c18
         clear c18
         by_cases c19 : x29_1 < (l1.length : Int)
         ·rw [if_pos c19] at H
          have c19b0 : decide (x29_1 < (l1.length : Int)) = true := decide_eq_true c19
          clear c19
          have H' := Aside0.mk H
          clear H
          have p827 : 0 ≤ (x29_1 : Int) := of_decide_eq_true (by first | (with_reducible assumption) | assumption)
          have q827 : x29_1 < (l1.length : Int) := of_decide_eq_true (by first | (with_reducible assumption) | assumption)
          obtain ⟨ad827, A827_0, c827_0, e827, hx827_0, hl827_0, hi827_0⟩ := at_L3 HR1.out x29_1 p827 q827
          cases e827
          replace hx827_0 := (HB.out.cell (World.block_lt_of_cell? w _ hx827_0)).trans hx827_0
          have HR827_0 := Aside0.mk hi827_0
          have HC827_0 := Aside0.mk hl827_0
          clear hi827_0 hl827_0; replace p827 := eq_true p827; replace q827 := eq_true q827
          go_wp2
          go_loopg [35] k1 (fun kq v35 w' => ∃ (x8_2 : List Int) (x35_2 : Int), v35 = .int .i64 x35_2 ∧ Aside0 (qkb.l1 kq x8_2 l1 (l1.length : Int) x29_1 (rd_L3 l1 x29_1) ((rd_L3 l1 x29_1).length : Int) x35_2 a0_0 a0_1 a0_2 = some (r1, r2)) ∧ Aside0 (kq ≤ k1) ∧ Aside0 (Kd.R (Kd.int .u64) 22 w' w.heap.size (fun _ => True) v825 x8_2) ∧ Aside0 (w'.heap[gb821]? = some (.cells #[.int .u64 a0_0, .int .i64 a0_1, .int .i64 a0_2] 24 (0, 0))) ∧ Aside0 (Below w.heap.size w w'))
          case atStart => exact ⟨(x8_1), (0), (by first | rfl | (simp; done) | (simp [*]; done)), H', ⟨Nat.le_refl _⟩, ⟨by (with_reducible repeat first | apply Kd.qoa | apply Kd.qna | apply Kd.R_drew); exact HO_8.out⟩, ⟨by (with_reducible repeat first | refine qfa ?_ _ | refine qia ?_ | refine qea ?_ _); exact BK821.out⟩, ⟨by repeat (first | (with_reducible first | exact HB.out | apply qda | apply qba | apply qca | refine qga ?_ GE821.out) | exact HB.out)⟩⟩
          case round =>
           clear H'; (try clear c1); (try clear p2); (try clear c4); (try clear c4b0); (try clear c4b1); (try clear c6); (try clear c6b0); (try clear c6b1); (try clear c7); (try clear c7b0); (try clear c7b1); (try clear c8); (try clear c8b0); (try clear c8b1); (try clear p8); (try clear q8); (try clear hx8); (try clear c14); (try clear c17); (try clear c17b0); (try clear c18); (try clear c18b0); (try clear c19); (try clear c19b0); (try clear hcz10_0); (try clear hcz10_1); (try clear hcz10_2); (try clear hcz12_0); (try clear hcz12_1); (try clear hcz12_2); (try clear hcz14_0); (try clear hcz14_1); (try clear hcz14_2); (try clear hfz10_0); (try clear hfz10_1); (try clear hfz10_2); (try clear hfz12_0); (try clear hfz12_1); (try clear hfz12_2); (try clear hfz14_0); (try clear hfz14_1); (try clear hfz14_2); (try clear hx827_0); (try clear p2); (try clear p827); (try clear q827)
           obtain ⟨x8_2, x35_2, rfl, HA, HK2, HO_8, BK821, HB⟩ := hrel
           cases gk with
           | zero => exact absurd HA.out (by simp [qkb.l1])
           | succ k2 =>
            have H := HA.out
            clear HA
            simp only [qkb.l1] at H
            by_cases c20 : x35_2 < ((rd_L3 l1 x29_1).length : Int)
            ·rw [if_pos c20] at H
             have c20b0 : decide (x35_2 < ((rd_L3 l1 x29_1).length : Int)) = true := decide_eq_true c20
             clear c20
             by_cases c21 : 0 ≤ x35_2
             ·rw [if_pos c21] at H
              have c21b0 : decide (0 ≤ x35_2) = true := decide_eq_true c21
              clear c21
              by_cases c22 : x35_2 < ((rd_L3 l1 x29_1).length : Int)
              ·rw [if_pos c22] at H
               have c22b0 : decide (x35_2 < ((rd_L3 l1 x29_1).length : Int)) = true := decide_eq_true c22
               clear c22
               by_cases c23 : x35_2 < (x8_2.length : Int)
               ·rw [if_pos c23] at H
                have c23b0 : decide (x35_2 < (x8_2.length : Int)) = true := decide_eq_true c23
                clear c23
                replace H := Option.bind_eq_some_iff.mp H
                obtain ⟨t830, A240, H⟩ := H
                try dsimp only at H
                have A24 := Aside0.mk A240
                clear A240
                obtain ⟨y831, hy831⟩ : ∃ y_ : List Int, y_ = (x8_2.set (x35_2 : Int).toNat t830) := ⟨_, rfl⟩
                replace H : (qkb.l1 k2 y831 l1 (l1.length : Int) x29_1 (rd_L3 l1 x29_1) ((rd_L3 l1 x29_1).length : Int) (wrap64 (x35_2 + 1)) a0_0 a0_1 a0_2) = some (r1, r2) := by first | (rw [hy831]; with_reducible exact H) | (have H2_ := (Option.bind_some _ _).symm.trans H; rw [hy831]; with_reducible exact H2_) | (have H2_ := (Option.bind_some _ _).symm.trans H; with_reducible exact H2_) | with_reducible exact H | (rw [hy831]; exact H) | exact H
                have Ny831 := Aside0.mk hy831
                clear hy831
                have H' := Aside0.mk H
                clear H
                have p828 : 0 ≤ (x35_2 : Int) := of_decide_eq_true (by first | (with_reducible assumption) | assumption)
                have q828 : x35_2 < ((rd_L3 l1 x29_1).length : Int) := of_decide_eq_true (by first | (with_reducible assumption) | assumption)
                obtain ⟨ad828, e828, hx828_0⟩ := Kd.at_int HR827_0.out x35_2 p828 q828
                cases e828
                replace hx828_0 := (HB.out.cell (World.block_lt_of_cell? w _ hx828_0)).trans hx828_0
                replace p828 := eq_true p828; replace q828 := eq_true q828
                try go_wp2
                have n0_ := Aside0.mk (Kd.R_drew HO_8.out)
                have n1_ := Aside0.mk (qia BK821.out)
                have n2_ := Aside0.mk (qca HB.out)
                clear HO_8 BK821 HB; have HO_8 := n0_; have BK821 := n1_; have HB := n2_; clear n0_ n1_ n2_
                obtain ⟨Ao27, co27, eo27⟩ := Kd.R_slice HO_8.out
                (first | subst eo27 | (injection eo27 with f1_ f2_ f3_; have f4_ := f1_.symm; have f5_ := f3_.symm; clear f1_ f2_ f3_; subst f4_; subst f5_))
                have p829 : 0 ≤ (x35_2 : Int) := of_decide_eq_true (by first | (with_reducible assumption) | assumption)
                have q829 : x35_2 < (x8_2.length : Int) := of_decide_eq_true (by first | (with_reducible assumption) | assumption)
                obtain ⟨ad829, e829, hx829_0⟩ := Kd.at_int (Kd.R_reads' HO_8.out).2.2 x35_2 p829 q829
                cases e829
                replace p829 := eq_true p829; replace q829 := eq_true q829
                refine start_ (n := 12) (S := fun w' => w'.cell? ⟨gb821, 0, none⟩ = some (.int .u64 a0_0) ∧ w'.cell? ⟨gb821, 1, none⟩ = some (.int .i64 a0_1) ∧ w'.cell? ⟨gb821, 2, none⟩ = some (.int .i64 a0_2) ∧ w'.cell? (ad829.add (x35_2).toNat) = some (.int .u64 (rd x8_2 x35_2))) (ds := [11]) #[false, false, false, false, false, false, false, false, false, false, false, false] (by kernel_rfl) rfl rfl ⟨(qja BK821.out 0).trans rfl, (qja BK821.out 1).trans rfl, (qja BK821.out 2).trans rfl, hx829_0⟩ (fun hHeld => ?_); refine with_tabW qkb.tab14 qkb.bits14 (fun HT_ HW_ => ?_)
                generalize wr.drew = w26 at HO_8 BK821 HB hx829_0 hHeld ⊢
                refine pure_ (i := 0) (N := some 40) (v := ?_) (a' := ?_) #[true, false, false, false, false, false, false, false, false, false, false, false] rfl rfl (any_of HT_.out (by kernel_rfl)) (fun _ _ _ h => h) (Or.inl ⟨by rfl, ?_⟩) ?_ ?_
                rotate_left; (intro w'; go_simp; with_reducible rfl); rotate_left; (simp only [Act.put, qS1, qS2, qS3, i64_w, i32_w]; rfl)
                refine pure_ (i := 1) (N := some 41) (v := ?_) (a' := ?_) #[true, true, false, false, false, false, false, false, false, false, false, false] rfl rfl (any_of HT_.out (by kernel_rfl)) (fun _ _ _ h => h) (Or.inl ⟨by rfl, ?_⟩) ?_ ?_
                rotate_left; (intro w'; go_simp; with_reducible rfl); rotate_left; (simp only [Act.put, qS1, qS2, qS3, i64_w, i32_w]; rfl)
                refine pure_ (i := 2) (N := some 42) (v := ?_) (a' := ?_) #[true, true, true, false, false, false, false, false, false, false, false, false] rfl rfl (any_of HT_.out (by kernel_rfl)) (fun _ _ _ h => h) (Or.inl ⟨by rfl, ?_⟩) ?_ ?_
                rotate_left; (intro w'; go_simp; with_reducible rfl); rotate_left; (simp only [Act.put, qS1, qS2, qS3, i64_w, i32_w]; rfl)
                refine pure_ (i := 4) (N := some 44) (v := ?_) (a' := ?_) #[true, true, true, false, true, false, false, false, false, false, false, false] rfl rfl (any_of HT_.out (by kernel_rfl)) (fun _ _ _ h => h) (Or.inl ⟨by rfl, ?_⟩) ?_ ?_
                rotate_left; (intro w'; go_simp; with_reducible rfl); rotate_left; (simp only [Act.put, qS1, qS2, qS3, i64_w, i32_w]; rfl)
                refine pure_ (i := 5) (N := some 45) (v := ?_) (a' := ?_) #[true, true, true, false, true, true, false, false, false, false, false, false] rfl rfl (any_of HT_.out (by kernel_rfl)) (fun _ _ _ h => h) (Or.inl ⟨by rfl, ?_⟩) ?_ ?_
                rotate_left; (intro w'; go_simp; with_reducible rfl); rotate_left; (simp only [Act.put, qS1, qS2, qS3, i64_w, i32_w]; rfl)
                refine pure_ (i := 6) (N := some 46) (v := ?_) (a' := ?_) #[true, true, true, false, true, true, true, false, false, false, false, false] rfl rfl (any_of HT_.out (by kernel_rfl)) (fun _ _ _ h => h) (Or.inl ⟨by rfl, ?_⟩) ?_ ?_
                rotate_left; (intro w'; go_simp; with_reducible rfl); rotate_left; (simp only [Act.put, qS1, qS2, qS3, i64_w, i32_w]; rfl)
                refine pure_ (i := 8) (N := some 48) (v := ?_) (a' := ?_) #[true, true, true, false, true, true, true, false, true, false, false, false] rfl rfl (any_of HT_.out (by kernel_rfl)) (fun _ _ _ h => h) (Or.inl ⟨by rfl, ?_⟩) ?_ ?_
                rotate_left; (intro w'; go_simp; with_reducible rfl); rotate_left; (simp only [Act.put, qS1, qS2, qS3, i64_w, i32_w]; rfl)
                refine take_ (i := 3) (N := some 43) (v := ?_) (a' := ?_) #[true, true, true, true, true, true, true, false, true, false, false, false] rfl rfl (take_ofW HT_.out HW_.out (by kernel_rfl)) (fun _ _ _ h => h) (Or.inl ⟨by rfl, ?_⟩) hHeld ?_ ?_
                rotate_left; (rintro w' ⟨s0, s1, s2, s3⟩; go_simp; with_reducible rfl); rotate_left; (simp only [Act.put, qS1, qS2, qS3, i64_w, i32_w]; rfl)
                refine take_ (i := 7) (N := some 47) (v := ?_) (a' := ?_) #[true, true, true, true, true, true, true, true, true, false, false, false] rfl rfl (take_ofW HT_.out HW_.out (by kernel_rfl)) (fun _ _ _ h => h) (Or.inl ⟨by rfl, ?_⟩) hHeld ?_ ?_
                rotate_left; (rintro w' ⟨s0, s1, s2, s3⟩; go_simp; with_reducible rfl); rotate_left; (simp only [Act.put, qS1, qS2, qS3, i64_w, i32_w]; rfl)
                refine one_ (i := 9) (N := some 49) #[true, true, true, true, true, true, true, true, true, true, false, false] rfl rfl (one_of HT_.out (by kernel_rfl)) (by decide) (fun K hK => ?_)
                refine goes_ Try.func147 (by kernel_rfl) rfl #[.int .u64 a0_0, .int .u64 (rd x8_2 x35_2), .int .u64 (rd (rd_L3 l1 x29_1) x35_2)] (by rfl) rfl rfl (by (try simp only [qM1, qM2, qM3]); first | done | rfl | (simp only [List.length_drop, List.length_take]; rfl)) ?_
                with_reducible refine (qbc.calls a0_0 (rd x8_2 x35_2) (rd (rd_L3 l1 x29_1) x35_2) t830 _ A24.out).mono ?_
                rintro e w' ⟨rfl, ⟨nd, rfl⟩⟩
                refine ⟨_, rfl, ?_⟩
                have p25 : 0 ≤ (x35_2 : Int) := of_decide_eq_true (by first | (with_reducible assumption) | assumption)
                have q25 : (x35_2 : Int) < ((x8_2.length : Int) : Int) := of_decide_eq_true (by first | (with_reducible assumption) | assumption)
                obtain ⟨go25, co25, eo25, gb25, gl25, cl25, HG25⟩ := Kd.R_form HO_8.out (by omega)
                (first | cases eo25 | (injection eo25 with ea_ en_ ec_; (first | subst ea_ | (injection ea_ with ea_; subst ea_)); subst ec_; clear en_))
                have GB25 := Aside0.mk gb25
                have GG25 := Aside0.mk HG25
                clear gb25 gl25 HG25
                (first | simp only [add_plain] at hx829_0 | skip)
                obtain ⟨hx25_0, hf25_0⟩ := Kd.R_celln 0 HO_8.out (x35_2 : Int) p25 q25
                replace p25 := eq_true p25; replace q25 := eq_true q25
                have HP28 := Kd.R_putn HO_8.out (x35_2 : Int) t830
                rw [← Ny831.out] at HP28
                have HQ28 := Aside0.mk HP28
                clear HP28
                refine hK.out _ _ ⟨(qja BK821.out 0).trans rfl, (qja BK821.out 1).trans rfl, (qja BK821.out 2).trans rfl, hHeld.2.2.2⟩ (fun hHeld => ?_)
                clear hK K
                refine norm_ (a' := ?_) ?_ ?_
                rotate_left
                ·show Act.put _ (some 49) _ = _
                 simp only [Act.put, qS1, qS2, qS3, i64_w, i32_w]
                 rfl
                refine pure_ (i := 10) (N := some 50) (v := ?_) (a' := ?_) #[true, true, true, true, true, true, true, true, true, true, true, false] rfl rfl (any_of HT_.out (by kernel_rfl)) (fun _ _ _ h => h) (Or.inl ⟨by rfl, ?_⟩) ?_ ?_
                rotate_left; (intro w'; go_simp; with_reducible rfl); rotate_left; (simp only [Act.put, qS1, qS2, qS3, i64_w, i32_w]; rfl)
                refine last_ (i := 11) (N := none) #[true, true, true, true, true, true, true, true, true, true, true, true] rfl rfl (one_of HT_.out (by kernel_rfl)) (by decide) (fun K hK => ?_)
                refine skip_ (w1 := ?_) (by rfl) rfl ?_ ?_
                rotate_left
                ·go_simp
                 rfl
                refine hK.out _ _ ?_
                clear hK K
                refine done_ (done_of HT_.out (by kernel_rfl)) ?_
                try go_wp2
                go_roundg k2
                case measure => have := HK1.out; have := HK2.out; omega
                case rel => exact ⟨(y831), (wrap64 (x35_2 + 1)), (by first | rfl | (simp; done) | (simp [*]; done)), H', ⟨by have := HK1.out; have := HK2.out; omega⟩, ⟨by (with_reducible repeat first | apply Kd.qoa | apply Kd.qna | apply Kd.R_drew); exact HQ28.out⟩, ⟨by (with_reducible repeat first | refine qfa ?_ _ | refine qia ?_ | refine qea ?_ _); refine blk_far ?_ (by have h_ := Kd.R_ne HO_8.out BK821.out (by decide); intro e_; exact h_ (by rw [e_]; rfl)) _; (with_reducible repeat first | refine qfa ?_ _ | refine qia ?_ | refine qea ?_ _); exact BK821.out⟩, ⟨by repeat (first | (with_reducible first | exact HB.out | apply qda | apply qba | apply qca | refine qga ?_ GB25.out | refine qga ?_ GE821.out) | exact HB.out)⟩⟩
               ·rw [if_neg c23] at H
                exact absurd H (by simp)
              ·rw [if_neg c22] at H
               exact absurd H (by simp)
             ·rw [if_neg c21] at H
              exact absurd H (by simp)
            ·rw [if_neg c20] at H
             have c20b0 : decide (x35_2 < ((rd_L3 l1 x29_1).length : Int)) = false := decide_eq_false c20
             clear c20
             have H' := Aside0.mk H
             clear H
             go_wp2
             go_roundg k2
             case measure => have := HK1.out; have := HK2.out; omega
             case rel => exact ⟨(x8_2), (wrap64 (x29_1 + 1)), (by first | rfl | (simp; done) | (simp [*]; done)), H', ⟨by have := HK1.out; have := HK2.out; omega⟩, ⟨by (with_reducible repeat first | apply Kd.qoa | apply Kd.qna | apply Kd.R_drew); exact HO_8.out⟩, ⟨by (with_reducible repeat first | refine qfa ?_ _ | refine qia ?_ | refine qea ?_ _); exact BK821.out⟩, ⟨by repeat (first | (with_reducible first | exact HB.out | apply qda | apply qba | apply qca | refine qga ?_ GE821.out) | exact HB.out)⟩⟩
         ·rw [if_neg c19] at H
          exact absurd H (by simp)
        ·rw [if_neg c18] at H
         exact absurd H (by simp)
       ·rw [if_neg c17] at H
        have c17b0 : decide (x29_1 < (l1.length : Int)) = false := decide_eq_false c17
        clear c17
        simp only [Option.some.injEq, Prod.mk.injEq] at H
        obtain ⟨rfl, rfl⟩ := H
        go_wp2
        go_ret2
        exact ⟨_, by first | rfl | (simp [errW_none, errW_some] <;> rfl) | (simp [*, errW_none, errW_some] <;> rfl), by (with_reducible repeat first | apply Kd.qoa | apply Kd.qna | apply Kd.R_drew); exact HO_8.out, by repeat (first | (with_reducible first | exact HB.out | apply qda | apply qba | apply qca | refine qga ?_ GE821.out) | exact HB.out)⟩
    ·rw [if_neg c8] at H
     exact absurd H (by simp)
   ·rw [if_neg c7] at H
    exact absurd H (by simp)
  ·rw [if_neg c6] at H
   have c6b0 : (t823 == 0) = false := beq_eq_false_iff_ne.mpr c6
   have c6b1 : (t823 != 0) = true := bne_iff_ne.mpr c6
   simp only [Option.some.injEq, Prod.mk.injEq] at H
   obtain ⟨rfl, rfl⟩ := H
   go_enter Try.func78, Try.ntmps78
   go_wp2_with (first | ((with_reducible refine gate_dst (N := 2) rfl ?_); refine box_event ?hg (N := 2) ?hd (cs := #[.int .u64 a0_0, .int .i64 a0_1, .int .i64 a0_2]) (t := 24) ?hr ?_; (case hd => rfl); (case hg => rfl); (case hr => first | (go_simp; done) | (go_simp; rfl)); intro gb821 hg w29 hbox hb; have n0_ := Aside0.mk (qma (by with_reducible repeat first | exact HB.out | apply qda | apply qba | apply qca) hb); have n1_ := Aside0.mk (hbox); have n2_ := Aside0.mk ((by rw [hg]; exact (qla (by with_reducible repeat first | exact HB.out | apply qda | apply qba | apply qca)) : w.heap.size ≤ gb821)); have n3_ := Aside0.mk ((by rw [hg]; exact (qla (by with_reducible repeat first | exact HB.out | apply qda | apply qba | apply qca)) : w.heap.size ≤ gb821)); clear HB; have HB := n0_; have BK821 := n1_; have GW821 := n2_; have GE821 := n3_; clear n0_ n1_ n2_ n3_; clear hb hbox hg; have hcz30_0 : w29.cell? ⟨gb821, 0, none⟩ = some (.int .u64 a0_0) := (qja BK821.out 0).trans rfl; have hcz30_1 : w29.cell? ⟨gb821, 1, none⟩ = some (.int .i64 a0_1) := (qja BK821.out 1).trans rfl; have hcz30_2 : w29.cell? ⟨gb821, 2, none⟩ = some (.int .i64 a0_2) := (qja BK821.out 2).trans rfl; have hfz30_0 := qha BK821.out 0; have hfz30_1 := qha BK821.out 1; have hfz30_2 := qha BK821.out 2) | ((with_reducible refine qqa (f := 64) rfl ?_); refine goesL_ (some 14) rfl rfl Try.func64 (by kernel_rfl) rfl #[.agg #[.int .u64 a0_0, .int .i64 a0_1, .int .i64 a0_2]] rfl (by (try simp only [qM1, qM2, qM3]); first | done | rfl) ?_; (with_reducible refine (qab.calls k a0_0 a0_1 a0_2 t822 _ A3.out).mono ?_); rintro e w31 ⟨rfl, hb⟩; refine ⟨_, rfl, ?_⟩; have n0_ := Aside0.mk (qpa (g := gb821) (o := .cells #[.int .u64 a0_0, .int .i64 a0_1, .int .i64 a0_2] 24 (0, 0)) (by (with_reducible repeat first | refine qfa ?_ _ | refine qia ?_ | refine qea ?_ _); exact BK821.out) hb); have n1_ := Aside0.mk (qma (by with_reducible repeat first | exact HB.out | apply qda | apply qba | apply qca | refine qga ?_ GE821.out) hb); clear BK821; clear HB; have BK821 := n0_; have HB := n1_; clear n0_ n1_; (try clear hb); (try clear hb2); (try clear hk); (try clear hi); have hcz32_0 : w31.cell? ⟨gb821, 0, none⟩ = some (.int .u64 a0_0) := (qja BK821.out 0).trans rfl; have hcz32_1 : w31.cell? ⟨gb821, 1, none⟩ = some (.int .i64 a0_1) := (qja BK821.out 1).trans rfl; have hcz32_2 : w31.cell? ⟨gb821, 2, none⟩ = some (.int .i64 a0_2) := (qja BK821.out 2).trans rfl; have hfz32_0 := qha BK821.out 0; have hfz32_1 := qha BK821.out 1; have hfz32_2 := qha BK821.out 2) | ((with_reducible refine qqa (f := 146) rfl ?_); refine goesL_ (some 20) rfl rfl Try.func146 (by kernel_rfl) rfl #[.agg #[.int .u64 a0_0, .int .i64 a0_1, .int .i64 a0_2], .slice A1 l1.length c1] rfl (by (try simp only [qM1, qM2, qM3]); first | done | rfl) ?_; (with_reducible refine (qqb.calls k a0_0 a0_1 a0_2 _ _ l1 t823 _ ?side1 ?side2 A5.out).mono ?_); (case side1 => repeat (first | exact (Kd.C_below HR1.out HB.out) | (with_reducible first | refine Kd.C_alloc ?_ _ | refine Kd.C_drewN ?_ _ | refine Kd.C_drew ?_))); (case side2 => exact HC1.out); rintro e w33 ⟨rfl, hb⟩; refine ⟨_, rfl, ?_⟩; have n0_ := Aside0.mk (qpa (g := gb821) (o := .cells #[.int .u64 a0_0, .int .i64 a0_1, .int .i64 a0_2] 24 (0, 0)) (by (with_reducible repeat first | refine qfa ?_ _ | refine qia ?_ | refine qea ?_ _); exact BK821.out) hb); have n1_ := Aside0.mk (qma (by with_reducible repeat first | exact HB.out | apply qda | apply qba | apply qca | refine qga ?_ GE821.out) hb); clear BK821; clear HB; have BK821 := n0_; have HB := n1_; clear n0_ n1_; (try clear hb); (try clear hb2); (try clear hk); (try clear hi)))
   go_ret2
   exact ⟨_, by first | rfl | (simp [errW_none, errW_some] <;> rfl) | (simp [*, errW_none, errW_some] <;> rfl), by first | exact Kd.R_nil _ _ _ _ _ | exact Kd.N_nil _ _ _ _ _ | exact Kd.V_nil _ _ _ _ _ | exact Kd.Q_nil _ _ _ _ _ | exact Kd.S_nil _ _ _ _ _, by repeat (first | (with_reducible first | exact HB.out | apply qda | apply qba | apply qca | refine qga ?_ GE821.out) | exact HB.out)⟩
 ·rw [if_neg c4] at H
  have c4b0 : (t822 == 0) = false := beq_eq_false_iff_ne.mpr c4
  have c4b1 : (t822 != 0) = true := bne_iff_ne.mpr c4
  simp only [Option.some.injEq, Prod.mk.injEq] at H
  obtain ⟨rfl, rfl⟩ := H
  go_enter Try.func78, Try.ntmps78
  go_wp2_with (first | ((with_reducible refine gate_dst (N := 2) rfl ?_); refine box_event ?hg (N := 2) ?hd (cs := #[.int .u64 a0_0, .int .i64 a0_1, .int .i64 a0_2]) (t := 24) ?hr ?_; (case hd => rfl); (case hg => rfl); (case hr => first | (go_simp; done) | (go_simp; rfl)); intro gb821 hg w34 hbox hb; have n0_ := Aside0.mk (qma (by with_reducible repeat first | exact HB.out | apply qda | apply qba | apply qca) hb); have n1_ := Aside0.mk (hbox); have n2_ := Aside0.mk ((by rw [hg]; exact (qla (by with_reducible repeat first | exact HB.out | apply qda | apply qba | apply qca)) : w.heap.size ≤ gb821)); have n3_ := Aside0.mk ((by rw [hg]; exact (qla (by with_reducible repeat first | exact HB.out | apply qda | apply qba | apply qca)) : w.heap.size ≤ gb821)); clear HB; have HB := n0_; have BK821 := n1_; have GW821 := n2_; have GE821 := n3_; clear n0_ n1_ n2_ n3_; clear hb hbox hg; have hcz35_0 : w34.cell? ⟨gb821, 0, none⟩ = some (.int .u64 a0_0) := (qja BK821.out 0).trans rfl; have hcz35_1 : w34.cell? ⟨gb821, 1, none⟩ = some (.int .i64 a0_1) := (qja BK821.out 1).trans rfl; have hcz35_2 : w34.cell? ⟨gb821, 2, none⟩ = some (.int .i64 a0_2) := (qja BK821.out 2).trans rfl; have hfz35_0 := qha BK821.out 0; have hfz35_1 := qha BK821.out 1; have hfz35_2 := qha BK821.out 2) | ((with_reducible refine qqa (f := 64) rfl ?_); refine goesL_ (some 14) rfl rfl Try.func64 (by kernel_rfl) rfl #[.agg #[.int .u64 a0_0, .int .i64 a0_1, .int .i64 a0_2]] rfl (by (try simp only [qM1, qM2, qM3]); first | done | rfl) ?_; (with_reducible refine (qab.calls k a0_0 a0_1 a0_2 t822 _ A3.out).mono ?_); rintro e w36 ⟨rfl, hb⟩; refine ⟨_, rfl, ?_⟩; have n0_ := Aside0.mk (qpa (g := gb821) (o := .cells #[.int .u64 a0_0, .int .i64 a0_1, .int .i64 a0_2] 24 (0, 0)) (by (with_reducible repeat first | refine qfa ?_ _ | refine qia ?_ | refine qea ?_ _); exact BK821.out) hb); have n1_ := Aside0.mk (qma (by with_reducible repeat first | exact HB.out | apply qda | apply qba | apply qca | refine qga ?_ GE821.out) hb); clear BK821; clear HB; have BK821 := n0_; have HB := n1_; clear n0_ n1_; (try clear hb); (try clear hb2); (try clear hk); (try clear hi)))
  go_ret2
  exact ⟨_, by first | rfl | (simp [errW_none, errW_some] <;> rfl) | (simp [*, errW_none, errW_some] <;> rfl), by first | exact Kd.R_nil _ _ _ _ _ | exact Kd.N_nil _ _ _ _ _ | exact Kd.V_nil _ _ _ _ _ | exact Kd.Q_nil _ _ _ _ _ | exact Kd.S_nil _ _ _ _ _, by repeat (first | (with_reducible first | exact HB.out | apply qda | apply qba | apply qca | refine qga ?_ GE821.out) | exact HB.out)⟩
mutual
def qfb.j0 : Nat → List Int → Int → Bool → Int → Int → Int → Option (List Int × Int)
 | 0, _, _, _, _, _, _ => none
 | k + 1, x1, x2, x27, x844000, x844001, x844002 => if x27 = true then (some (([] : List Int), 2)) else (if 0 ≤ x844001 then (if (x844001 : Int).toNat ≤ 35184372088832 then (qfb.l0 k x2 (List.replicate (x844001 : Int).toNat 0) x1 (x1.length : Int) 0 x844000 x844001 x844002) else (none)) else (none))
def qfb.l0 : Nat → Int → List Int → List Int → Int → Int → Int → Int → Int → Option (List Int × Int)
 | 0, _, _, _, _, _, _, _, _ => none
 | k + 1, x2, x9, x31, x32, x33, x844000, x844001, x844002 => if x33 < x32 then (if 0 ≤ x33 then (if x33 < (x31.length : Int) then ((qub.f x844000 (rd x31 x33) x2).bind fun t853 => (if x33 < (x9.length : Int) then (qfb.l0 k x2 (x9.set (x33 : Int).toNat t853) x31 x32 (wrap64 (x33 + 1)) x844000 x844001 x844002) else (none))) else (none)) else (none)) else (some (x9, 0))
end
def qfb.f (k : Nat) (a0_0 : Int) (a0_1 : Int) (a0_2 : Int) (l1 : List Int) (a2 : Int) : Option (List Int × Int) := (qab.f k a0_0 a0_1 a0_2).bind fun t844 => (if t844 = 0 then ((qqb.f k a0_0 a0_1 a0_2 (([l1] : List (List Int)))).bind fun t848 => (if t848 = 0 then (qfb.j0 k l1 a2 (decide (a2 ≥ a0_0)) a0_0 a0_1 a0_2) else (qfb.j0 k l1 a2 true a0_0 a0_1 a0_2))) else (some (([] : List Int), t844)))
theorem qfb.calls (k : Nat) (a0_0 : Int) (a0_1 : Int) (a0_2 : Int) (P1_ : Nat → Prop) (A1 : Option Addr) (c1 : Nat) (l1 : List Int) (a2 : Int) (r1 : List Int) (r2 : Int) (w : World) (hs1 : Kd.V (Kd.int .u64) 22 w w.heap.size (fun k_ => P1_ k_) (.slice A1 l1.length c1) l1) (h : qfb.f k a0_0 a0_1 a0_2 l1 a2 = some (r1, r2)) :
  Calls Try.prog 81 #[.agg #[.int .u64 a0_0, .int .i64 a0_1, .int .i64 a0_2], .slice A1 l1.length c1, .int .u64 a2] w fun e w' => ∃ v0_ : Value, e = .returned (.tuple #[v0_, .int .i64 r2]) ∧ Kd.R (Kd.int .u64) 22 w' w.heap.size (fun k_ => (w.heap.size ≤ k_)) v0_ r1 ∧ Below w.heap.size w w' := by
 have hu24 := Try.underlying24
 have HO1 := Aside0.mk (show Kd.V (Kd.int .u64) 22 w w.heap.size (fun k_ => (P1_ k_ ∨ w.heap.size ≤ k_)) (.slice A1 l1.length c1) l1 from Kd.V_mono hs1 (fun k_ hk => .inl hk))
 have HB := Aside0.mk (Below.refl w.heap.size w)
 have H : ((qab.f k a0_0 a0_1 a0_2).bind fun t844 => (if t844 = 0 then ((qqb.f k a0_0 a0_1 a0_2 (([l1] : List (List Int)))).bind fun t848 => (if t848 = 0 then (qfb.j0 k l1 a2 (decide (a2 ≥ a0_0)) a0_0 a0_1 a0_2) else (qfb.j0 k l1 a2 true a0_0 a0_1 a0_2))) else (some (([] : List Int), t844)))) = some (r1, r2) := h
 clear h
 replace H := Option.bind_eq_some_iff.mp H
 obtain ⟨t844, A40, H⟩ := H
 try dsimp only at H
 have A4 := Aside0.mk A40
 clear A40
 by_cases c5 : t844 = 0
 ·rw [if_pos c5] at H
  have c5b0 : (t844 == 0) = true := beq_iff_eq.mpr c5
  have c5b1 : (t844 != 0) = false := bne_eq_false_iff_eq.mpr c5
  clear c5
  have HC6 := Aside0.mk H
  clear H
  go_enter Try.func81, Try.ntmps81
  go_upto_region 4 with (first | ((with_reducible refine gate_dst (N := 3) rfl ?_); refine box_event ?hg (N := 3) ?hd (cs := #[.int .u64 a0_0, .int .i64 a0_1, .int .i64 a0_2]) (t := 24) ?hr ?_; (case hd => rfl); (case hg => rfl); (case hr => first | (go_simp; done) | (go_simp; rfl)); intro gb843 hg w7 hbox hb; have n0_ := Aside0.mk (Kd.V_below (Kd.V_elderB (by (with_reducible repeat first | apply Kd.V_alloc | apply Kd.V_drewN | apply Kd.V_drew); exact HO1.out) gb843 (Nat.le_of_eq hg.symm)) hb); have n1_ := Aside0.mk (qma (by with_reducible repeat first | exact HB.out | apply qda | apply qba | apply qca) hb); have n2_ := Aside0.mk (hbox); have n3_ := Aside0.mk ((by rw [hg]; exact (qla (by with_reducible repeat first | exact HB.out | apply qda | apply qba | apply qca)) : w.heap.size ≤ gb843)); have n4_ := Aside0.mk ((by rw [hg]; exact (qla (by with_reducible repeat first | exact HB.out | apply qda | apply qba | apply qca)) : w.heap.size ≤ gb843)); clear HO1; clear HB; have HO1 := n0_; have HB := n1_; have BK843 := n2_; have GW843 := n3_; have GE843 := n4_; clear n0_ n1_ n2_ n3_ n4_; clear hb hbox hg; have hcz8_0 : w7.cell? ⟨gb843, 0, none⟩ = some (.int .u64 a0_0) := (qja BK843.out 0).trans rfl; have hcz8_1 : w7.cell? ⟨gb843, 1, none⟩ = some (.int .i64 a0_1) := (qja BK843.out 1).trans rfl; have hcz8_2 : w7.cell? ⟨gb843, 2, none⟩ = some (.int .i64 a0_2) := (qja BK843.out 2).trans rfl; have hfz8_0 := qha BK843.out 0; have hfz8_1 := qha BK843.out 1; have hfz8_2 := qha BK843.out 2) | ((with_reducible refine qqa (f := 64) rfl ?_); refine goesL_ (some 13) rfl rfl Try.func64 (by kernel_rfl) rfl #[.agg #[.int .u64 a0_0, .int .i64 a0_1, .int .i64 a0_2]] rfl (by (try simp only [qM1, qM2, qM3]); first | done | rfl) ?_; (with_reducible refine (qab.calls k a0_0 a0_1 a0_2 t844 _ A4.out).mono ?_); rintro e w9 ⟨rfl, hb⟩; refine ⟨_, rfl, ?_⟩; have n0_ := Aside0.mk (Kd.V_below (by (with_reducible repeat first | apply Kd.V_alloc | apply Kd.V_drewN | apply Kd.V_drew); exact HO1.out) hb); have n1_ := Aside0.mk (qpa (g := gb843) (o := .cells #[.int .u64 a0_0, .int .i64 a0_1, .int .i64 a0_2] 24 (0, 0)) (by (with_reducible repeat first | refine qfa ?_ _ | refine qia ?_ | refine qea ?_ _); exact BK843.out) hb); have n2_ := Aside0.mk (qma (by with_reducible repeat first | exact HB.out | apply qda | apply qba | apply qca | refine qga ?_ GE843.out) hb); clear HO1; clear BK843; clear HB; have HO1 := n0_; have BK843 := n1_; have HB := n2_; clear n0_ n1_ n2_; (try clear hb); (try clear hb2); (try clear hk); (try clear hi)))
  (try simp only [Act.put, qS1, qS2, qS3])
  go_cut [27] (fun v27 wc => ∃ (kq : Nat) (x27_5 : Bool), v27 = .bool x27_5 ∧ Aside0 (qfb.j0 kq l1 a2 x27_5 a0_0 a0_1 a0_2 = some (r1, r2)) ∧ Aside0 (kq ≤ k) ∧ Aside0 (Kd.V (Kd.int .u64) 22 wc w.heap.size (fun k_ => (P1_ k_ ∨ w.heap.size ≤ k_) ∧ k_ ≠ gb843) (.slice A1 l1.length c1) l1) ∧ Aside0 (wc.heap[gb843]? = some (.cells #[.int .u64 a0_0, .int .i64 a0_1, .int .i64 a0_2] 24 (0, 0))) ∧ Aside0 (Below w.heap.size w wc))
  case first =>
   have H := HC6.out
   clear HC6
   obtain ⟨y845, hy845⟩ : ∃ y_ : List (List Int), y_ = (([l1] : List (List Int))) := ⟨_, rfl⟩
   replace H : ((qqb.f k a0_0 a0_1 a0_2 y845).bind fun t848 => (if t848 = 0 then (qfb.j0 k l1 a2 (decide (a2 ≥ a0_0)) a0_0 a0_1 a0_2) else (qfb.j0 k l1 a2 true a0_0 a0_1 a0_2))) = some (r1, r2) := by first | (rw [hy845]; with_reducible exact H) | (have H2_ := (Option.bind_some _ _).symm.trans H; rw [hy845]; with_reducible exact H2_) | (have H2_ := (Option.bind_some _ _).symm.trans H; with_reducible exact H2_) | with_reducible exact H | (rw [hy845]; exact H) | exact H
   have Ny845 := Aside0.mk hy845
   clear hy845
   replace H := Option.bind_eq_some_iff.mp H
   obtain ⟨t848, A100, H⟩ := H
   try dsimp only at H
   have A10 := Aside0.mk A100
   clear A100
   by_cases c11 : t848 = 0
   ·rw [if_pos c11] at H
    have c11b0 : (t848 == 0) = true := beq_iff_eq.mpr c11
    have c11b1 : (t848 != 0) = false := bne_eq_false_iff_eq.mpr c11
    clear c11
    (first | rw [c11b0] | (simp only [i64_w, i32_w]; rw [c11b0]) | skip)
    have H' := Aside0.mk H
    clear H
    have hcz12_0 : w9.cell? ⟨gb843, 0, none⟩ = some (.int .u64 a0_0) := (qja BK843.out 0).trans rfl
    have hcz12_1 : w9.cell? ⟨gb843, 1, none⟩ = some (.int .i64 a0_1) := (qja BK843.out 1).trans rfl
    have hcz12_2 : w9.cell? ⟨gb843, 2, none⟩ = some (.int .i64 a0_2) := (qja BK843.out 2).trans rfl
    have hfz12_0 := qha BK843.out 0
    have hfz12_1 := qha BK843.out 1
    have hfz12_2 := qha BK843.out 2
    go_wp2_with (first | ((with_reducible refine gate_dst (N := 19) rfl ?_); refine Kd.N_lit (Kd.slice 22 (Kd.int .u64)) _ 31 ?hg (N' := 19) ?hd (xs := ([l1] : List (List Int))) (inner := [.slice A1 l1.length c1]) (ok := (fun k_ => (P1_ k_ ∨ w.heap.size ≤ k_) ∧ k_ ≠ gb843)) (okp := (fun k_ => (P1_ k_ ∨ w.heap.size ≤ k_) ∧ k_ ≠ gb843)) ?hr ?hp (fun _ hk => hk) ((show ∀ k_, w9.heap.size ≤ k_ → (fun k_ => (P1_ k_ ∨ w.heap.size ≤ k_) ∧ k_ ≠ gb843) k_ from fun k_ hk => ⟨(.inr (Nat.le_trans (qla (by with_reducible repeat first | exact HB.out | apply qda | apply qba | apply qca | refine qga ?_ GE843.out)) hk)), Kd.freshB (g := gb843) (o := .cells #[.int .u64 a0_0, .int .i64 a0_1, .int .i64 a0_2] 24 (0, 0)) (by (with_reducible repeat first | refine qfa ?_ _ | refine qia ?_ | refine qea ?_ _); exact BK843.out) k_ hk⟩) _ (Nat.le_refl _)) (Below.refl _ _) (Nat.le_refl _) (by simp) ?_; (case hd => rfl); (case hg => rfl); (case hr => first | (go_simp; done) | (go_simp; rfl)); (case hp => exact (Reps.one (show Kd.FK (Kd.slice 22 (Kd.int .u64)) _ _ l1 [.slice A1 l1.length c1] from (Kd.FK_slice_mk (Kd.V_reads' (Kd.V_mono (ok' := (fun k_ => (P1_ k_ ∨ w.heap.size ≤ k_) ∧ k_ ≠ gb843)) (HO1.out) (fun k_ hk => ⟨hk.1, hk.2⟩))).2.1 (Kd.V_F (Kd.V_mono (ok' := (fun k_ => (P1_ k_ ∨ w.heap.size ≤ k_) ∧ k_ ≠ gb843)) (HO1.out) (fun k_ hk => ⟨hk.1, hk.2⟩))))) (Reps.none _ _))); intro v846 w13 ho14 hb hg_ hnew_; clear hg_ hnew_; (first | rw [← Ny845.out] at ho14 | (simp only [Int.reduceToNat] at ho14; rw [← Ny845.out] at ho14)); have n0_ := Aside0.mk (Kd.V_elder' (by (with_reducible repeat first | apply Kd.V_alloc | apply Kd.V_drewN | apply Kd.V_drew); exact HO1.out) (Kd.N_base ho14) hb); have n1_ := Aside0.mk (Kd.N_lower ho14 (qla (by with_reducible repeat first | exact HB.out | apply qda | apply qba | apply qca | refine qga ?_ GE843.out))); have n2_ := Aside0.mk (qpa (g := gb843) (o := .cells #[.int .u64 a0_0, .int .i64 a0_1, .int .i64 a0_2] 24 (0, 0)) (by (with_reducible repeat first | refine qfa ?_ _ | refine qia ?_ | refine qea ?_ _); exact BK843.out) hb); have n3_ := Aside0.mk (qma (by with_reducible repeat first | exact HB.out | apply qda | apply qba | apply qca | refine qga ?_ GE843.out) hb); clear HO1; clear BK843; clear HB; have HO1 := n0_; have HO847 := n1_; have BK843 := n2_; have HB := n3_; clear n0_ n1_ n2_ n3_; clear hb ho14; obtain ⟨Ao15, co15, eo15⟩ := Kd.N_slice HO847.out; subst eo15) | ((with_reducible refine qqa (f := 146) rfl ?_); refine goesL_ (some 20) rfl rfl Try.func146 (by kernel_rfl) rfl #[.agg #[.int .u64 a0_0, .int .i64 a0_1, .int .i64 a0_2], .slice Ao15 y845.length co15] rfl (by (try simp only [qM1, qM2, qM3]); first | done | rfl) ?_; (with_reducible refine (qqb.calls k a0_0 a0_1 a0_2 _ _ y845 t848 _ ?side1 ?side2 A10.out).mono ?_); (case side1 => repeat (first | exact (Kd.N_reads' HO847.out).2.2 | (with_reducible first | refine Kd.C_alloc ?_ _ | refine Kd.C_drewN ?_ _ | refine Kd.C_drew ?_))); (case side2 => exact (Kd.N_reads' HO847.out).2.1); rintro e w16 ⟨rfl, hb⟩; refine ⟨_, rfl, ?_⟩; have n0_ := Aside0.mk (Kd.V_below (by (with_reducible repeat first | apply Kd.V_alloc | apply Kd.V_drewN | apply Kd.V_drew); exact HO1.out) hb); have n1_ := Aside0.mk (Kd.N_below (by (with_reducible repeat first | apply Kd.N_alloc | apply Kd.N_drewN | apply Kd.N_drew); exact HO847.out) hb); have n2_ := Aside0.mk (qpa (g := gb843) (o := .cells #[.int .u64 a0_0, .int .i64 a0_1, .int .i64 a0_2] 24 (0, 0)) (by (with_reducible repeat first | refine qfa ?_ _ | refine qia ?_ | refine qea ?_ _); exact BK843.out) hb); have n3_ := Aside0.mk (qma (by with_reducible repeat first | exact HB.out | apply qda | apply qba | apply qca | refine qga ?_ GE843.out) hb); clear HO1; clear HO847; clear BK843; clear HB; have HO1 := n0_; have HO847 := n1_; have BK843 := n2_; have HB := n3_; clear n0_ n1_ n2_ n3_; (try clear hb); (try clear hb2); (try clear hk); (try clear hi); have hcz17_0 : w16.cell? ⟨gb843, 0, none⟩ = some (.int .u64 a0_0) := (qja BK843.out 0).trans rfl; have hcz17_1 : w16.cell? ⟨gb843, 1, none⟩ = some (.int .i64 a0_1) := (qja BK843.out 1).trans rfl; have hcz17_2 : w16.cell? ⟨gb843, 2, none⟩ = some (.int .i64 a0_2) := (qja BK843.out 2).trans rfl; have hfz17_0 := qha BK843.out 0; have hfz17_1 := qha BK843.out 1; have hfz17_2 := qha BK843.out 2))
    go_meet
    case rel => exact ⟨_, (decide (a2 ≥ a0_0)), (by first | rfl | (simp; done) | (simp [*]; done)), H', ⟨by first | omega | exact Nat.le_refl _⟩, ⟨by (with_reducible repeat first | apply Kd.V_alloc | apply Kd.V_drewN | apply Kd.V_drew); exact Kd.V_mono HO1.out (fun _ hk => ⟨hk.1.1, hk.1.2⟩)⟩, ⟨by (with_reducible repeat first | refine qfa ?_ _ | refine qia ?_ | refine qea ?_ _); exact BK843.out⟩, ⟨by repeat (first | (with_reducible first | exact HB.out | apply qda | apply qba | apply qca | refine qga ?_ GE843.out) | exact HB.out)⟩⟩
   ·rw [if_neg c11] at H
    have c11b0 : (t848 == 0) = false := beq_eq_false_iff_ne.mpr c11
    have c11b1 : (t848 != 0) = true := bne_iff_ne.mpr c11
    (first | rw [c11b0] | (simp only [i64_w, i32_w]; rw [c11b0]) | skip)
    have H' := Aside0.mk H
    clear H
    have hcz18_0 : w9.cell? ⟨gb843, 0, none⟩ = some (.int .u64 a0_0) := (qja BK843.out 0).trans rfl
    have hcz18_1 : w9.cell? ⟨gb843, 1, none⟩ = some (.int .i64 a0_1) := (qja BK843.out 1).trans rfl
    have hcz18_2 : w9.cell? ⟨gb843, 2, none⟩ = some (.int .i64 a0_2) := (qja BK843.out 2).trans rfl
    have hfz18_0 := qha BK843.out 0
    have hfz18_1 := qha BK843.out 1
    have hfz18_2 := qha BK843.out 2
    go_wp2_with (first | ((with_reducible refine gate_dst (N := 19) rfl ?_); refine Kd.N_lit (Kd.slice 22 (Kd.int .u64)) _ 31 ?hg (N' := 19) ?hd (xs := ([l1] : List (List Int))) (inner := [.slice A1 l1.length c1]) (ok := (fun k_ => (P1_ k_ ∨ w.heap.size ≤ k_) ∧ k_ ≠ gb843)) (okp := (fun k_ => (P1_ k_ ∨ w.heap.size ≤ k_) ∧ k_ ≠ gb843)) ?hr ?hp (fun _ hk => hk) ((show ∀ k_, w9.heap.size ≤ k_ → (fun k_ => (P1_ k_ ∨ w.heap.size ≤ k_) ∧ k_ ≠ gb843) k_ from fun k_ hk => ⟨(.inr (Nat.le_trans (qla (by with_reducible repeat first | exact HB.out | apply qda | apply qba | apply qca | refine qga ?_ GE843.out)) hk)), Kd.freshB (g := gb843) (o := .cells #[.int .u64 a0_0, .int .i64 a0_1, .int .i64 a0_2] 24 (0, 0)) (by (with_reducible repeat first | refine qfa ?_ _ | refine qia ?_ | refine qea ?_ _); exact BK843.out) k_ hk⟩) _ (Nat.le_refl _)) (Below.refl _ _) (Nat.le_refl _) (by simp) ?_; (case hd => rfl); (case hg => rfl); (case hr => first | (go_simp; done) | (go_simp; rfl)); (case hp => exact (Reps.one (show Kd.FK (Kd.slice 22 (Kd.int .u64)) _ _ l1 [.slice A1 l1.length c1] from (Kd.FK_slice_mk (Kd.V_reads' (Kd.V_mono (ok' := (fun k_ => (P1_ k_ ∨ w.heap.size ≤ k_) ∧ k_ ≠ gb843)) (HO1.out) (fun k_ hk => ⟨hk.1, hk.2⟩))).2.1 (Kd.V_F (Kd.V_mono (ok' := (fun k_ => (P1_ k_ ∨ w.heap.size ≤ k_) ∧ k_ ≠ gb843)) (HO1.out) (fun k_ hk => ⟨hk.1, hk.2⟩))))) (Reps.none _ _))); intro v846 w19 ho20 hb hg_ hnew_; clear hg_ hnew_; (first | rw [← Ny845.out] at ho20 | (simp only [Int.reduceToNat] at ho20; rw [← Ny845.out] at ho20)); have n0_ := Aside0.mk (Kd.V_elder' (by (with_reducible repeat first | apply Kd.V_alloc | apply Kd.V_drewN | apply Kd.V_drew); exact HO1.out) (Kd.N_base ho20) hb); have n1_ := Aside0.mk (Kd.N_lower ho20 (qla (by with_reducible repeat first | exact HB.out | apply qda | apply qba | apply qca | refine qga ?_ GE843.out))); have n2_ := Aside0.mk (qpa (g := gb843) (o := .cells #[.int .u64 a0_0, .int .i64 a0_1, .int .i64 a0_2] 24 (0, 0)) (by (with_reducible repeat first | refine qfa ?_ _ | refine qia ?_ | refine qea ?_ _); exact BK843.out) hb); have n3_ := Aside0.mk (qma (by with_reducible repeat first | exact HB.out | apply qda | apply qba | apply qca | refine qga ?_ GE843.out) hb); clear HO1; clear BK843; clear HB; have HO1 := n0_; have HO847 := n1_; have BK843 := n2_; have HB := n3_; clear n0_ n1_ n2_ n3_; clear hb ho20; obtain ⟨Ao21, co21, eo21⟩ := Kd.N_slice HO847.out; subst eo21) | ((with_reducible refine qqa (f := 146) rfl ?_); refine goesL_ (some 20) rfl rfl Try.func146 (by kernel_rfl) rfl #[.agg #[.int .u64 a0_0, .int .i64 a0_1, .int .i64 a0_2], .slice Ao21 y845.length co21] rfl (by (try simp only [qM1, qM2, qM3]); first | done | rfl) ?_; (with_reducible refine (qqb.calls k a0_0 a0_1 a0_2 _ _ y845 t848 _ ?side1 ?side2 A10.out).mono ?_); (case side1 => repeat (first | exact (Kd.N_reads' HO847.out).2.2 | (with_reducible first | refine Kd.C_alloc ?_ _ | refine Kd.C_drewN ?_ _ | refine Kd.C_drew ?_))); (case side2 => exact (Kd.N_reads' HO847.out).2.1); rintro e w22 ⟨rfl, hb⟩; refine ⟨_, rfl, ?_⟩; have n0_ := Aside0.mk (Kd.V_below (by (with_reducible repeat first | apply Kd.V_alloc | apply Kd.V_drewN | apply Kd.V_drew); exact HO1.out) hb); have n1_ := Aside0.mk (Kd.N_below (by (with_reducible repeat first | apply Kd.N_alloc | apply Kd.N_drewN | apply Kd.N_drew); exact HO847.out) hb); have n2_ := Aside0.mk (qpa (g := gb843) (o := .cells #[.int .u64 a0_0, .int .i64 a0_1, .int .i64 a0_2] 24 (0, 0)) (by (with_reducible repeat first | refine qfa ?_ _ | refine qia ?_ | refine qea ?_ _); exact BK843.out) hb); have n3_ := Aside0.mk (qma (by with_reducible repeat first | exact HB.out | apply qda | apply qba | apply qca | refine qga ?_ GE843.out) hb); clear HO1; clear HO847; clear BK843; clear HB; have HO1 := n0_; have HO847 := n1_; have BK843 := n2_; have HB := n3_; clear n0_ n1_ n2_ n3_; (try clear hb); (try clear hb2); (try clear hk); (try clear hi)))
    go_meet
    case rel => exact ⟨_, (true), (by first | rfl | (simp; done) | (simp [*]; done)), H', ⟨by first | omega | exact Nat.le_refl _⟩, ⟨by (with_reducible repeat first | apply Kd.V_alloc | apply Kd.V_drewN | apply Kd.V_drew); exact Kd.V_mono HO1.out (fun _ hk => ⟨hk.1.1, hk.1.2⟩)⟩, ⟨by (with_reducible repeat first | refine qfa ?_ _ | refine qia ?_ | refine qea ?_ _); exact BK843.out⟩, ⟨by repeat (first | (with_reducible first | exact HB.out | apply qda | apply qba | apply qca | refine qga ?_ GE843.out) | exact HB.out)⟩⟩
  case rest =>
   clear HC6; (try clear c1); (try clear p2); (try clear c5); (try clear c5b0); (try clear c5b1); (try clear c6); (try clear c8); (try clear c11); (try clear c11b0); (try clear c11b1); (try clear c14); (try clear hcz12_0); (try clear hcz12_1); (try clear hcz12_2); (try clear hcz17_0); (try clear hcz17_1); (try clear hcz17_2); (try clear hcz18_0); (try clear hcz18_1); (try clear hcz18_2); (try clear hcz8_0); (try clear hcz8_1); (try clear hcz8_2); (try clear hfz12_0); (try clear hfz12_1); (try clear hfz12_2); (try clear hfz17_0); (try clear hfz17_1); (try clear hfz17_2); (try clear hfz18_0); (try clear hfz18_1); (try clear hfz18_2); (try clear hfz8_0); (try clear hfz8_1); (try clear hfz8_2)
   obtain ⟨kq, x27_5, rfl, HA, HJ5, HO_1, BK843, HB⟩ := hcut
   cases kq with
   | zero => exact absurd HA.out (by simp [qfb.j0])
   | succ kj5 =>
    have H := HA.out
    clear HA
    simp only [qfb.j0] at H
    by_cases c23 : x27_5 = true
    ·subst c23
     have H1 : (some (([] : List Int), 2)) = some (r1, r2) := by rw [if_pos rfl] at H; exact H
     clear H; have H := H1; clear H1
     simp only [Option.some.injEq, Prod.mk.injEq] at H
     obtain ⟨rfl, rfl⟩ := H
     go_wp2
     go_ret2
     exact ⟨_, by first | rfl | (simp [errW_none, errW_some] <;> rfl) | (simp [*, errW_none, errW_some] <;> rfl), by first | exact Kd.R_nil _ _ _ _ _ | exact Kd.N_nil _ _ _ _ _ | exact Kd.V_nil _ _ _ _ _ | exact Kd.Q_nil _ _ _ _ _ | exact Kd.S_nil _ _ _ _ _, by repeat (first | (with_reducible first | exact HB.out | apply qda | apply qba | apply qca | refine qga ?_ GE843.out) | exact HB.out)⟩
    ·replace c23 := Bool.eq_false_iff.mpr c23
     subst c23
     have H1 : (if 0 ≤ a0_1 then (if (a0_1 : Int).toNat ≤ 35184372088832 then (qfb.l0 kj5 a2 (List.replicate (a0_1 : Int).toNat 0) l1 (l1.length : Int) 0 a0_0 a0_1 a0_2) else (none)) else (none)) = some (r1, r2) := by rw [if_neg (show ¬ (false = true) by decide)] at H; exact H
     clear H; have H := H1; clear H1
     by_cases c24 : 0 ≤ a0_1
     ·rw [if_pos c24] at H
      have c24b0 := eq_true c24
      have c24b1 : decide (0 ≤ a0_1) = true := decide_eq_true c24
      clear c24
      by_cases c25 : (a0_1 : Int).toNat ≤ 35184372088832
      ·rw [if_pos c25] at H
       have c25b0 := eq_true c25
       have c25b1 : decide ((a0_1 : Int).toNat ≤ 35184372088832) = true := decide_eq_true c25
       clear c25
       obtain ⟨y849, hy849⟩ : ∃ y_ : List Int, y_ = (List.replicate (a0_1 : Int).toNat 0) := ⟨_, rfl⟩
       replace H : (qfb.l0 kj5 a2 y849 l1 (l1.length : Int) 0 a0_0 a0_1 a0_2) = some (r1, r2) := by first | (rw [hy849]; with_reducible exact H) | (have H2_ := (Option.bind_some _ _).symm.trans H; rw [hy849]; with_reducible exact H2_) | (have H2_ := (Option.bind_some _ _).symm.trans H; with_reducible exact H2_) | with_reducible exact H | (rw [hy849]; exact H) | exact H
       have Ny849 := Aside0.mk hy849
       clear hy849
       have H' := Aside0.mk H
       clear H
       have hcz26_0 : wc.cell? ⟨gb843, 0, none⟩ = some (.int .u64 a0_0) := (qja BK843.out 0).trans rfl
       have hcz26_1 : wc.cell? ⟨gb843, 1, none⟩ = some (.int .i64 a0_1) := (qja BK843.out 1).trans rfl
       have hcz26_2 : wc.cell? ⟨gb843, 2, none⟩ = some (.int .i64 a0_2) := (qja BK843.out 2).trans rfl
       have hfz26_0 := qha BK843.out 0
       have hfz26_1 := qha BK843.out 1
       have hfz26_2 := qha BK843.out 2
       go_wp2_with (first | ((with_reducible refine gate_dst (N := 30) rfl ?_); refine Kd.R_make (Kd.int .u64) _ 22 rfl (N := 30) rfl 31 _ _ rfl a0_1 rfl rfl Try.underlying31 (.int .u64 0) 8 info22 rfl (by decide) (by omega) 0 (ok := fun _ => True) (okp := fun _ => True) rfl (fun _ hk => hk) trivial (of_decide_eq_true (by first | (with_reducible assumption) | assumption)) (Nat.le_trans (Nat.mul_le_mul_right _ (of_decide_eq_true (by first | (with_reducible assumption) | assumption) : a0_1.toNat ≤ 35184372088832)) (by omega)) (Below.refl _ _) (Nat.le_refl _) ?_; intro v850 w27 ho28 hb hg_ hnew_; clear hg_ hnew_; (first | rw [← Ny849.out] at ho28 | (simp only [Int.reduceToNat] at ho28; rw [← Ny849.out] at ho28)); have n0_ := Aside0.mk (Kd.V_elder' (by (with_reducible repeat first | apply Kd.V_alloc | apply Kd.V_drewN | apply Kd.V_drew); exact HO_1.out) (Kd.R_base ho28) hb); have n1_ := Aside0.mk (Kd.R_lower (Kd.R_newM (M := fun k_ => (w.heap.size ≤ k_)) ho28 (qla (by with_reducible repeat first | exact HB.out | apply qda | apply qba | apply qca | refine qga ?_ GE843.out)) (fun k_ h_ => h_)) (qla (by with_reducible repeat first | exact HB.out | apply qda | apply qba | apply qca | refine qga ?_ GE843.out))); have n2_ := Aside0.mk (qpa (g := gb843) (o := .cells #[.int .u64 a0_0, .int .i64 a0_1, .int .i64 a0_2] 24 (0, 0)) (by (with_reducible repeat first | refine qfa ?_ _ | refine qia ?_ | refine qea ?_ _); exact BK843.out) hb); have n3_ := Aside0.mk (qma (by with_reducible repeat first | exact HB.out | apply qda | apply qba | apply qca | refine qga ?_ GE843.out) hb); clear HO_1; clear BK843; clear HB; have HO_1 := n0_; have HO851 := n1_; have BK843 := n2_; have HB := n3_; clear n0_ n1_ n2_ n3_; clear hb ho28))
       go_loopg [33] kj5 (fun kq v33 w' => ∃ (x9_2 : List Int) (x33_2 : Int), v33 = .int .i64 x33_2 ∧ Aside0 (qfb.l0 kq a2 x9_2 l1 (l1.length : Int) x33_2 a0_0 a0_1 a0_2 = some (r1, r2)) ∧ Aside0 (kq ≤ kj5) ∧ Aside0 (Kd.R (Kd.int .u64) 22 w' w.heap.size (fun k_ => (w.heap.size ≤ k_)) v850 x9_2) ∧ Aside0 (Kd.V (Kd.int .u64) 22 w' w.heap.size (fun k_ => (P1_ k_ ∨ w.heap.size ≤ k_) ∧ some k_ ≠ (v850 : Value).ownBlock ∧ k_ ≠ gb843) (.slice A1 l1.length c1) l1) ∧ Aside0 (w'.heap[gb843]? = some (.cells #[.int .u64 a0_0, .int .i64 a0_1, .int .i64 a0_2] 24 (0, 0))) ∧ Aside0 (Below w.heap.size w w'))
       case atStart => exact ⟨(y849), (0), (by first | rfl | (simp; done) | (simp [*]; done)), H', ⟨Nat.le_refl _⟩, ⟨by (with_reducible repeat first | apply Kd.qoa | apply Kd.qna | apply Kd.R_drew); exact Kd.R_mono HO851.out (fun _ hk => hk.1)⟩, ⟨by (with_reducible repeat first | apply Kd.V_alloc | apply Kd.V_drewN | apply Kd.V_drew); exact Kd.V_mono HO_1.out (fun _ hk => ⟨hk.1.1, ⟨hk.2, hk.1.2⟩⟩)⟩, ⟨by (with_reducible repeat first | refine qfa ?_ _ | refine qia ?_ | refine qea ?_ _); exact BK843.out⟩, ⟨by repeat (first | (with_reducible first | exact HB.out | apply qda | apply qba | apply qca | refine qga ?_ GE843.out) | exact HB.out)⟩⟩
       case round =>
        clear H'; (try clear c1); (try clear c2); (try clear p2); (try clear c5); (try clear c5b0); (try clear c5b1); (try clear c6); (try clear c8); (try clear c11); (try clear c11b0); (try clear c11b1); (try clear c14); (try clear c23); (try clear c24); (try clear c24b0); (try clear c24b1); (try clear c25); (try clear c25b0); (try clear c25b1); (try clear hcz12_0); (try clear hcz12_1); (try clear hcz12_2); (try clear hcz17_0); (try clear hcz17_1); (try clear hcz17_2); (try clear hcz18_0); (try clear hcz18_1); (try clear hcz18_2); (try clear hcz26_0); (try clear hcz26_1); (try clear hcz26_2); (try clear hcz8_0); (try clear hcz8_1); (try clear hcz8_2); (try clear hfz12_0); (try clear hfz12_1); (try clear hfz12_2); (try clear hfz17_0); (try clear hfz17_1); (try clear hfz17_2); (try clear hfz18_0); (try clear hfz18_1); (try clear hfz18_2); (try clear hfz26_0); (try clear hfz26_1); (try clear hfz26_2); (try clear hfz8_0); (try clear hfz8_1); (try clear hfz8_2); (try clear p2)
        obtain ⟨x9_2, x33_2, rfl, HA, HK2, HO_9, HO_31, BK843, HB⟩ := hrel
        cases gk with
        | zero => exact absurd HA.out (by simp [qfb.l0])
        | succ k2 =>
         have H := HA.out
         clear HA
         simp only [qfb.l0] at H
         by_cases c29 : x33_2 < (l1.length : Int)
         ·rw [if_pos c29] at H
          have c29b0 : decide (x33_2 < (l1.length : Int)) = true := decide_eq_true c29
          clear c29
          by_cases c30 : 0 ≤ x33_2
          ·rw [if_pos c30] at H
           have c30b0 : decide (0 ≤ x33_2) = true := decide_eq_true c30
           clear c30
           by_cases c31 : x33_2 < (l1.length : Int)
           ·rw [if_pos c31] at H
            have c31b0 : decide (x33_2 < (l1.length : Int)) = true := decide_eq_true c31
            clear c31
            replace H := Option.bind_eq_some_iff.mp H
            obtain ⟨t853, A320, H⟩ := H
            try dsimp only at H
            have A32 := Aside0.mk A320
            clear A320
            by_cases c33 : x33_2 < (x9_2.length : Int)
            ·rw [if_pos c33] at H
             have c33b0 : decide (x33_2 < (x9_2.length : Int)) = true := decide_eq_true c33
             clear c33
             obtain ⟨y854, hy854⟩ : ∃ y_ : List Int, y_ = (x9_2.set (x33_2 : Int).toNat t853) := ⟨_, rfl⟩
             replace H : (qfb.l0 k2 a2 y854 l1 (l1.length : Int) (wrap64 (x33_2 + 1)) a0_0 a0_1 a0_2) = some (r1, r2) := by first | (rw [hy854]; with_reducible exact H) | (have H2_ := (Option.bind_some _ _).symm.trans H; rw [hy854]; with_reducible exact H2_) | (have H2_ := (Option.bind_some _ _).symm.trans H; with_reducible exact H2_) | with_reducible exact H | (rw [hy854]; exact H) | exact H
             have Ny854 := Aside0.mk hy854
             clear hy854
             have H' := Aside0.mk H
             clear H
             have p852 : 0 ≤ (x33_2 : Int) := of_decide_eq_true (by first | (with_reducible assumption) | assumption)
             have q852 : x33_2 < (l1.length : Int) := of_decide_eq_true (by first | (with_reducible assumption) | assumption)
             obtain ⟨ad852, e852, hx852_0⟩ := Kd.at_int (Kd.V_reads' HO_31.out).2.2 x33_2 p852 q852
             cases e852
             replace p852 := eq_true p852; replace q852 := eq_true q852
             have hcz35_0 : wr.cell? ⟨gb843, 0, none⟩ = some (.int .u64 a0_0) := (qja BK843.out 0).trans rfl
             have hcz35_1 : wr.cell? ⟨gb843, 1, none⟩ = some (.int .i64 a0_1) := (qja BK843.out 1).trans rfl
             have hcz35_2 : wr.cell? ⟨gb843, 2, none⟩ = some (.int .i64 a0_2) := (qja BK843.out 2).trans rfl
             have hfz35_0 := qha BK843.out 0
             have hfz35_1 := qha BK843.out 1
             have hfz35_2 := qha BK843.out 2
             go_wp2_with (first | ((with_reducible refine qqa (f := 148) rfl ?_); refine goesL_ (some 44) rfl rfl Try.func148 (by kernel_rfl) rfl #[.int .u64 a0_0, .int .u64 (rd l1 x33_2), .int .u64 a2] rfl (by (try simp only [qM1, qM2, qM3]); first | done | rfl) ?_; (with_reducible refine (qub.calls a0_0 (rd l1 x33_2) a2 t853 _ A32.out).mono ?_); rintro e w' ⟨rfl, ⟨nd, rfl⟩⟩; refine ⟨_, rfl, ?_⟩; (try (rw [drewN_self wr]; generalize hq_ : World.drewN wr _ = wr; have n0_ : Aside0 (Kd.V (Kd.int .u64) 22 wr w.heap.size (fun k_ => (P1_ k_ ∨ w.heap.size ≤ k_) ∧ some k_ ≠ (v850 : Value).ownBlock ∧ k_ ≠ gb843) (.slice (some ad852) l1.length c1) l1) := ⟨by rw [← hq_]; exact (by (with_reducible repeat first | apply Kd.V_alloc | apply Kd.V_drewN | apply Kd.V_drew); exact HO_31.out)⟩; have n1_ : Aside0 (Kd.R (Kd.int .u64) 22 wr w.heap.size (fun k_ => (w.heap.size ≤ k_)) v850 x9_2) := ⟨by rw [← hq_]; exact (by (with_reducible repeat first | apply Kd.qoa | apply Kd.qna | apply Kd.R_drew); exact HO_9.out)⟩; have n2_ : Aside0 (wr.heap[gb843]? = some (.cells #[.int .u64 a0_0, .int .i64 a0_1, .int .i64 a0_2] 24 (0, 0))) := ⟨by rw [← hq_]; exact (by (with_reducible repeat first | refine qfa ?_ _ | refine qia ?_ | refine qea ?_ _); exact BK843.out)⟩; have n3_ : Aside0 (Below w.heap.size w wr) := ⟨by rw [← hq_]; exact (by with_reducible repeat first | exact HB.out | apply qda | apply qba | apply qca | refine qga ?_ GE843.out)⟩; clear HO_31 HO_9 BK843 HB hq_; have HO_31 := n0_; have HO_9 := n1_; have BK843 := n2_; have HB := n3_; clear n0_ n1_ n2_ n3_)); have p34 : 0 ≤ (x33_2 : Int) := of_decide_eq_true (by first | (with_reducible assumption) | assumption); have q34 : (x33_2 : Int) < ((x9_2.length : Int) : Int) := of_decide_eq_true (by first | (with_reducible assumption) | assumption); obtain ⟨go34, co34, eo34, gb34, gl34, cl34, HG34⟩ := Kd.R_form HO_9.out (by omega); (first | cases eo34 | (injection eo34 with ea_ en_ ec_; (first | subst ea_ | (injection ea_ with ea_; subst ea_)); subst ec_; clear en_)); have GB34 := Aside0.mk gb34; have GG34 := Aside0.mk HG34; clear gb34 gl34 HG34; obtain ⟨hx34_0, hf34_0⟩ := Kd.R_celln 0 HO_9.out (x33_2 : Int) p34 q34; replace p34 := eq_true p34; replace q34 := eq_true q34; obtain ⟨hy36_, hz36_⟩ := Kd.R_celln 0 HO_9.out (x33_2 : Int) (of_decide_eq_true (by first | (with_reducible assumption) | assumption)) (of_decide_eq_true (by first | (with_reducible assumption) | assumption)); have HP36 := Kd.R_putg HO_9.out (x33_2 : Int) t853) | ((with_reducible refine gate_store (t := 22) (p := 45) rfl ?_); refine store_event (t := 22) (p := 45) (v := ?vo_w37) (w1 := (wr.setCell ⟨go34, (x33_2 : Int).toNat, none⟩ (.int .u64 t853))) ?hg ?ho ?hn ?hr ?_; (case ho => rfl); (case hg => rfl); (case hn => rfl); (case hr => first | (go_simp; done) | (go_simp; rfl)); intro w37 hw; have hg : wr.grownBy w37 (some go34) := (by rw [hw]; exact HP36.2); have hp_ : Kd.R (Kd.int .u64) 22 w37 w.heap.size (fun k_ => (w.heap.size ≤ k_)) (.slice (some ⟨go34, 0, none⟩) x9_2.length co34) y854 := (by rw [hw, Ny854.out]; exact HP36.1); clear HP36; have n0_ := Aside0.mk (hp_); have n1_ := Aside0.mk (Kd.V_afterv (v := (.slice (some ⟨go34, 0, none⟩) x9_2.length co34)) (v1 := (.slice (some ⟨go34, 0, none⟩) x9_2.length co34)) (ok := (fun k_ => (P1_ k_ ∨ w.heap.size ≤ k_) ∧ k_ ≠ gb843)) (by (with_reducible repeat first | apply Kd.V_alloc | apply Kd.V_drewN | apply Kd.V_drew); exact Kd.V_mono HO_31.out (fun _ hk => ⟨⟨hk.1, hk.2.2⟩, hk.2.1⟩)) hg (.inl rfl)); have n2_ := Aside0.mk (blk_grown (g := gb843) (o := .cells #[.int .u64 a0_0, .int .i64 a0_1, .int .i64 a0_2] 24 (0, 0)) (by (with_reducible repeat first | refine qfa ?_ _ | refine qia ?_ | refine qea ?_ _); exact BK843.out) hg (Kd.R_ne HO_9.out BK843.out (by decide))); have n3_ := Aside0.mk ((by rw [hw]; exact qga (HB.out) GB34.out : Below w.heap.size w w37)); clear HO_9; clear HO_31; clear BK843; clear HB; have HO_9 := n0_; have HO_31 := n1_; have BK843 := n2_; have HB := n3_; clear n0_ n1_ n2_ n3_; clear hg hw hp_))
             go_roundg k2
             case measure => have := HJ5.out; have := HK2.out; omega
             case rel => exact ⟨(y854), (wrap64 (x33_2 + 1)), (by first | rfl | (simp; done) | (simp [*]; done)), H', ⟨by have := HJ5.out; have := HK2.out; omega⟩, ⟨by (with_reducible repeat first | apply Kd.qoa | apply Kd.qna | apply Kd.R_drew); exact HO_9.out⟩, ⟨by (with_reducible repeat first | apply Kd.V_alloc | apply Kd.V_drewN | apply Kd.V_drew); exact Kd.V_mono HO_31.out (fun _ hk => ⟨hk.1.1, ⟨hk.2, hk.1.2⟩⟩)⟩, ⟨by (with_reducible repeat first | refine qfa ?_ _ | refine qia ?_ | refine qea ?_ _); exact BK843.out⟩, ⟨by repeat (first | (with_reducible first | exact HB.out | apply qda | apply qba | apply qca | refine qga ?_ GE843.out) | exact HB.out)⟩⟩
            ·rw [if_neg c33] at H
             exact absurd H (by simp)
           ·rw [if_neg c31] at H
            exact absurd H (by simp)
          ·rw [if_neg c30] at H
           exact absurd H (by simp)
         ·rw [if_neg c29] at H
          have c29b0 : decide (x33_2 < (l1.length : Int)) = false := decide_eq_false c29
          clear c29
          simp only [Option.some.injEq, Prod.mk.injEq] at H
          obtain ⟨rfl, rfl⟩ := H
          go_wp2
          go_ret2
          exact ⟨_, by first | rfl | (simp [errW_none, errW_some] <;> rfl) | (simp [*, errW_none, errW_some] <;> rfl), by (with_reducible repeat first | apply Kd.qoa | apply Kd.qna | apply Kd.R_drew); exact HO_9.out, by repeat (first | (with_reducible first | exact HB.out | apply qda | apply qba | apply qca | refine qga ?_ GE843.out) | exact HB.out)⟩
      ·rw [if_neg c25] at H
       exact absurd H (by simp)
     ·rw [if_neg c24] at H
      exact absurd H (by simp)
 ·rw [if_neg c5] at H
  have c5b0 : (t844 == 0) = false := beq_eq_false_iff_ne.mpr c5
  have c5b1 : (t844 != 0) = true := bne_iff_ne.mpr c5
  simp only [Option.some.injEq, Prod.mk.injEq] at H
  obtain ⟨rfl, rfl⟩ := H
  go_enter Try.func81, Try.ntmps81
  go_wp2_with (first | ((with_reducible refine gate_dst (N := 3) rfl ?_); refine box_event ?hg (N := 3) ?hd (cs := #[.int .u64 a0_0, .int .i64 a0_1, .int .i64 a0_2]) (t := 24) ?hr ?_; (case hd => rfl); (case hg => rfl); (case hr => first | (go_simp; done) | (go_simp; rfl)); intro gb843 hg w38 hbox hb; have n0_ := Aside0.mk (Kd.V_below (Kd.V_elderB (by (with_reducible repeat first | apply Kd.V_alloc | apply Kd.V_drewN | apply Kd.V_drew); exact HO1.out) gb843 (Nat.le_of_eq hg.symm)) hb); have n1_ := Aside0.mk (qma (by with_reducible repeat first | exact HB.out | apply qda | apply qba | apply qca) hb); have n2_ := Aside0.mk (hbox); have n3_ := Aside0.mk ((by rw [hg]; exact (qla (by with_reducible repeat first | exact HB.out | apply qda | apply qba | apply qca)) : w.heap.size ≤ gb843)); have n4_ := Aside0.mk ((by rw [hg]; exact (qla (by with_reducible repeat first | exact HB.out | apply qda | apply qba | apply qca)) : w.heap.size ≤ gb843)); clear HO1; clear HB; have HO1 := n0_; have HB := n1_; have BK843 := n2_; have GW843 := n3_; have GE843 := n4_; clear n0_ n1_ n2_ n3_ n4_; clear hb hbox hg; have hcz39_0 : w38.cell? ⟨gb843, 0, none⟩ = some (.int .u64 a0_0) := (qja BK843.out 0).trans rfl; have hcz39_1 : w38.cell? ⟨gb843, 1, none⟩ = some (.int .i64 a0_1) := (qja BK843.out 1).trans rfl; have hcz39_2 : w38.cell? ⟨gb843, 2, none⟩ = some (.int .i64 a0_2) := (qja BK843.out 2).trans rfl; have hfz39_0 := qha BK843.out 0; have hfz39_1 := qha BK843.out 1; have hfz39_2 := qha BK843.out 2) | ((with_reducible refine qqa (f := 64) rfl ?_); refine goesL_ (some 13) rfl rfl Try.func64 (by kernel_rfl) rfl #[.agg #[.int .u64 a0_0, .int .i64 a0_1, .int .i64 a0_2]] rfl (by (try simp only [qM1, qM2, qM3]); first | done | rfl) ?_; (with_reducible refine (qab.calls k a0_0 a0_1 a0_2 t844 _ A4.out).mono ?_); rintro e w40 ⟨rfl, hb⟩; refine ⟨_, rfl, ?_⟩; have n0_ := Aside0.mk (Kd.V_below (by (with_reducible repeat first | apply Kd.V_alloc | apply Kd.V_drewN | apply Kd.V_drew); exact HO1.out) hb); have n1_ := Aside0.mk (qpa (g := gb843) (o := .cells #[.int .u64 a0_0, .int .i64 a0_1, .int .i64 a0_2] 24 (0, 0)) (by (with_reducible repeat first | refine qfa ?_ _ | refine qia ?_ | refine qea ?_ _); exact BK843.out) hb); have n2_ := Aside0.mk (qma (by with_reducible repeat first | exact HB.out | apply qda | apply qba | apply qca | refine qga ?_ GE843.out) hb); clear HO1; clear BK843; clear HB; have HO1 := n0_; have BK843 := n1_; have HB := n2_; clear n0_ n1_ n2_; (try clear hb); (try clear hb2); (try clear hk); (try clear hi)))
  go_ret2
  exact ⟨_, by first | rfl | (simp [errW_none, errW_some] <;> rfl) | (simp [*, errW_none, errW_some] <;> rfl), by first | exact Kd.R_nil _ _ _ _ _ | exact Kd.N_nil _ _ _ _ _ | exact Kd.V_nil _ _ _ _ _ | exact Kd.Q_nil _ _ _ _ _ | exact Kd.S_nil _ _ _ _ _, by repeat (first | (with_reducible first | exact HB.out | apply qda | apply qba | apply qca | refine qga ?_ GE843.out) | exact HB.out)⟩
mutual
def qza.l0 : Nat → Int → List (S86) → List Int → List (S86) → Int → Int → Option (List Int)
 | 0, _, _, _, _, _, _ => none
 | k + 1, x0, x1, x5, x16, x17, x18 => if x18 < x17 then (if 0 ≤ x18 then (if x18 < (x16.length : Int) then (if x18 < (x5.length : Int) then (qza.l0 k x0 x1 (x5.set (x18 : Int).toNat ((rd_T86 x16 x18).f1)) x16 x17 (wrap64 (x18 + 1))) else (none)) else (none)) else (none)) else (qza.l1 k x0 x1 x5 1)
def qza.l1 : Nat → Int → List (S86) → List Int → Int → Option (List Int)
 | 0, _, _, _, _ => none
 | k + 1, x0, x1, x5, x8 => if x8 < (x1.length : Int) then (qza.l2 k x0 x1 x5 x8 (wrap64 ((x1.length : Int) - 1))) else (qza.l3 k x0 x1 x5 ([] : List Int) (wrap64 ((x1.length : Int) - 1)))
def qza.l2 : Nat → Int → List (S86) → List Int → Int → Int → Option (List Int)
 | 0, _, _, _, _, _ => none
 | k + 1, x0, x1, x5, x8, x9 => if x9 ≥ x8 then (if 0 ≤ x9 then (if x9 < (x1.length : Int) then (if 0 ≤ (wrap64 (x9 - x8)) then (if (wrap64 (x9 - x8)) < (x1.length : Int) then ((qsb.f x0 ((rd_T86 x1 x9).f0) ((rd_T86 x1 (wrap64 (x9 - x8))).f0)).bind fun t907 => (if x9 < (x5.length : Int) then (if 0 ≤ (wrap64 (x9 - 1)) then (if (wrap64 (x9 - 1)) < (x5.length : Int) then ((qsb.f x0 (rd x5 x9) (rd x5 (wrap64 (x9 - 1)))).bind fun t910 => ((qec.f k x0 t907).bind fun t911 => ((qub.f x0 t910 t911).bind fun t912 => (qza.l2 k x0 x1 (x5.set (x9 : Int).toNat t912) x8 (wrap64 (x9 - 1)))))) else (none)) else (none)) else (none))) else (none)) else (none)) else (none)) else (none)) else (qza.l1 k x0 x1 x5 (wrap64 (x8 + 1)))
def qza.l3 : Nat → Int → List (S86) → List Int → List Int → Int → Option (List Int)
 | 0, _, _, _, _, _ => none
 | k + 1, x0, x1, x5, x11, x12 => if x12 ≥ 0 then (if 0 ≤ x12 then (if x12 < (x1.length : Int) then ((qsb.f x0 0 ((rd_T86 x1 x12).f0)).bind fun t915 => ((qsa.f k x0 x11 (([t915, 1] : List Int))).bind fun t919 => (if x12 < (x5.length : Int) then ((qic.f k x0 t919 (([rd x5 x12] : List Int))).bind fun t926 => (qza.l3 k x0 x1 x5 t926 (wrap64 (x12 - 1)))) else (none)))) else (none)) else (none)) else ((qxa.f k x11).bind fun t929 => (some t929))
end
def qza.f (k : Nat) (a0 : Int) (l1 : List (S86)) : Option (List Int) := if 0 ≤ (l1.length : Int) then (if ((l1.length : Int) : Int).toNat ≤ 35184372088832 then (qza.l0 k a0 l1 (List.replicate ((l1.length : Int) : Int).toNat 0) l1 (l1.length : Int) 0) else (none)) else (none)
def qza.T13 : Bool × List (List Nat × List Nat) := (true, [([], []), ([], []), ([], []), ([1, 2], [1, 2]), ([3], [3]), ([4], [4]), ([], []), ([], []), ([], []), ([7, 8], [7, 8]), ([6, 9], [6, 9]), ([10], [10]), ([11], [11]), ([0, 5, 12], [0, 5, 12]), ([13, 13, 0, 1, 2, 3, 4, 5, 6, 7, 8, 9, 10, 11, 12, 13], [13])])
def qza.B13 : List Nat := [0, 0, 0, 6, 14, 30, 0, 0, 0, 384, 960, 1984, 4032, 8191, 16383]
theorem qza.tab13 : rtab .any (opsOf Try.f149 13) = qza.T13 := by kernel_rfl
theorem qza.bits13 : waitsOk qza.T13.2 qza.B13 = true := by kernel_rfl
def qza.T14 : Bool × List (List Nat × List Nat) := (true, [([], []), ([], []), ([], []), ([], []), ([], []), ([], []), ([4, 5], [4, 5]), ([6], [6]), ([], []), ([], []), ([9], [9]), ([8, 10], [8, 10]), ([11], [11]), ([3, 7, 12], [3, 7, 12]), ([], []), ([], []), ([14, 15, 13], [14, 15]), ([2, 13, 16, 16], [2, 13, 16]), ([0, 1, 0, 1, 2, 3, 4, 5, 6, 7, 8, 9, 10, 11, 12, 13, 14, 15, 16, 17], [0, 1]), ([18, 17, 17, 0, 1, 2, 3, 4, 5, 6, 7, 8, 9, 10, 11, 12, 13, 14, 15, 16, 17], [17, 18])])
def qza.B14 : List Nat := [0, 0, 0, 0, 0, 0, 48, 112, 0, 0, 512, 1792, 3840, 8184, 0, 0, 65528, 131068, 262143, 524287]
theorem qza.tab14 : rtab .any (opsOf Try.f149 14) = qza.T14 := by kernel_rfl
theorem qza.bits14 : waitsOk qza.T14.2 qza.B14 = true := by kernel_rfl
theorem qza.calls (k : Nat) (a0 : Int) (A1 : Option Addr) (c1 : Nat) (l1 : List (S86)) (r : List Int) (w : World) (hr1 : Kd.C k86 w A1 l1.length l1) (hc1 : l1.length ≤ c1) (h : qza.f k a0 l1 = some r) :
  Calls Try.prog 149 #[.int .u64 a0, .slice A1 l1.length c1] w fun e w' => ∃ v0_ : Value, e = .returned (v0_) ∧ Kd.R (Kd.int .u64) 22 w' w.heap.size (fun _ => True) v0_ r ∧ Below w.heap.size w w' := by
 have hu86 := Try.underlying86
 have HR1 := Aside0.mk hr1
 have HC1 := Aside0.mk hc1
 clear hr1 hc1
 have HB := Aside0.mk (Below.refl w.heap.size w)
 have H : (if 0 ≤ (l1.length : Int) then (if ((l1.length : Int) : Int).toNat ≤ 35184372088832 then (qza.l0 k a0 l1 (List.replicate ((l1.length : Int) : Int).toNat 0) l1 (l1.length : Int) 0) else (none)) else (none)) = some r := h
 clear h
 by_cases c3 : 0 ≤ (l1.length : Int)
 ·rw [if_pos c3] at H
  have c3b0 := eq_true c3
  have c3b1 : decide (0 ≤ (l1.length : Int)) = true := decide_eq_true c3
  clear c3
  by_cases c4 : ((l1.length : Int) : Int).toNat ≤ 35184372088832
  ·rw [if_pos c4] at H
   have c4b0 := eq_true c4
   have c4b1 : decide (((l1.length : Int) : Int).toNat ≤ 35184372088832) = true := decide_eq_true c4
   clear c4
   obtain ⟨y899, hy899⟩ : ∃ y_ : List Int, y_ = (List.replicate ((l1.length : Int) : Int).toNat 0) := ⟨_, rfl⟩
   replace H : (qza.l0 k a0 l1 y899 l1 (l1.length : Int) 0) = some r := by first | (rw [hy899]; with_reducible exact H) | (have H2_ := (Option.bind_some _ _).symm.trans H; rw [hy899]; with_reducible exact H2_) | (have H2_ := (Option.bind_some _ _).symm.trans H; with_reducible exact H2_) | with_reducible exact H | (rw [hy899]; exact H) | exact H
   have Ny899 := Aside0.mk hy899
   clear hy899
   have H' := Aside0.mk H
   clear H
   go_enter Try.func149, Try.ntmps149
   go_wp2_with (first | ((with_reducible refine gate_dst (N := 15) rfl ?_); refine Kd.R_make (Kd.int .u64) _ 22 rfl (N := 15) rfl 31 _ _ rfl (l1.length : Int) rfl rfl Try.underlying31 (.int .u64 0) 8 info22 rfl (by decide) (by omega) 0 (ok := fun _ => True) (okp := fun _ => True) rfl (fun _ hk => hk) trivial (of_decide_eq_true (by first | (with_reducible assumption) | assumption)) (Nat.le_trans (Nat.mul_le_mul_right _ (of_decide_eq_true (by first | (with_reducible assumption) | assumption) : (l1.length : Int).toNat ≤ 35184372088832)) (by omega)) (Below.refl _ _) (Nat.le_refl _) ?_; intro v900 w5 ho6 hb hg_ hnew_; clear hg_ hnew_; (first | rw [← Ny899.out] at ho6 | (simp only [Int.reduceToNat] at ho6; rw [← Ny899.out] at ho6)); have n0_ := Aside0.mk (Kd.R_lower ho6 (qla (by with_reducible repeat first | exact HB.out | apply qda | apply qba | apply qca))); have n1_ := Aside0.mk (qma (by with_reducible repeat first | exact HB.out | apply qda | apply qba | apply qca) hb); clear HB; have HO901 := n0_; have HB := n1_; clear n0_ n1_; clear hb ho6))
   go_loopg [18] k (fun kq v18 w' => ∃ (x5_1 : List Int) (x18_1 : Int), v18 = .int .i64 x18_1 ∧ Aside0 (qza.l0 kq a0 l1 x5_1 l1 (l1.length : Int) x18_1 = some r) ∧ Aside0 (kq ≤ k) ∧ Aside0 (Kd.R (Kd.int .u64) 22 w' w.heap.size (fun _ => True) v900 x5_1) ∧ Aside0 (Below w.heap.size w w'))
   case atStart => exact ⟨(y899), (0), (by first | rfl | (simp; done) | (simp [*]; done)), H', ⟨Nat.le_refl _⟩, ⟨by (with_reducible repeat first | apply Kd.qoa | apply Kd.qna | apply Kd.R_drew); exact HO901.out⟩, ⟨by repeat (first | (with_reducible first | exact HB.out | apply qda | apply qba | apply qca) | exact HB.out)⟩⟩
   case round =>
    clear H'; (try clear c1); (try clear p2); (try clear c3); (try clear c3b0); (try clear c3b1); (try clear c4); (try clear c4b0); (try clear c4b1)
    obtain ⟨x5_1, x18_1, rfl, HA, HK1, HO_5, HB⟩ := hrel
    cases gk with
    | zero => exact absurd HA.out (by simp [qza.l0])
    | succ k1 =>
     have H := HA.out
     clear HA
     simp only [qza.l0] at H
     by_cases c7 : x18_1 < (l1.length : Int)
     ·rw [if_pos c7] at H
      have c7b0 : decide (x18_1 < (l1.length : Int)) = true := decide_eq_true c7
      clear c7
      by_cases c8 : 0 ≤ x18_1
      ·rw [if_pos c8] at H
       have c8b0 : decide (0 ≤ x18_1) = true := decide_eq_true c8
       clear c8
       by_cases c9 : x18_1 < (l1.length : Int)
       ·rw [if_pos c9] at H
        have c9b0 : decide (x18_1 < (l1.length : Int)) = true := decide_eq_true c9
        clear c9
        by_cases c10 : x18_1 < (x5_1.length : Int)
        ·rw [if_pos c10] at H
         have c10b0 : decide (x18_1 < (x5_1.length : Int)) = true := decide_eq_true c10
         clear c10
         obtain ⟨y904, hy904⟩ : ∃ y_ : List Int, y_ = (x5_1.set (x18_1 : Int).toNat ((rd_T86 l1 x18_1).f1)) := ⟨_, rfl⟩
         replace H : (qza.l0 k1 a0 l1 y904 l1 (l1.length : Int) (wrap64 (x18_1 + 1))) = some r := by first | (rw [hy904]; with_reducible exact H) | (have H2_ := (Option.bind_some _ _).symm.trans H; rw [hy904]; with_reducible exact H2_) | (have H2_ := (Option.bind_some _ _).symm.trans H; with_reducible exact H2_) | with_reducible exact H | (rw [hy904]; exact H) | exact H
         have Ny904 := Aside0.mk hy904
         clear hy904
         have H' := Aside0.mk H
         clear H
         have p902 : 0 ≤ (x18_1 : Int) := of_decide_eq_true (by first | (with_reducible assumption) | assumption)
         have q902 : x18_1 < (l1.length : Int) := of_decide_eq_true (by first | (with_reducible assumption) | assumption)
         obtain ⟨ad902, e902, hx902_0, hx902_1⟩ := at_T86 HR1.out x18_1 p902 q902
         cases e902
         replace hx902_0 := (HB.out.cell (World.block_lt_of_cell? w _ hx902_0)).trans hx902_0
         replace hx902_1 := (HB.out.cell (World.block_lt_of_cell? w _ hx902_1)).trans hx902_1
         replace p902 := eq_true p902; replace q902 := eq_true q902
         go_wp2_with (first | ((with_reducible refine gate_dst (N := 7) rfl ?_); refine box_event ?hg (N := 7) ?hd (cs := #[.int .u64 0, .int .u64 0]) (t := 86) ?hr ?_; (case hd => rfl); (case hg => rfl); (case hr => first | (go_simp; done) | (go_simp; rfl)); intro gb903 hg w12 hbox hb; have n0_ := Aside0.mk (Kd.R_below (by (with_reducible repeat first | apply Kd.qoa | apply Kd.qna | apply Kd.R_drew); exact HO_5.out) hb); have n1_ := Aside0.mk (qma (by with_reducible repeat first | exact HB.out | apply qda | apply qba | apply qca) hb); have n2_ := Aside0.mk (hbox); have n3_ := Aside0.mk ((by rw [hg]; exact (qla (by with_reducible repeat first | exact HB.out | apply qda | apply qba | apply qca)) : w.heap.size ≤ gb903)); have n4_ := Aside0.mk ((by rw [hg]; exact (qla (by with_reducible repeat first | exact HB.out | apply qda | apply qba | apply qca)) : w.heap.size ≤ gb903)); clear HO_5; clear HB; have HO_5 := n0_; have HB := n1_; have BK903 := n2_; have GW903 := n3_; have GE903 := n4_; clear n0_ n1_ n2_ n3_ n4_; clear hb hbox hg; have hcz13_0 : w12.cell? ⟨gb903, 0, none⟩ = some (.int .u64 0) := (qja BK903.out 0).trans rfl; have hcz13_1 : w12.cell? ⟨gb903, 1, none⟩ = some (.int .u64 0) := (qja BK903.out 1).trans rfl; have hfz13_0 := qha BK903.out 0; have hfz13_1 := qha BK903.out 1) | ((with_reducible refine gate_store (t := 86) (p := 7) rfl ?_); refine store_event (t := 86) (p := 7) (v := ?vo_w14) (w1 := ((w12.setCell ⟨gb903, 0, none⟩ (.int .u64 ((rd_T86 l1 x18_1).f0))).setCell ⟨gb903, 1, none⟩ (.int .u64 ((rd_T86 l1 x18_1).f1)))) ?hg ?ho ?hn ?hr ?_; (case ho => rfl); (case hg => rfl); (case hn => rfl); (case hr => first | (go_simp; done) | (go_simp; rfl)); intro w14 hw; have n0_ : Aside0 (Kd.R (Kd.int .u64) 22 w14 w.heap.size (fun _ => True) v900 x5_1) := ⟨(by rw [hw]; exact (by (with_reducible repeat first | apply Kd.qoa | apply Kd.qna | apply Kd.R_drew); exact Kd.R_mono (Kd.R_far (p := ⟨gb903, 1, none⟩) (Kd.R_far (p := ⟨gb903, 0, none⟩) (Kd.R_types HO_5.out BK903.out (by decide)) (fun _ hk => hk.2) (.int .u64 ((rd_T86 l1 x18_1).f0))) (fun _ hk => hk.2) (.int .u64 ((rd_T86 l1 x18_1).f1))) (fun _ hk => trivial)))⟩; have n1_ : Aside0 (w14.heap[gb903]? = some (.cells #[.int .u64 ((rd_T86 l1 x18_1).f0), .int .u64 ((rd_T86 l1 x18_1).f1)] 86 (0, 0))) := ⟨(by rw [hw]; exact (by (with_reducible repeat first | refine qfa ?_ _ | refine qia ?_ | refine qea ?_ _); refine blk_put (cs := #[.int .u64 ((rd_T86 l1 x18_1).f0), .int .u64 0]) ?_ 1 _ rfl; (with_reducible repeat first | refine qfa ?_ _ | refine qia ?_ | refine qea ?_ _); refine blk_put (cs := #[.int .u64 0, .int .u64 0]) ?_ 0 _ rfl; (with_reducible repeat first | refine qfa ?_ _ | refine qia ?_ | refine qea ?_ _); exact BK903.out))⟩; have n2_ : Aside0 (Below w.heap.size w w14) := ⟨(by rw [hw]; exact (by with_reducible repeat first | exact HB.out | apply qda | apply qba | apply qca | refine qga ?_ GE903.out))⟩; clear hw; clear HO_5; clear BK903; clear HB; have HO_5 := n0_; have BK903 := n1_; have HB := n2_; clear n0_ n1_ n2_; have hcz15_0 : w14.cell? ⟨gb903, 0, none⟩ = some (.int .u64 ((rd_T86 l1 x18_1).f0)) := (qja BK903.out 0).trans rfl; have hcz15_1 : w14.cell? ⟨gb903, 1, none⟩ = some (.int .u64 ((rd_T86 l1 x18_1).f1)) := (qja BK903.out 1).trans rfl; have hfz15_0 := qha BK903.out 0; have hfz15_1 := qha BK903.out 1; have p11 : 0 ≤ (x18_1 : Int) := of_decide_eq_true (by first | (with_reducible assumption) | assumption); have q11 : (x18_1 : Int) < ((x5_1.length : Int) : Int) := of_decide_eq_true (by first | (with_reducible assumption) | assumption); obtain ⟨go11, co11, eo11, gb11, gl11, cl11, HG11⟩ := Kd.R_form HO_5.out (by omega); (first | cases eo11 | (injection eo11 with ea_ en_ ec_; (first | subst ea_ | (injection ea_ with ea_; subst ea_)); subst ec_; clear en_)); have GB11 := Aside0.mk gb11; have GG11 := Aside0.mk HG11; clear gb11 gl11 HG11; obtain ⟨hx11_0, hf11_0⟩ := Kd.R_celln 0 HO_5.out (x18_1 : Int) p11 q11; replace p11 := eq_true p11; replace q11 := eq_true q11; obtain ⟨hy16_, hz16_⟩ := Kd.R_celln 0 HO_5.out (x18_1 : Int) (of_decide_eq_true (by first | (with_reducible assumption) | assumption)) (of_decide_eq_true (by first | (with_reducible assumption) | assumption)); have HP16 := Kd.R_putg HO_5.out (x18_1 : Int) ((rd_T86 l1 x18_1).f1)) | ((with_reducible refine gate_store (t := 22) (p := 27) rfl ?_); refine store_event (t := 22) (p := 27) (v := ?vo_w17) (w1 := (w14.setCell ⟨go11, (x18_1 : Int).toNat, none⟩ (.int .u64 ((rd_T86 l1 x18_1).f1)))) ?hg ?ho ?hn ?hr ?_; (case ho => rfl); (case hg => rfl); (case hn => rfl); (case hr => first | (go_simp; done) | (go_simp; rfl)); intro w17 hw; have hg : w14.grownBy w17 (some go11) := (by rw [hw]; exact HP16.2); have hp_ : Kd.R (Kd.int .u64) 22 w17 w.heap.size (fun _ => True) (.slice (some ⟨go11, 0, none⟩) x5_1.length co11) y904 := (by rw [hw, Ny904.out]; exact HP16.1); clear HP16; have n0_ := Aside0.mk (hp_); have n1_ := Aside0.mk (blk_grown (g := gb903) (o := .cells #[.int .u64 ((rd_T86 l1 x18_1).f0), .int .u64 ((rd_T86 l1 x18_1).f1)] 86 (0, 0)) (by (with_reducible repeat first | refine qfa ?_ _ | refine qia ?_ | refine qea ?_ _); exact BK903.out) hg (Kd.R_ne HO_5.out BK903.out (by decide))); have n2_ := Aside0.mk ((by rw [hw]; exact qga (HB.out) GB11.out : Below w.heap.size w w17)); clear HO_5; clear BK903; clear HB; have HO_5 := n0_; have BK903 := n1_; have HB := n2_; clear n0_ n1_ n2_; clear hg hw hp_))
         go_roundg k1
         case measure => have := HK1.out; omega
         case rel => exact ⟨(y904), (wrap64 (x18_1 + 1)), (by first | rfl | (simp; done) | (simp [*]; done)), H', ⟨by have := HK1.out; omega⟩, ⟨by (with_reducible repeat first | apply Kd.qoa | apply Kd.qna | apply Kd.R_drew); exact HO_5.out⟩, ⟨by repeat (first | (with_reducible first | exact HB.out | apply qda | apply qba | apply qca | refine qga ?_ GE903.out) | exact HB.out)⟩⟩
        ·rw [if_neg c10] at H
         exact absurd H (by simp)
       ·rw [if_neg c9] at H
        exact absurd H (by simp)
      ·rw [if_neg c8] at H
       exact absurd H (by simp)
     ·rw [if_neg c7] at H
      have c7b0 : decide (x18_1 < (l1.length : Int)) = false := decide_eq_false c7
      clear c7
      have H' := Aside0.mk H
      clear H
      go_wp2
      go_loopg [8] k1 (fun kq v8 w' => ∃ (x5_2 : List Int) (x8_2 : Int), v8 = .int .i64 x8_2 ∧ Aside0 (qza.l1 kq a0 l1 x5_2 x8_2 = some r) ∧ Aside0 (kq ≤ k1) ∧ Aside0 (Kd.R (Kd.int .u64) 22 w' w.heap.size (fun _ => True) v900 x5_2) ∧ Aside0 (Below w.heap.size w w'))
      case atStart => exact ⟨(x5_1), (1), (by first | rfl | (simp; done) | (simp [*]; done)), H', ⟨Nat.le_refl _⟩, ⟨by (with_reducible repeat first | apply Kd.qoa | apply Kd.qna | apply Kd.R_drew); exact HO_5.out⟩, ⟨by repeat (first | (with_reducible first | exact HB.out | apply qda | apply qba | apply qca) | exact HB.out)⟩⟩
      case round =>
       clear H'; (try clear c1); (try clear p1); (try clear q1); (try clear hx1); (try clear p2); (try clear c3); (try clear c3b0); (try clear c3b1); (try clear c4); (try clear c4b0); (try clear c4b1); (try clear p6); (try clear c7); (try clear c7b0); (try clear c8); (try clear c8b0); (try clear c9); (try clear c9b0); (try clear p9); (try clear q9); (try clear hx9); (try clear c10); (try clear c10b0); (try clear p11); (try clear q11); (try clear hx11); (try clear hf11); (try clear c14); (try clear hcz13_0); (try clear hcz13_1); (try clear hcz15_0); (try clear hcz15_1); (try clear hfz13_0); (try clear hfz13_1); (try clear hfz15_0); (try clear hfz15_1); (try clear hx11_0); (try clear hx902_0); (try clear hx902_1); (try clear p11); (try clear p2); (try clear p902); (try clear q11); (try clear q902)
       obtain ⟨x5_2, x8_2, rfl, HA, HK2, HO_5, HB⟩ := hrel
       cases gk with
       | zero => exact absurd HA.out (by simp [qza.l1])
       | succ k2 =>
        have H := HA.out
        clear HA
        simp only [qza.l1] at H
        by_cases c18 : x8_2 < (l1.length : Int)
        ·rw [if_pos c18] at H
         have c18b0 : decide (x8_2 < (l1.length : Int)) = true := decide_eq_true c18
         clear c18
         have H' := Aside0.mk H
         clear H
         go_wp2
         go_loopg [9] k2 (fun kq v9 w' => ∃ (x5_3 : List Int) (x9_3 : Int), v9 = .int .i64 x9_3 ∧ Aside0 (qza.l2 kq a0 l1 x5_3 x8_2 x9_3 = some r) ∧ Aside0 (kq ≤ k2) ∧ Aside0 (Kd.R (Kd.int .u64) 22 w' w.heap.size (fun _ => True) v900 x5_3) ∧ Aside0 (Below w.heap.size w w'))
         case atStart => exact ⟨(x5_2), (wrap64 ((l1.length : Int) - 1)), (by first | rfl | (simp; done) | (simp [*]; done)), H', ⟨Nat.le_refl _⟩, ⟨by (with_reducible repeat first | apply Kd.qoa | apply Kd.qna | apply Kd.R_drew); exact HO_5.out⟩, ⟨by repeat (first | (with_reducible first | exact HB.out | apply qda | apply qba | apply qca) | exact HB.out)⟩⟩
         case round =>
          clear H'; (try clear c1); (try clear p1); (try clear q1); (try clear hx1); (try clear p2); (try clear c3); (try clear c3b0); (try clear c3b1); (try clear c4); (try clear c4b0); (try clear c4b1); (try clear p6); (try clear c7); (try clear c7b0); (try clear c8); (try clear c8b0); (try clear c9); (try clear c9b0); (try clear p9); (try clear q9); (try clear hx9); (try clear c10); (try clear c10b0); (try clear p11); (try clear q11); (try clear hx11); (try clear hf11); (try clear c14); (try clear c18); (try clear c18b0); (try clear hcz13_0); (try clear hcz13_1); (try clear hcz15_0); (try clear hcz15_1); (try clear hfz13_0); (try clear hfz13_1); (try clear hfz15_0); (try clear hfz15_1); (try clear hx11_0); (try clear hx902_0); (try clear hx902_1); (try clear p1); (try clear p11); (try clear p2); (try clear p6); (try clear p9); (try clear p902); (try clear q1); (try clear q11); (try clear q9); (try clear q902)
          obtain ⟨x5_3, x9_3, rfl, HA, HK3, HO_5, HB⟩ := hrel
          cases gk with
          | zero => exact absurd HA.out (by simp [qza.l2])
          | succ k3 =>
           have H := HA.out
           clear HA
           simp only [qza.l2] at H
           by_cases c19 : x9_3 ≥ x8_2
           ·rw [if_pos c19] at H
            have c19b0 : decide (x8_2 ≤ x9_3) = true := decide_eq_true c19
            clear c19
            by_cases c20 : 0 ≤ x9_3
            ·rw [if_pos c20] at H
             have c20b0 : decide (0 ≤ x9_3) = true := decide_eq_true c20
             clear c20
             by_cases c21 : x9_3 < (l1.length : Int)
             ·rw [if_pos c21] at H
              have c21b0 : decide (x9_3 < (l1.length : Int)) = true := decide_eq_true c21
              clear c21
              obtain ⟨ji22, hji22⟩ : ∃ j_ : Int, (wrap64 (x9_3 - x8_2)) = j_ := ⟨_, rfl⟩
              replace H : (if 0 ≤ (ji22) then (if (ji22) < (l1.length : Int) then ((qsb.f a0 ((rd_T86 l1 x9_3).f0) ((rd_T86 l1 (ji22)).f0)).bind fun t907 => (if x9_3 < (x5_3.length : Int) then (if 0 ≤ (wrap64 (x9_3 - 1)) then (if (wrap64 (x9_3 - 1)) < (x5_3.length : Int) then ((qsb.f a0 (rd x5_3 x9_3) (rd x5_3 (wrap64 (x9_3 - 1)))).bind fun t910 => ((qec.f k3 a0 t907).bind fun t911 => ((qub.f a0 t910 t911).bind fun t912 => (qza.l2 k3 a0 l1 (x5_3.set (x9_3 : Int).toNat t912) x8_2 (wrap64 (x9_3 - 1)))))) else (none)) else (none)) else (none))) else (none)) else (none)) = some r := by first | (rw [hji22] at H; exact H) | (simp only [hji22] at H ⊢; exact H)
              have hji22w : (IntKind.i64.wrap (x9_3 - x8_2)) = ji22 := (i64_w _).trans hji22
              by_cases c23 : 0 ≤ (ji22)
              ·rw [if_pos c23] at H
               have c23b0 : decide (0 ≤ (ji22)) = true := decide_eq_true c23
               clear c23
               by_cases c24 : (ji22) < (l1.length : Int)
               ·rw [if_pos c24] at H
                have c24b0 : decide ((ji22) < (l1.length : Int)) = true := decide_eq_true c24
                clear c24
                replace H := Option.bind_eq_some_iff.mp H
                obtain ⟨t907, A250, H⟩ := H
                try dsimp only at H
                have A25 := Aside0.mk A250
                clear A250
                by_cases c26 : x9_3 < (x5_3.length : Int)
                ·rw [if_pos c26] at H
                 have c26b0 : decide (x9_3 < (x5_3.length : Int)) = true := decide_eq_true c26
                 clear c26
                 obtain ⟨ji27, hji27⟩ : ∃ j_ : Int, (wrap64 (x9_3 - 1)) = j_ := ⟨_, rfl⟩
                 replace H : (if 0 ≤ (ji27) then (if (ji27) < (x5_3.length : Int) then ((qsb.f a0 (rd x5_3 x9_3) (rd x5_3 (ji27))).bind fun t910 => ((qec.f k3 a0 t907).bind fun t911 => ((qub.f a0 t910 t911).bind fun t912 => (qza.l2 k3 a0 l1 (x5_3.set (x9_3 : Int).toNat t912) x8_2 ji27)))) else (none)) else (none)) = some r := by first | (rw [hji27] at H; exact H) | (simp only [hji27] at H ⊢; exact H)
                 (try rw [hji27] at A25)
                 have hji27w : (IntKind.i64.wrap (x9_3 - 1)) = ji27 := (i64_w _).trans hji27
                 by_cases c28 : 0 ≤ (ji27)
                 ·rw [if_pos c28] at H
                  have c28b0 : decide (0 ≤ (ji27)) = true := decide_eq_true c28
                  clear c28
                  by_cases c29 : (ji27) < (x5_3.length : Int)
                  ·rw [if_pos c29] at H
                   have c29b0 : decide ((ji27) < (x5_3.length : Int)) = true := decide_eq_true c29
                   clear c29
                   replace H := Option.bind_eq_some_iff.mp H
                   obtain ⟨t910, A300, H⟩ := H
                   try dsimp only at H
                   have A30 := Aside0.mk A300
                   clear A300
                   replace H := Option.bind_eq_some_iff.mp H
                   obtain ⟨t911, A310, H⟩ := H
                   try dsimp only at H
                   have A31 := Aside0.mk A310
                   clear A310
                   replace H := Option.bind_eq_some_iff.mp H
                   obtain ⟨t912, A320, H⟩ := H
                   try dsimp only at H
                   have A32 := Aside0.mk A320
                   clear A320
                   obtain ⟨y913, hy913⟩ : ∃ y_ : List Int, y_ = (x5_3.set (x9_3 : Int).toNat t912) := ⟨_, rfl⟩
                   replace H : (qza.l2 k3 a0 l1 y913 x8_2 ji27) = some r := by first | (rw [hy913]; with_reducible exact H) | (have H2_ := (Option.bind_some _ _).symm.trans H; rw [hy913]; with_reducible exact H2_) | (have H2_ := (Option.bind_some _ _).symm.trans H; with_reducible exact H2_) | with_reducible exact H | (rw [hy913]; exact H) | exact H
                   have Ny913 := Aside0.mk hy913
                   clear hy913
                   have H' := Aside0.mk H
                   clear H
                   try go_wp2
                   have n0_ := Aside0.mk (Kd.R_drew HO_5.out)
                   have n1_ := Aside0.mk (qca HB.out)
                   clear HO_5 HB; have HO_5 := n0_; have HB := n1_; clear n0_ n1_
                   have p905 : 0 ≤ (x9_3 : Int) := of_decide_eq_true (by first | (with_reducible assumption) | assumption)
                   have q905 : x9_3 < (l1.length : Int) := of_decide_eq_true (by first | (with_reducible assumption) | assumption)
                   obtain ⟨ad905, e905, hx905_0, hx905_1⟩ := at_T86 HR1.out x9_3 p905 q905
                   have hw905_1 := hx905_1; have hw905_0 := hx905_0
                   cases e905
                   replace hx905_0 := (HB.out.cell (World.block_lt_of_cell? w _ hx905_0)).trans hx905_0
                   replace hx905_1 := (HB.out.cell (World.block_lt_of_cell? w _ hx905_1)).trans hx905_1
                   replace p905 := eq_true p905; replace q905 := eq_true q905
                   have p906 : 0 ≤ ((ji22) : Int) := of_decide_eq_true (by first | (with_reducible assumption) | assumption)
                   have q906 : (ji22) < (l1.length : Int) := of_decide_eq_true (by first | (with_reducible assumption) | assumption)
                   obtain ⟨ad906, e906, hx906_0, hx906_1⟩ := at_T86 HR1.out (ji22) p906 q906
                   have hw906_1 := hx906_1; have hw906_0 := hx906_0
                   obtain rfl : ad905 = ad906 := (by injection e906)
                   replace hx906_0 := (HB.out.cell (World.block_lt_of_cell? w _ hx906_0)).trans hx906_0
                   replace hx906_1 := (HB.out.cell (World.block_lt_of_cell? w _ hx906_1)).trans hx906_1
                   replace p906 := eq_true p906; replace q906 := eq_true q906
                   refine start_ (n := 15) (S := fun w' => w'.cell? (ad905.add ((x9_3).toNat * 2)) = some (.int .u64 ((rd_T86 l1 x9_3).f0)) ∧ w'.cell? ⟨(ad905.add ((x9_3).toNat * 2)).block, (ad905.add ((x9_3).toNat * 2)).off + 1, none⟩ = some (.int .u64 ((rd_T86 l1 x9_3).f1)) ∧ w'.cell? (ad905.add (((ji22)).toNat * 2)) = some (.int .u64 ((rd_T86 l1 (ji22)).f0)) ∧ w'.cell? ⟨(ad905.add (((ji22)).toNat * 2)).block, (ad905.add (((ji22)).toNat * 2)).off + 1, none⟩ = some (.int .u64 ((rd_T86 l1 (ji22)).f1))) (ds := []) #[false, false, false, false, false, false, false, false, false, false, false, false, false, false, false] (by kernel_rfl) rfl rfl ⟨((HB.out.cell (World.block_lt_of_cell? w _ hw905_0)).trans hw905_0), ((HB.out.cell (World.block_lt_of_cell? w _ hw905_1)).trans hw905_1), ((HB.out.cell (World.block_lt_of_cell? w _ hw906_0)).trans hw906_0), ((HB.out.cell (World.block_lt_of_cell? w _ hw906_1)).trans hw906_1)⟩ (fun hHeld => ?_); refine with_tabW qza.tab13 qza.bits13 (fun HT_ HW_ => ?_)
                   generalize wr.drew = w34 at HO_5 HB hx905_0 hx905_1 hx906_0 hx906_1 hHeld ⊢
                   refine pure_ (i := 0) (N := some 43) (v := ?_) (a' := ?_) #[true, false, false, false, false, false, false, false, false, false, false, false, false, false, false] rfl rfl (any_of HT_.out (by kernel_rfl)) (fun _ _ _ h => h) (Or.inl ⟨by rfl, ?_⟩) ?_ ?_
                   rotate_left; (intro w'; go_simp; with_reducible rfl); rotate_left; (simp only [Act.put, qS1, qS2, qS3, i64_w, i32_w]; rfl)
                   refine pure_ (i := 1) (N := some 44) (v := ?_) (a' := ?_) #[true, true, false, false, false, false, false, false, false, false, false, false, false, false, false] rfl rfl (any_of HT_.out (by kernel_rfl)) (fun _ _ _ h => h) (Or.inl ⟨by rfl, ?_⟩) ?_ ?_
                   rotate_left; (intro w'; go_simp; with_reducible rfl); rotate_left; (simp only [Act.put, qS1, qS2, qS3, i64_w, i32_w]; rfl)
                   refine pure_ (i := 2) (N := some 45) (v := ?_) (a' := ?_) #[true, true, true, false, false, false, false, false, false, false, false, false, false, false, false] rfl rfl (any_of HT_.out (by kernel_rfl)) (fun _ _ _ h => h) (Or.inl ⟨by rfl, ?_⟩) ?_ ?_
                   rotate_left; (intro w'; go_simp; with_reducible rfl); rotate_left; (simp only [Act.put, qS1, qS2, qS3, i64_w, i32_w]; rfl)
                   refine pure_ (i := 3) (N := some 46) (v := ?_) (a' := ?_) #[true, true, true, true, false, false, false, false, false, false, false, false, false, false, false] rfl rfl (any_of HT_.out (by kernel_rfl)) (fun _ _ _ h => h) (Or.inl ⟨by rfl, ?_⟩) ?_ ?_
                   rotate_left; (intro w'; go_simp; with_reducible rfl); rotate_left; (simp only [Act.put, qS1, qS2, qS3, i64_w, i32_w]; rfl)
                   refine pure_ (i := 4) (N := some 47) (v := ?_) (a' := ?_) #[true, true, true, true, true, false, false, false, false, false, false, false, false, false, false] rfl rfl (any_of HT_.out (by kernel_rfl)) (fun _ _ _ h => h) (Or.inl ⟨by rfl, ?_⟩) ?_ ?_
                   rotate_left; (intro w'; go_simp; with_reducible rfl); rotate_left; (simp only [Act.put, qS1, qS2, qS3, i64_w, i32_w]; rfl)
                   refine pure_ (i := 6) (N := some 49) (v := ?_) (a' := ?_) #[true, true, true, true, true, false, true, false, false, false, false, false, false, false, false] rfl rfl (any_of HT_.out (by kernel_rfl)) (fun _ _ _ h => h) (Or.inl ⟨by rfl, ?_⟩) ?_ ?_
                   rotate_left; (intro w'; go_simp; with_reducible rfl); rotate_left; (simp only [Act.put, qS1, qS2, qS3, i64_w, i32_w]; rfl)
                   refine pure_ (i := 7) (N := some 50) (v := ?_) (a' := ?_) #[true, true, true, true, true, false, true, true, false, false, false, false, false, false, false] rfl rfl (any_of HT_.out (by kernel_rfl)) (fun _ _ _ h => h) (Or.inl ⟨by rfl, ?_⟩) ?_ ?_
                   rotate_left; (intro w'; go_simp; with_reducible rfl); rotate_left; (simp only [Act.put, qS1, qS2, qS3, i64_w, i32_w]; rfl)
                   refine pure_ (i := 8) (N := some 51) (v := ?_) (a' := ?_) #[true, true, true, true, true, false, true, true, true, false, false, false, false, false, false] rfl rfl (any_of HT_.out (by kernel_rfl)) (fun _ _ _ h => h) (Or.inl ⟨by rfl, ?_⟩) ?_ ?_
                   rotate_left; (intro w'; go_simp; with_reducible rfl); rotate_left; (simp only [Act.put, qS1, qS2, qS3, i64_w, i32_w]; rfl)
                   refine pure_ (i := 9) (N := some 52) (v := ?_) (a' := ?_) #[true, true, true, true, true, false, true, true, true, true, false, false, false, false, false] rfl rfl (any_of HT_.out (by kernel_rfl)) (fun _ _ _ h => h) (Or.inl ⟨by rfl, ?_⟩) ?_ ?_
                   rotate_left; (intro w'; go_simp; with_reducible rfl); rotate_left; (simp only [Act.put, qS1, qS2, qS3, i64_w, i32_w]; rfl)
                   refine pure_ (i := 10) (N := some 53) (v := ?_) (a' := ?_) #[true, true, true, true, true, false, true, true, true, true, true, false, false, false, false] rfl rfl (any_of HT_.out (by kernel_rfl)) (fun _ _ _ h => h) (Or.inl ⟨by rfl, ?_⟩) ?_ ?_
                   rotate_left; (intro w'; go_simp; with_reducible rfl); rotate_left; (simp only [Act.put, qS1, qS2, qS3, i64_w, i32_w]; rfl)
                   refine pure_ (i := 11) (N := some 54) (v := ?_) (a' := ?_) #[true, true, true, true, true, false, true, true, true, true, true, true, false, false, false] rfl rfl (any_of HT_.out (by kernel_rfl)) (fun _ _ _ h => h) (Or.inl ⟨by rfl, ?_⟩) ?_ ?_
                   rotate_left; (intro w'; go_simp; with_reducible rfl); rotate_left; (simp only [Act.put, qS1, qS2, qS3, i64_w, i32_w]; rfl)
                   refine take_ (i := 5) (N := some 48) (v := ?_) (a' := ?_) #[true, true, true, true, true, true, true, true, true, true, true, true, false, false, false] rfl rfl (take_ofW HT_.out HW_.out (by kernel_rfl)) (fun _ _ _ h => h) (Or.inl ⟨by rfl, ?_⟩) hHeld ?_ ?_
                   rotate_left; (rintro w' ⟨s0, s1, s2, s3⟩; go_simp; with_reducible rfl); rotate_left; (simp only [Act.put, qS1, qS2, qS3, i64_w, i32_w]; rfl)
                   refine take_ (i := 12) (N := some 55) (v := ?_) (a' := ?_) #[true, true, true, true, true, true, true, true, true, true, true, true, true, false, false] rfl rfl (take_ofW HT_.out HW_.out (by kernel_rfl)) (fun _ _ _ h => h) (Or.inl ⟨by rfl, ?_⟩) hHeld ?_ ?_
                   rotate_left; (rintro w' ⟨s0, s1, s2, s3⟩; go_simp; with_reducible rfl); rotate_left; (simp only [Act.put, qS1, qS2, qS3, i64_w, i32_w]; rfl)
                   refine one_ (i := 13) (N := some 56) #[true, true, true, true, true, true, true, true, true, true, true, true, true, true, false] rfl rfl (one_of HT_.out (by kernel_rfl)) (by decide) (fun K hK => ?_)
                   refine goes_ Try.func142 (by kernel_rfl) rfl #[.int .u64 a0, .int .u64 ((rd_T86 l1 x9_3).f0), .int .u64 ((rd_T86 l1 (ji22)).f0)] (by rfl) rfl rfl (by (try simp only [qM1, qM2, qM3]); first | done | (simp only [hji22]; rfl) | rfl | (simp only [List.length_drop, List.length_take]; rfl)) ?_
                   with_reducible refine (qsb.calls a0 ((rd_T86 l1 x9_3).f0) ((rd_T86 l1 (ji22)).f0) t907 _ A25.out).mono ?_
                   rintro e w' ⟨rfl, ⟨nd, rfl⟩⟩
                   refine ⟨_, rfl, ?_⟩
                   refine hK.out _ _ ⟨((HB.out.cell (World.block_lt_of_cell? w _ hw905_0)).trans hw905_0), ((HB.out.cell (World.block_lt_of_cell? w _ hw905_1)).trans hw905_1), ((HB.out.cell (World.block_lt_of_cell? w _ hw906_0)).trans hw906_0), ((HB.out.cell (World.block_lt_of_cell? w _ hw906_1)).trans hw906_1)⟩ (fun hHeld => ?_)
                   clear hK K
                   refine norm_ (a' := ?_) ?_ ?_
                   rotate_left
                   ·show Act.put _ (some 56) _ = _
                    simp only [Act.put, qS1, qS2, qS3, i64_w, i32_w]
                    rfl
                   refine pure_ (i := 14) (N := some 10) (v := ?_) (a' := ?_) #[true, true, true, true, true, true, true, true, true, true, true, true, true, true, true] rfl rfl (any_of HT_.out (by kernel_rfl)) (fun _ _ _ h => h) (Or.inl ⟨by rfl, ?_⟩) ?_ ?_
                   rotate_left; (intro w'; go_simp; with_reducible rfl); rotate_left; (simp only [Act.put, qS1, qS2, qS3, i64_w, i32_w]; rfl)
                   refine done_ (done_of HT_.out (by kernel_rfl)) ?_
                   try go_wp2
                   (try (rw [drewN_self w34]; generalize hq_ : World.drewN w34 _ = w34; have n0_ : Aside0 (Kd.R (Kd.int .u64) 22 w34 w.heap.size (fun _ => True) v900 x5_3) := ⟨by rw [← hq_]; exact (by (with_reducible repeat first | apply Kd.qoa | apply Kd.qna | apply Kd.R_drew); exact HO_5.out)⟩; have n1_ : Aside0 (Below w.heap.size w w34) := ⟨by rw [← hq_]; exact (by with_reducible repeat first | exact HB.out | apply qda | apply qba | apply qca)⟩; clear HO_5 HB hq_; have HO_5 := n0_; have HB := n1_; clear n0_ n1_))
                   have n0_ := Aside0.mk (Kd.R_drew HO_5.out)
                   have n1_ := Aside0.mk (qca HB.out)
                   clear HO_5 HB; have HO_5 := n0_; have HB := n1_; clear n0_ n1_
                   obtain ⟨Ao36, co36, eo36⟩ := Kd.R_slice HO_5.out
                   (first | subst eo36 | (injection eo36 with f1_ f2_ f3_; have f4_ := f1_.symm; have f5_ := f3_.symm; clear f1_ f2_ f3_; subst f4_; subst f5_))
                   have p908 : 0 ≤ (x9_3 : Int) := of_decide_eq_true (by first | (with_reducible assumption) | assumption)
                   have q908 : x9_3 < (x5_3.length : Int) := of_decide_eq_true (by first | (with_reducible assumption) | assumption)
                   obtain ⟨ad908, e908, hx908_0⟩ := Kd.at_int (Kd.R_reads' HO_5.out).2.2 x9_3 p908 q908
                   cases e908
                   replace p908 := eq_true p908; replace q908 := eq_true q908
                   have p909 : 0 ≤ ((ji27) : Int) := of_decide_eq_true (by first | (with_reducible assumption) | assumption)
                   have q909 : (ji27) < (x5_3.length : Int) := of_decide_eq_true (by first | (with_reducible assumption) | assumption)
                   obtain ⟨ad909, e909, hx909_0⟩ := Kd.at_int (Kd.R_reads' HO_5.out).2.2 (ji27) p909 q909
                   obtain rfl : ad908 = ad909 := (by injection e909)
                   replace p909 := eq_true p909; replace q909 := eq_true q909
                   refine start_ (n := 20) (S := fun w' => w'.cell? (ad908.add (x9_3).toNat) = some (.int .u64 (rd x5_3 x9_3)) ∧ w'.cell? (ad908.add ((ji27)).toNat) = some (.int .u64 (rd x5_3 (ji27)))) (ds := [19]) #[false, false, false, false, false, false, false, false, false, false, false, false, false, false, false, false, false, false, false, false] (by kernel_rfl) rfl rfl ⟨hx908_0, hx909_0⟩ (fun hHeld => ?_); refine with_tabW qza.tab14 qza.bits14 (fun HT_ HW_ => ?_)
                   generalize w34.drew = w35 at HO_5 HB hx908_0 hx909_0 hHeld ⊢
                   refine pure_ (i := 0) (N := some 57) (v := ?_) (a' := ?_) #[true, false, false, false, false, false, false, false, false, false, false, false, false, false, false, false, false, false, false, false] rfl rfl (any_of HT_.out (by kernel_rfl)) (fun _ _ _ h => h) (Or.inl ⟨by rfl, ?_⟩) ?_ ?_
                   rotate_left; (intro w'; go_simp; with_reducible rfl); rotate_left; (simp only [Act.put, qS1, qS2, qS3, i64_w, i32_w]; rfl)
                   refine pure_ (i := 1) (N := some 58) (v := ?_) (a' := ?_) #[true, true, false, false, false, false, false, false, false, false, false, false, false, false, false, false, false, false, false, false] rfl rfl (any_of HT_.out (by kernel_rfl)) (fun _ _ _ h => h) (Or.inl ⟨by rfl, ?_⟩) ?_ ?_
                   rotate_left; (intro w'; go_simp; with_reducible rfl); rotate_left; (simp only [Act.put, qS1, qS2, qS3, i64_w, i32_w]; rfl)
                   refine pure_ (i := 2) (N := some 59) (v := ?_) (a' := ?_) #[true, true, true, false, false, false, false, false, false, false, false, false, false, false, false, false, false, false, false, false] rfl rfl (any_of HT_.out (by kernel_rfl)) (fun _ _ _ h => h) (Or.inl ⟨by rfl, ?_⟩) ?_ ?_
                   rotate_left; (intro w'; go_simp; with_reducible rfl); rotate_left; (simp only [Act.put, qS1, qS2, qS3, i64_w, i32_w]; rfl)
                   refine pure_ (i := 3) (N := some 60) (v := ?_) (a' := ?_) #[true, true, true, true, false, false, false, false, false, false, false, false, false, false, false, false, false, false, false, false] rfl rfl (any_of HT_.out (by kernel_rfl)) (fun _ _ _ h => h) (Or.inl ⟨by rfl, ?_⟩) ?_ ?_
                   rotate_left; (intro w'; go_simp; with_reducible rfl); rotate_left; (simp only [Act.put, qS1, qS2, qS3, i64_w, i32_w]; rfl)
                   refine pure_ (i := 4) (N := some 61) (v := ?_) (a' := ?_) #[true, true, true, true, true, false, false, false, false, false, false, false, false, false, false, false, false, false, false, false] rfl rfl (any_of HT_.out (by kernel_rfl)) (fun _ _ _ h => h) (Or.inl ⟨by rfl, ?_⟩) ?_ ?_
                   rotate_left; (intro w'; go_simp; with_reducible rfl); rotate_left; (simp only [Act.put, qS1, qS2, qS3, i64_w, i32_w]; rfl)
                   refine pure_ (i := 5) (N := some 62) (v := ?_) (a' := ?_) #[true, true, true, true, true, true, false, false, false, false, false, false, false, false, false, false, false, false, false, false] rfl rfl (any_of HT_.out (by kernel_rfl)) (fun _ _ _ h => h) (Or.inl ⟨by rfl, ?_⟩) ?_ ?_
                   rotate_left; (intro w'; go_simp; with_reducible rfl); rotate_left; (simp only [Act.put, qS1, qS2, qS3, i64_w, i32_w]; rfl)
                   refine pure_ (i := 6) (N := some 63) (v := ?_) (a' := ?_) #[true, true, true, true, true, true, true, false, false, false, false, false, false, false, false, false, false, false, false, false] rfl rfl (any_of HT_.out (by kernel_rfl)) (fun _ _ _ h => h) (Or.inl ⟨by rfl, ?_⟩) ?_ ?_
                   rotate_left; (intro w'; go_simp; with_reducible rfl); rotate_left; (simp only [Act.put, qS1, qS2, qS3, i64_w, i32_w]; rfl)
                   refine pure_ (i := 8) (N := some 65) (v := ?_) (a' := ?_) #[true, true, true, true, true, true, true, false, true, false, false, false, false, false, false, false, false, false, false, false] rfl rfl (any_of HT_.out (by kernel_rfl)) (fun _ _ _ h => h) (Or.inl ⟨by rfl, ?_⟩) ?_ ?_
                   rotate_left; (intro w'; go_simp; with_reducible rfl); rotate_left; (simp only [Act.put, qS1, qS2, qS3, i64_w, i32_w]; rfl)
                   refine pure_ (i := 9) (N := some 66) (v := ?_) (a' := ?_) #[true, true, true, true, true, true, true, false, true, true, false, false, false, false, false, false, false, false, false, false] rfl rfl (any_of HT_.out (by kernel_rfl)) (fun _ _ _ h => h) (Or.inl ⟨by rfl, ?_⟩) ?_ ?_
                   rotate_left; (intro w'; go_simp; with_reducible rfl); rotate_left; (simp only [Act.put, qS1, qS2, qS3, i64_w, i32_w]; rfl)
                   refine pure_ (i := 10) (N := some 67) (v := ?_) (a' := ?_) #[true, true, true, true, true, true, true, false, true, true, true, false, false, false, false, false, false, false, false, false] rfl rfl (any_of HT_.out (by kernel_rfl)) (fun _ _ _ h => h) (Or.inl ⟨by rfl, ?_⟩) ?_ ?_
                   rotate_left; (intro w'; go_simp; with_reducible rfl); rotate_left; (simp only [Act.put, qS1, qS2, qS3, i64_w, i32_w]; rfl)
                   refine pure_ (i := 11) (N := some 68) (v := ?_) (a' := ?_) #[true, true, true, true, true, true, true, false, true, true, true, true, false, false, false, false, false, false, false, false] rfl rfl (any_of HT_.out (by kernel_rfl)) (fun _ _ _ h => h) (Or.inl ⟨by rfl, ?_⟩) ?_ ?_
                   rotate_left; (intro w'; go_simp; with_reducible rfl); rotate_left; (simp only [Act.put, qS1, qS2, qS3, i64_w, i32_w]; rfl)
                   refine pure_ (i := 14) (N := some 71) (v := ?_) (a' := ?_) #[true, true, true, true, true, true, true, false, true, true, true, true, false, false, true, false, false, false, false, false] rfl rfl (any_of HT_.out (by kernel_rfl)) (fun _ _ _ h => h) (Or.inl ⟨by rfl, ?_⟩) ?_ ?_
                   rotate_left; (intro w'; go_simp; with_reducible rfl); rotate_left; (simp only [Act.put, qS1, qS2, qS3, i64_w, i32_w]; rfl)
                   refine pure_ (i := 15) (N := some 72) (v := ?_) (a' := ?_) #[true, true, true, true, true, true, true, false, true, true, true, true, false, false, true, true, false, false, false, false] rfl rfl (any_of HT_.out (by kernel_rfl)) (fun _ _ _ h => h) (Or.inl ⟨by rfl, ?_⟩) ?_ ?_
                   rotate_left; (intro w'; go_simp; with_reducible rfl); rotate_left; (simp only [Act.put, qS1, qS2, qS3, i64_w, i32_w]; rfl)
                   refine take_ (i := 7) (N := some 64) (v := ?_) (a' := ?_) #[true, true, true, true, true, true, true, true, true, true, true, true, false, false, true, true, false, false, false, false] rfl rfl (take_ofW HT_.out HW_.out (by kernel_rfl)) (fun _ _ _ h => h) (Or.inl ⟨by rfl, ?_⟩) hHeld ?_ ?_
                   rotate_left; (rintro w' ⟨s0, s1⟩; go_simp; with_reducible rfl); rotate_left; (simp only [Act.put, qS1, qS2, qS3, i64_w, i32_w]; rfl)
                   refine take_ (i := 12) (N := some 69) (v := ?_) (a' := ?_) #[true, true, true, true, true, true, true, true, true, true, true, true, true, false, true, true, false, false, false, false] rfl rfl (take_ofW HT_.out HW_.out (by kernel_rfl)) (fun _ _ _ h => h) (Or.inl ⟨by rfl, ?_⟩) hHeld ?_ ?_
                   rotate_left; (rintro w' ⟨s0, s1⟩; go_simp; with_reducible rfl); rotate_left; (simp only [Act.put, qS1, qS2, qS3, i64_w, i32_w]; rfl)
                   refine one_ (i := 13) (N := some 70) #[true, true, true, true, true, true, true, true, true, true, true, true, true, true, true, true, false, false, false, false] rfl rfl (one_of HT_.out (by kernel_rfl)) (by decide) (fun K hK => ?_)
                   refine goes_ Try.func142 (by kernel_rfl) rfl #[.int .u64 a0, .int .u64 (rd x5_3 x9_3), .int .u64 (rd x5_3 (ji27))] (by rfl) rfl rfl (by (try simp only [qM1, qM2, qM3]); first | done | (simp only [hji27]; rfl) | rfl | (simp only [List.length_drop, List.length_take]; rfl)) ?_
                   with_reducible refine (qsb.calls a0 (rd x5_3 x9_3) (rd x5_3 (ji27)) t910 _ A30.out).mono ?_
                   rintro e w' ⟨rfl, ⟨nd, rfl⟩⟩
                   refine ⟨_, rfl, ?_⟩
                   refine hK.out _ _ ⟨hHeld.1, hHeld.2⟩ (fun hHeld => ?_)
                   clear hK K
                   refine norm_ (a' := ?_) ?_ ?_
                   rotate_left
                   ·show Act.put _ (some 70) _ = _
                    simp only [Act.put, qS1, qS2, qS3, i64_w, i32_w]
                    rfl
                   refine one_ (i := 16) (N := some 73) #[true, true, true, true, true, true, true, true, true, true, true, true, true, true, true, true, true, false, false, false] rfl rfl (one_of HT_.out (by kernel_rfl)) (by decide) (fun K hK => ?_)
                   refine goes_ Try.func159 (by kernel_rfl) rfl #[.int .u64 a0, .int .u64 t907] (by rfl) rfl rfl (by (try simp only [qM1, qM2, qM3]); first | done | rfl | (simp only [List.length_drop, List.length_take]; rfl)) ?_
                   with_reducible refine (qec.calls k3 a0 t907 t911 _ A31.out).mono ?_
                   rintro e w' ⟨rfl, ⟨nd, rfl⟩⟩
                   refine ⟨_, rfl, ?_⟩
                   refine hK.out _ _ ⟨hHeld.1, hHeld.2⟩ (fun hHeld => ?_)
                   clear hK K
                   refine norm_ (a' := ?_) ?_ ?_
                   rotate_left
                   ·show Act.put _ (some 73) _ = _
                    simp only [Act.put, qS1, qS2, qS3, i64_w, i32_w]
                    rfl
                   refine one_ (i := 17) (N := some 74) #[true, true, true, true, true, true, true, true, true, true, true, true, true, true, true, true, true, true, false, false] rfl rfl (one_of HT_.out (by kernel_rfl)) (by decide) (fun K hK => ?_)
                   refine goes_ Try.func148 (by kernel_rfl) rfl #[.int .u64 a0, .int .u64 t910, .int .u64 t911] (by rfl) rfl rfl (by (try simp only [qM1, qM2, qM3]); first | done | rfl | (simp only [List.length_drop, List.length_take]; rfl)) ?_
                   with_reducible refine (qub.calls a0 t910 t911 t912 _ A32.out).mono ?_
                   rintro e w' ⟨rfl, ⟨nd, rfl⟩⟩
                   refine ⟨_, rfl, ?_⟩
                   have p33 : 0 ≤ (x9_3 : Int) := of_decide_eq_true (by first | (with_reducible assumption) | assumption)
                   have q33 : (x9_3 : Int) < ((x5_3.length : Int) : Int) := of_decide_eq_true (by first | (with_reducible assumption) | assumption)
                   obtain ⟨go33, co33, eo33, gb33, gl33, cl33, HG33⟩ := Kd.R_form HO_5.out (by omega)
                   (first | cases eo33 | (injection eo33 with ea_ en_ ec_; (first | subst ea_ | (injection ea_ with ea_; subst ea_)); subst ec_; clear en_))
                   have GB33 := Aside0.mk gb33
                   have GG33 := Aside0.mk HG33
                   clear gb33 gl33 HG33
                   (first | simp only [add_plain] at hx908_0 | skip)
                   (first | simp only [add_plain] at hx909_0 | skip)
                   obtain ⟨hx33_0, hf33_0⟩ := Kd.R_celln 0 HO_5.out (x9_3 : Int) p33 q33
                   replace p33 := eq_true p33; replace q33 := eq_true q33
                   have HP37 := Kd.R_putn HO_5.out (x9_3 : Int) t912
                   rw [← Ny913.out] at HP37
                   have HQ37 := Aside0.mk HP37
                   clear HP37
                   refine hK.out _ _ ⟨hHeld.1, hHeld.2⟩ (fun hHeld => ?_)
                   clear hK K
                   refine norm_ (a' := ?_) ?_ ?_
                   rotate_left
                   ·show Act.put _ (some 74) _ = _
                    simp only [Act.put, qS1, qS2, qS3, i64_w, i32_w]
                    rfl
                   refine pure_ (i := 18) (N := some 75) (v := ?_) (a' := ?_) #[true, true, true, true, true, true, true, true, true, true, true, true, true, true, true, true, true, true, true, false] rfl rfl (any_of HT_.out (by kernel_rfl)) (fun _ _ _ h => h) (Or.inl ⟨by rfl, ?_⟩) ?_ ?_
                   rotate_left; (intro w'; go_simp; with_reducible rfl); rotate_left; (simp only [Act.put, qS1, qS2, qS3, i64_w, i32_w]; rfl)
                   refine last_ (i := 19) (N := none) #[true, true, true, true, true, true, true, true, true, true, true, true, true, true, true, true, true, true, true, true] rfl rfl (one_of HT_.out (by kernel_rfl)) (by decide) (fun K hK => ?_)
                   refine skip_ (w1 := ?_) (by rfl) rfl ?_ ?_
                   rotate_left
                   ·go_simp
                    rfl
                   refine hK.out _ _ ?_
                   clear hK K
                   refine done_ (done_of HT_.out (by kernel_rfl)) ?_
                   try go_wp2
                   go_roundg k3
                   case measure => have := HK1.out; have := HK2.out; have := HK3.out; omega
                   case rel => exact ⟨(y913), (ji27), (by first | rfl | (simp; done) | (simp only [← hji27] <;> (first | rfl | simp)) | (simp [*]; done)), H', ⟨by have := HK1.out; have := HK2.out; have := HK3.out; omega⟩, ⟨by (with_reducible repeat first | apply Kd.qoa | apply Kd.qna | apply Kd.R_drew); exact HQ37.out⟩, ⟨by repeat (first | (with_reducible first | exact HB.out | apply qda | apply qba | apply qca | refine qga ?_ GB33.out) | exact HB.out)⟩⟩
                  ·rw [if_neg c29] at H
                   exact absurd H (by simp)
                 ·rw [if_neg c28] at H
                  exact absurd H (by simp)
                ·rw [if_neg c26] at H
                 exact absurd H (by simp)
               ·rw [if_neg c24] at H
                exact absurd H (by simp)
              ·rw [if_neg c23] at H
               exact absurd H (by simp)
             ·rw [if_neg c21] at H
              exact absurd H (by simp)
            ·rw [if_neg c20] at H
             exact absurd H (by simp)
           ·rw [if_neg c19] at H
            have c19b0 : decide (x8_2 ≤ x9_3) = false := decide_eq_false c19
            clear c19
            have H' := Aside0.mk H
            clear H
            go_wp2
            go_roundg k3
            case measure => have := HK1.out; have := HK2.out; have := HK3.out; omega
            case rel => exact ⟨(x5_3), (wrap64 (x8_2 + 1)), (by first | rfl | (simp; done) | (simp [*]; done)), H', ⟨by have := HK1.out; have := HK2.out; have := HK3.out; omega⟩, ⟨by (with_reducible repeat first | apply Kd.qoa | apply Kd.qna | apply Kd.R_drew); exact HO_5.out⟩, ⟨by repeat (first | (with_reducible first | exact HB.out | apply qda | apply qba | apply qca) | exact HB.out)⟩⟩
        ·rw [if_neg c18] at H
         have c18b0 : decide (x8_2 < (l1.length : Int)) = false := decide_eq_false c18
         clear c18
         have H' := Aside0.mk H
         clear H
         go_wp2
         go_loopg [11, 12] k2 (fun kq v11 v12 w' => ∃ (x11_3 : List Int) (x12_3 : Int), v12 = .int .i64 x12_3 ∧ Aside0 (qza.l3 kq a0 l1 x5_2 x11_3 x12_3 = some r) ∧ Aside0 (kq ≤ k2) ∧ Aside0 (Kd.R (Kd.int .u64) 22 w' w.heap.size (fun k_ => some k_ ≠ (v11 : Value).ownBlock) v900 x5_2) ∧ Aside0 (Kd.R (Kd.int .u64) 22 w' w.heap.size (fun k_ => some k_ ≠ (v900 : Value).ownBlock) v11 x11_3) ∧ Aside0 (Below w.heap.size w w'))
         case atStart => exact ⟨(([] : List Int)), (wrap64 ((l1.length : Int) - 1)), (by first | rfl | (simp; done) | (simp [*]; done)), H', ⟨Nat.le_refl _⟩, ⟨by (with_reducible repeat first | apply Kd.qoa | apply Kd.qna | apply Kd.R_drew); exact Kd.R_mono HO_5.out (fun _ hk => (by simp [Value.ownBlock]))⟩, ⟨by first | exact Kd.R_nil _ _ _ _ _ | exact Kd.N_nil _ _ _ _ _ | exact Kd.V_nil _ _ _ _ _ | exact Kd.Q_nil _ _ _ _ _ | exact Kd.S_nil _ _ _ _ _⟩, ⟨by repeat (first | (with_reducible first | exact HB.out | apply qda | apply qba | apply qca) | exact HB.out)⟩⟩
         case round =>
          clear H'; (try clear c1); (try clear p1); (try clear q1); (try clear hx1); (try clear c2); (try clear p2); (try clear c3); (try clear c3b0); (try clear c3b1); (try clear p3); (try clear q3); (try clear hx3); (try clear hf3); (try clear c4); (try clear c4b0); (try clear c4b1); (try clear p6); (try clear c7); (try clear c7b0); (try clear c8); (try clear c8b0); (try clear c9); (try clear c9b0); (try clear p9); (try clear q9); (try clear hx9); (try clear c10); (try clear c10b0); (try clear p11); (try clear q11); (try clear hx11); (try clear hf11); (try clear c14); (try clear c15); (try clear c18); (try clear c18b0); (try clear c19); (try clear c19b0); (try clear c20); (try clear c20b0); (try clear c21); (try clear c21b0); (try clear c23); (try clear c23b0); (try clear c24); (try clear c24b0); (try clear c26); (try clear c26b0); (try clear c28); (try clear c28b0); (try clear c29); (try clear c29b0); (try clear p33); (try clear q33); (try clear hx33); (try clear hf33); (try clear hcz13_0); (try clear hcz13_1); (try clear hcz15_0); (try clear hcz15_1); (try clear hfz13_0); (try clear hfz13_1); (try clear hfz15_0); (try clear hfz15_1); (try clear hx11_0); (try clear hx33_0); (try clear hx902_0); (try clear hx902_1); (try clear hx905_0); (try clear hx905_1); (try clear hx906_0); (try clear hx906_1); (try clear hx908_0); (try clear hx909_0); (try clear p1); (try clear p11); (try clear p2); (try clear p33); (try clear p6); (try clear p9); (try clear p902); (try clear p905); (try clear p906); (try clear p908); (try clear p909); (try clear q1); (try clear q11); (try clear q33); (try clear q9); (try clear q902); (try clear q905); (try clear q906); (try clear q908); (try clear q909)
          obtain ⟨x11_3, x12_3, rfl, HA, HK3, HO_5, HO_11, HB⟩ := hrel
          cases gk with
          | zero => exact absurd HA.out (by simp [qza.l3])
          | succ k3 =>
           have H := HA.out
           clear HA
           simp only [qza.l3] at H
           by_cases c38 : x12_3 ≥ 0
           ·rw [if_pos c38] at H
            have c38b0 : decide (0 ≤ x12_3) = true := decide_eq_true c38
            clear c38
            by_cases c39 : 0 ≤ x12_3
            ·rw [if_pos c39] at H
             have c39b0 : decide (0 ≤ x12_3) = true := decide_eq_true c39
             clear c39
             by_cases c40 : x12_3 < (l1.length : Int)
             ·rw [if_pos c40] at H
              have c40b0 : decide (x12_3 < (l1.length : Int)) = true := decide_eq_true c40
              clear c40
              replace H := Option.bind_eq_some_iff.mp H
              obtain ⟨t915, A410, H⟩ := H
              try dsimp only at H
              have A41 := Aside0.mk A410
              clear A410
              obtain ⟨y916, hy916⟩ : ∃ y_ : List Int, y_ = (([t915, 1] : List Int)) := ⟨_, rfl⟩
              replace H : ((qsa.f k3 a0 x11_3 y916).bind fun t919 => (if x12_3 < (x5_2.length : Int) then ((qic.f k3 a0 t919 (([rd x5_2 x12_3] : List Int))).bind fun t926 => (qza.l3 k3 a0 l1 x5_2 t926 (wrap64 (x12_3 - 1)))) else (none))) = some r := by first | (rw [hy916]; with_reducible exact H) | (have H2_ := (Option.bind_some _ _).symm.trans H; rw [hy916]; with_reducible exact H2_) | (have H2_ := (Option.bind_some _ _).symm.trans H; with_reducible exact H2_) | with_reducible exact H | (rw [hy916]; exact H) | exact H
              have Ny916 := Aside0.mk hy916
              clear hy916
              replace H := Option.bind_eq_some_iff.mp H
              obtain ⟨t919, A420, H⟩ := H
              try dsimp only at H
              have A42 := Aside0.mk A420
              clear A420
              by_cases c43 : x12_3 < (x5_2.length : Int)
              ·rw [if_pos c43] at H
               have c43b0 : decide (x12_3 < (x5_2.length : Int)) = true := decide_eq_true c43
               clear c43
               obtain ⟨y923, hy923⟩ : ∃ y_ : List Int, y_ = (([rd x5_2 x12_3] : List Int)) := ⟨_, rfl⟩
               replace H : ((qic.f k3 a0 t919 y923).bind fun t926 => (qza.l3 k3 a0 l1 x5_2 t926 (wrap64 (x12_3 - 1)))) = some r := by first | (rw [hy923]; with_reducible exact H) | (have H2_ := (Option.bind_some _ _).symm.trans H; rw [hy923]; with_reducible exact H2_) | (have H2_ := (Option.bind_some _ _).symm.trans H; with_reducible exact H2_) | with_reducible exact H | (rw [hy923]; exact H) | exact H
               have Ny923 := Aside0.mk hy923
               clear hy923
               replace H := Option.bind_eq_some_iff.mp H
               obtain ⟨t926, A440, H⟩ := H
               try dsimp only at H
               have A44 := Aside0.mk A440
               clear A440
               have H' := Aside0.mk H
               clear H
               have p914 : 0 ≤ (x12_3 : Int) := of_decide_eq_true (by first | (with_reducible assumption) | assumption)
               have q914 : x12_3 < (l1.length : Int) := of_decide_eq_true (by first | (with_reducible assumption) | assumption)
               obtain ⟨ad914, e914, hx914_0, hx914_1⟩ := at_T86 HR1.out x12_3 p914 q914
               cases e914
               replace hx914_0 := (HB.out.cell (World.block_lt_of_cell? w _ hx914_0)).trans hx914_0
               replace hx914_1 := (HB.out.cell (World.block_lt_of_cell? w _ hx914_1)).trans hx914_1
               replace p914 := eq_true p914; replace q914 := eq_true q914
               go_wp2_with (first | ((with_reducible refine qqa (f := 142) rfl ?_); refine goesL_ (some 91) rfl rfl Try.func142 (by kernel_rfl) rfl #[.int .u64 a0, .int .u64 0, .int .u64 ((rd_T86 l1 x12_3).f0)] rfl (by (try simp only [qM1, qM2, qM3]); first | done | rfl) ?_; (with_reducible refine (qsb.calls a0 0 ((rd_T86 l1 x12_3).f0) t915 _ A41.out).mono ?_); rintro e w' ⟨rfl, ⟨nd, rfl⟩⟩; refine ⟨_, rfl, ?_⟩) | ((with_reducible refine gate_dst (N := 92) rfl ?_); refine Kd.R_lit (Kd.int .u64) _ 22 ?hg (N := 92) ?hd (xs := ([t915, 1] : List Int)) (inner := [.int .u64 t915, .int .u64 1]) (ok := fun _ => True) (okp := fun _ => True) ?hr ?hp (fun _ hk => hk) trivial (Below.refl _ _) (Nat.le_refl _) (by simp) ?_; (case hd => rfl); (case hg => rfl); (case hr => first | (go_simp; done) | (go_simp; rfl)); (case hp => exact (Reps.one (show Kd.M (Kd.int .u64) _ _ _ t915 [.int .u64 t915] from rfl) (Reps.one (show Kd.M (Kd.int .u64) _ _ _ 1 [.int .u64 1] from rfl) (Reps.none _ _)))); intro v917 w45 ho46 hb hg_ hnew_; clear hg_ hnew_; (first | rw [← Ny916.out] at ho46 | (simp only [Int.reduceToNat] at ho46; rw [← Ny916.out] at ho46)); have n0_ := Aside0.mk (Kd.R_elder' (by (with_reducible repeat first | apply Kd.qoa | apply Kd.qna | apply Kd.R_drew); exact HO_5.out) (Kd.R_base ho46) hb); have n1_ := Aside0.mk (Kd.R_elder' (by (with_reducible repeat first | apply Kd.qoa | apply Kd.qna | apply Kd.R_drew); exact HO_11.out) (Kd.R_base ho46) hb); have n2_ := Aside0.mk (Kd.R_lower (Kd.R_new' (Kd.R_new' ho46 (Kd.R_lt (by (with_reducible repeat first | apply Kd.qoa | apply Kd.qna | apply Kd.R_drew); exact HO_5.out))) (Kd.R_lt (by (with_reducible repeat first | apply Kd.qoa | apply Kd.qna | apply Kd.R_drew); exact HO_11.out))) (qla (by with_reducible repeat first | exact HB.out | apply qda | apply qba | apply qca))); have n3_ := Aside0.mk (qma (by with_reducible repeat first | exact HB.out | apply qda | apply qba | apply qca) hb); clear HO_5; clear HO_11; clear HB; have HO_5 := n0_; have HO_11 := n1_; have HO918 := n2_; have HB := n3_; clear n0_ n1_ n2_ n3_; clear hb ho46; obtain ⟨Ao47, co47, eo47⟩ := Kd.R_slice HO_11.out; subst eo47; obtain ⟨Ao48, co48, eo48⟩ := Kd.R_slice HO918.out; subst eo48) | ((with_reducible refine qqa (f := 157) rfl ?_); refine goesL_ (some 93) rfl rfl Try.func157 (by kernel_rfl) rfl #[.int .u64 a0, .slice Ao47 x11_3.length co47, .slice Ao48 y916.length co48] rfl (by (try simp only [qM1, qM2, qM3]); first | done | rfl) ?_; (with_reducible refine (qsa.calls k3 a0 _ _ x11_3 _ _ y916 t919 _ ?side1 ?side2 ?side3 ?side4 A42.out).mono ?_); (case side1 => repeat (first | exact (Kd.R_reads' HO_11.out).2.2 | (with_reducible first | refine Kd.C_alloc ?_ _ | refine Kd.C_drewN ?_ _ | refine Kd.C_drew ?_))); (case side2 => exact (Kd.R_reads' HO_11.out).2.1); (case side3 => repeat (first | exact (Kd.R_reads' HO918.out).2.2 | (with_reducible first | refine Kd.C_alloc ?_ _ | refine Kd.C_drewN ?_ _ | refine Kd.C_drew ?_))); (case side4 => exact (Kd.R_reads' HO918.out).2.1); rintro e w49 ⟨v920, rfl, ho0, hb⟩; refine ⟨_, rfl, ?_⟩; have n0_ := Aside0.mk (Kd.R_elder' (by (with_reducible repeat first | apply Kd.qoa | apply Kd.qna | apply Kd.R_drew); exact HO_5.out) (Kd.R_base ho0) hb); have n1_ := Aside0.mk (Kd.R_elder' (by (with_reducible repeat first | apply Kd.qoa | apply Kd.qna | apply Kd.R_drew); exact HO_11.out) (Kd.R_base ho0) hb); have n2_ := Aside0.mk (Kd.R_elder' (by (with_reducible repeat first | apply Kd.qoa | apply Kd.qna | apply Kd.R_drew); exact HO918.out) (Kd.R_base ho0) hb); have n3_ := Aside0.mk (Kd.R_lower (Kd.R_new' (Kd.R_new' (Kd.R_new' ho0 (Kd.R_lt (by (with_reducible repeat first | apply Kd.qoa | apply Kd.qna | apply Kd.R_drew); exact HO_5.out))) (Kd.R_lt (by (with_reducible repeat first | apply Kd.qoa | apply Kd.qna | apply Kd.R_drew); exact HO_11.out))) (Kd.R_lt (by (with_reducible repeat first | apply Kd.qoa | apply Kd.qna | apply Kd.R_drew); exact HO918.out))) (qla (by with_reducible repeat first | exact HB.out | apply qda | apply qba | apply qca))); have n4_ := Aside0.mk (qma (by with_reducible repeat first | exact HB.out | apply qda | apply qba | apply qca) hb); clear HO_5; clear HO_11; clear HO918; clear HB; have HO_5 := n0_; have HO_11 := n1_; have HO918 := n2_; have HO921 := n3_; have HB := n4_; clear n0_ n1_ n2_ n3_ n4_; (try clear hb); (try clear hb2); (try clear hk); (try clear hi); (try clear ho0); obtain ⟨Ao50, co50, eo50⟩ := Kd.R_slice HO_5.out; subst eo50; have p922 : 0 ≤ (x12_3 : Int) := of_decide_eq_true (by first | (with_reducible assumption) | assumption); have q922 : x12_3 < (x5_2.length : Int) := of_decide_eq_true (by first | (with_reducible assumption) | assumption); obtain ⟨ad922, e922, hx922_0⟩ := Kd.at_int (Kd.R_reads' HO_5.out).2.2 x12_3 p922 q922; cases e922; replace p922 := eq_true p922; replace q922 := eq_true q922) | ((with_reducible refine gate_dst (N := 100) rfl ?_); refine Kd.R_lit (Kd.int .u64) _ 22 ?hg (N := 100) ?hd (xs := ([rd x5_2 x12_3] : List Int)) (inner := [.int .u64 (rd x5_2 x12_3)]) (ok := fun _ => True) (okp := fun _ => True) ?hr ?hp (fun _ hk => hk) trivial (Below.refl _ _) (Nat.le_refl _) (by simp) ?_; (case hd => rfl); (case hg => rfl); (case hr => first | (go_simp; done) | (go_simp; rfl)); (case hp => exact (Reps.one (show Kd.M (Kd.int .u64) _ _ _ (rd x5_2 x12_3) [.int .u64 (rd x5_2 x12_3)] from rfl) (Reps.none _ _))); intro v924 w51 ho52 hb hg_ hnew_; clear hg_ hnew_; (first | rw [← Ny923.out] at ho52 | (simp only [Int.reduceToNat] at ho52; rw [← Ny923.out] at ho52)); have n0_ := Aside0.mk (Kd.R_elder' (by (with_reducible repeat first | apply Kd.qoa | apply Kd.qna | apply Kd.R_drew); exact HO_5.out) (Kd.R_base ho52) hb); have n1_ := Aside0.mk (Kd.R_elder' (by (with_reducible repeat first | apply Kd.qoa | apply Kd.qna | apply Kd.R_drew); exact HO_11.out) (Kd.R_base ho52) hb); have n2_ := Aside0.mk (Kd.R_elder' (by (with_reducible repeat first | apply Kd.qoa | apply Kd.qna | apply Kd.R_drew); exact HO918.out) (Kd.R_base ho52) hb); have n3_ := Aside0.mk (Kd.R_elder' (by (with_reducible repeat first | apply Kd.qoa | apply Kd.qna | apply Kd.R_drew); exact HO921.out) (Kd.R_base ho52) hb); have n4_ := Aside0.mk (Kd.R_lower (Kd.R_new' (Kd.R_new' (Kd.R_new' (Kd.R_new' ho52 (Kd.R_lt (by (with_reducible repeat first | apply Kd.qoa | apply Kd.qna | apply Kd.R_drew); exact HO_5.out))) (Kd.R_lt (by (with_reducible repeat first | apply Kd.qoa | apply Kd.qna | apply Kd.R_drew); exact HO_11.out))) (Kd.R_lt (by (with_reducible repeat first | apply Kd.qoa | apply Kd.qna | apply Kd.R_drew); exact HO918.out))) (Kd.R_lt (by (with_reducible repeat first | apply Kd.qoa | apply Kd.qna | apply Kd.R_drew); exact HO921.out))) (qla (by with_reducible repeat first | exact HB.out | apply qda | apply qba | apply qca))); have n5_ := Aside0.mk (qma (by with_reducible repeat first | exact HB.out | apply qda | apply qba | apply qca) hb); clear HO_5; clear HO_11; clear HO918; clear HO921; clear HB; have HO_5 := n0_; have HO_11 := n1_; have HO918 := n2_; have HO921 := n3_; have HO925 := n4_; have HB := n5_; clear n0_ n1_ n2_ n3_ n4_ n5_; clear hb ho52; obtain ⟨Ao53, co53, eo53⟩ := Kd.R_slice HO921.out; subst eo53; obtain ⟨Ao54, co54, eo54⟩ := Kd.R_slice HO925.out; subst eo54) | ((with_reducible refine qqa (f := 143) rfl ?_); refine goesL_ (some 101) rfl rfl Try.func143 (by kernel_rfl) rfl #[.int .u64 a0, .slice Ao53 t919.length co53, .slice Ao54 y923.length co54] rfl (by (try simp only [qM1, qM2, qM3]); first | done | rfl) ?_; (with_reducible refine (qic.calls k3 a0 _ _ t919 _ _ y923 t926 _ ?side1 ?side2 ?side3 ?side4 A44.out).mono ?_); (case side1 => repeat (first | exact (Kd.R_reads' HO921.out).2.2 | (with_reducible first | refine Kd.C_alloc ?_ _ | refine Kd.C_drewN ?_ _ | refine Kd.C_drew ?_))); (case side2 => exact (Kd.R_reads' HO921.out).2.1); (case side3 => repeat (first | exact (Kd.R_reads' HO925.out).2.2 | (with_reducible first | refine Kd.C_alloc ?_ _ | refine Kd.C_drewN ?_ _ | refine Kd.C_drew ?_))); (case side4 => exact (Kd.R_reads' HO925.out).2.1); rintro e w55 ⟨v927, rfl, ho0, hb⟩; refine ⟨_, rfl, ?_⟩; have n0_ := Aside0.mk (Kd.R_elder' (by (with_reducible repeat first | apply Kd.qoa | apply Kd.qna | apply Kd.R_drew); exact HO_5.out) (Kd.R_base ho0) hb); have n1_ := Aside0.mk (Kd.R_elder' (by (with_reducible repeat first | apply Kd.qoa | apply Kd.qna | apply Kd.R_drew); exact HO_11.out) (Kd.R_base ho0) hb); have n2_ := Aside0.mk (Kd.R_elder' (by (with_reducible repeat first | apply Kd.qoa | apply Kd.qna | apply Kd.R_drew); exact HO918.out) (Kd.R_base ho0) hb); have n3_ := Aside0.mk (Kd.R_elder' (by (with_reducible repeat first | apply Kd.qoa | apply Kd.qna | apply Kd.R_drew); exact HO921.out) (Kd.R_base ho0) hb); have n4_ := Aside0.mk (Kd.R_elder' (by (with_reducible repeat first | apply Kd.qoa | apply Kd.qna | apply Kd.R_drew); exact HO925.out) (Kd.R_base ho0) hb); have n5_ := Aside0.mk (Kd.R_lower (Kd.R_new' (Kd.R_new' (Kd.R_new' (Kd.R_new' (Kd.R_new' ho0 (Kd.R_lt (by (with_reducible repeat first | apply Kd.qoa | apply Kd.qna | apply Kd.R_drew); exact HO_5.out))) (Kd.R_lt (by (with_reducible repeat first | apply Kd.qoa | apply Kd.qna | apply Kd.R_drew); exact HO_11.out))) (Kd.R_lt (by (with_reducible repeat first | apply Kd.qoa | apply Kd.qna | apply Kd.R_drew); exact HO918.out))) (Kd.R_lt (by (with_reducible repeat first | apply Kd.qoa | apply Kd.qna | apply Kd.R_drew); exact HO921.out))) (Kd.R_lt (by (with_reducible repeat first | apply Kd.qoa | apply Kd.qna | apply Kd.R_drew); exact HO925.out))) (qla (by with_reducible repeat first | exact HB.out | apply qda | apply qba | apply qca))); have n6_ := Aside0.mk (qma (by with_reducible repeat first | exact HB.out | apply qda | apply qba | apply qca) hb); clear HO_5; clear HO_11; clear HO918; clear HO921; clear HO925; clear HB; have HO_5 := n0_; have HO_11 := n1_; have HO918 := n2_; have HO921 := n3_; have HO925 := n4_; have HO928 := n5_; have HB := n6_; clear n0_ n1_ n2_ n3_ n4_ n5_ n6_; (try clear hb); (try clear hb2); (try clear hk); (try clear hi); (try clear ho0)))
               go_roundg k3
               case measure => have := HK1.out; have := HK2.out; have := HK3.out; omega
               case rel => exact ⟨(t926), (wrap64 (x12_3 - 1)), (by first | rfl | (simp; done) | (simp [*]; done)), H', ⟨by have := HK1.out; have := HK2.out; have := HK3.out; omega⟩, ⟨by (with_reducible repeat first | apply Kd.qoa | apply Kd.qna | apply Kd.R_drew); exact Kd.R_mono HO_5.out (fun _ hk => hk.2)⟩, ⟨by (with_reducible repeat first | apply Kd.qoa | apply Kd.qna | apply Kd.R_drew); exact Kd.R_mono HO928.out (fun _ hk => hk.1.1.1.1.2)⟩, ⟨by repeat (first | (with_reducible first | exact HB.out | apply qda | apply qba | apply qca) | exact HB.out)⟩⟩
              ·rw [if_neg c43] at H
               exact absurd H (by simp)
             ·rw [if_neg c40] at H
              exact absurd H (by simp)
            ·rw [if_neg c39] at H
             exact absurd H (by simp)
           ·rw [if_neg c38] at H
            have c38b0 : decide (0 ≤ x12_3) = false := decide_eq_false c38
            clear c38
            replace H := Option.bind_eq_some_iff.mp H
            obtain ⟨t929, A560, H⟩ := H
            try dsimp only at H
            have A56 := Aside0.mk A560
            clear A560
            obtain rfl := Option.some.inj H
            obtain ⟨Ao57, co57, eo57⟩ := Kd.R_slice HO_11.out
            subst eo57
            go_wp2_with (first | ((with_reducible refine qqa (f := 127) rfl ?_); refine goesL_ (some 103) rfl rfl Try.func127 (by kernel_rfl) rfl #[.slice Ao57 x11_3.length co57] rfl (by (try simp only [qM1, qM2, qM3]); first | done | rfl) ?_; (with_reducible refine (qxa.calls k3 _ _ x11_3 t929 _ ?side1 ?side2 A56.out).mono ?_); (case side1 => repeat (first | exact (Kd.R_reads' HO_11.out).2.2 | (with_reducible first | refine Kd.C_alloc ?_ _ | refine Kd.C_drewN ?_ _ | refine Kd.C_drew ?_))); (case side2 => exact (Kd.R_reads' HO_11.out).2.1); rintro e w58 ⟨v930, rfl, ho0, hb⟩; refine ⟨_, rfl, ?_⟩; have n0_ := Aside0.mk (Kd.R_elder' (by (with_reducible repeat first | apply Kd.qoa | apply Kd.qna | apply Kd.R_drew); exact HO_5.out) (Kd.R_base ho0) hb); have n1_ := Aside0.mk (Kd.R_elder' (by (with_reducible repeat first | apply Kd.qoa | apply Kd.qna | apply Kd.R_drew); exact HO_11.out) (Kd.R_base ho0) hb); have n2_ := Aside0.mk (Kd.R_lower (Kd.R_new' (Kd.R_new' ho0 (Kd.R_lt (by (with_reducible repeat first | apply Kd.qoa | apply Kd.qna | apply Kd.R_drew); exact HO_5.out))) (Kd.R_lt (by (with_reducible repeat first | apply Kd.qoa | apply Kd.qna | apply Kd.R_drew); exact HO_11.out))) (qla (by with_reducible repeat first | exact HB.out | apply qda | apply qba | apply qca))); have n3_ := Aside0.mk (qma (by with_reducible repeat first | exact HB.out | apply qda | apply qba | apply qca) hb); clear HO_5; clear HO_11; clear HB; have HO_5 := n0_; have HO_11 := n1_; have HO931 := n2_; have HB := n3_; clear n0_ n1_ n2_ n3_; (try clear hb); (try clear hb2); (try clear hk); (try clear hi); (try clear ho0)))
            go_ret
            exact ⟨_, by first | rfl | (simp [errW_none, errW_some] <;> rfl) | (simp [*, errW_none, errW_some] <;> rfl), by (with_reducible repeat first | apply Kd.qoa | apply Kd.qna | apply Kd.R_drew); exact Kd.R_mono HO931.out (fun _ hk => trivial), by repeat (first | (with_reducible first | exact HB.out | apply qda | apply qba | apply qca) | exact HB.out)⟩
  ·rw [if_neg c4] at H
   exact absurd H (by simp)
 ·rw [if_neg c3] at H
  exact absurd H (by simp)
def qyb.l0 : Nat → List (S86) → List Int → Int → Int → Option ((List (S86)))
 | 0, _, _, _, _ => none
 | k + 1, x3, x6, x7, x8 => if x8 < x7 then (if 0 ≤ x8 then (if x8 < (x6.length : Int) then (if x3.length < 8796093022208 then (qyb.l0 k (x3 ++ [(⟨IntKind.u64.wrap (wrap64 (x8 + 1)), rd x6 x8⟩ : S86)]) x6 x7 (wrap64 (x8 + 1))) else (none)) else (none)) else (none)) else (some x3)
def qyb.f (k : Nat) (l0 : List Int) : Option ((List (S86))) := qyb.l0 k ([] : List (S86)) l0 (l0.length : Int) 0
theorem qyb.calls (k : Nat) (A0 : Option Addr) (c0 : Nat) (l0 : List Int) (r : List (S86)) (w : World) (hr0 : Kd.C (Kd.int .u64) w A0 l0.length l0) (hc0 : l0.length ≤ c0) (h : qyb.f k l0 = some r) :
  Calls Try.prog 150 #[.slice A0 l0.length c0] w fun e w' => ∃ v0_ : Value, e = .returned (v0_) ∧ Kd.R k86 86 w' w.heap.size (fun _ => True) v0_ r ∧ Below w.heap.size w w' := by
 have hu86 := Try.underlying86
 have HR0 := Aside0.mk hr0
 have HC0 := Aside0.mk hc0
 clear hr0 hc0
 have HB := Aside0.mk (Below.refl w.heap.size w)
 have H : (qyb.l0 k ([] : List (S86)) l0 (l0.length : Int) 0) = some r := h
 clear h
 have H' := Aside0.mk H
 clear H
 go_enter Try.func150, Try.ntmps150
 go_wp2
 go_loopg [3, 8] k (fun kq v3 v8 w' => ∃ (x3_1 : List (S86)) (x8_1 : Int), v8 = .int .i64 x8_1 ∧ Aside0 (qyb.l0 kq x3_1 l0 (l0.length : Int) x8_1 = some r) ∧ Aside0 (kq ≤ k) ∧ Aside0 (Kd.R k86 86 w' w.heap.size (fun _ => True) v3 x3_1) ∧ Aside0 (Below w.heap.size w w'))
 case atStart => exact ⟨(([] : List (S86))), (0), (by first | rfl | (simp; done) | (simp [*]; done)), H', ⟨Nat.le_refl _⟩, ⟨by first | exact Kd.R_nil _ _ _ _ _ | exact Kd.N_nil _ _ _ _ _ | exact Kd.V_nil _ _ _ _ _ | exact Kd.Q_nil _ _ _ _ _ | exact Kd.S_nil _ _ _ _ _⟩, ⟨by repeat (first | (with_reducible first | exact HB.out | apply qda | apply qba | apply qca) | exact HB.out)⟩⟩
 case round =>
  clear H'; (try clear c1)
  obtain ⟨x3_1, x8_1, rfl, HA, HK1, HO_3, HB⟩ := hrel
  cases gk with
  | zero => exact absurd HA.out (by simp [qyb.l0])
  | succ k1 =>
   have H := HA.out
   clear HA
   simp only [qyb.l0] at H
   by_cases c2 : x8_1 < (l0.length : Int)
   ·rw [if_pos c2] at H
    have c2b0 : decide (x8_1 < (l0.length : Int)) = true := decide_eq_true c2
    clear c2
    by_cases c3 : 0 ≤ x8_1
    ·rw [if_pos c3] at H
     have c3b0 : decide (0 ≤ x8_1) = true := decide_eq_true c3
     clear c3
     by_cases c4 : x8_1 < (l0.length : Int)
     ·rw [if_pos c4] at H
      have c4b0 : decide (x8_1 < (l0.length : Int)) = true := decide_eq_true c4
      clear c4
      by_cases c5 : x3_1.length < 8796093022208
      ·rw [if_pos c5] at H
       have LMc5 := Aside0.mk c5
       clear c5
       obtain ⟨y933, hy933⟩ : ∃ y_ : List (S86), y_ = (x3_1 ++ [(⟨IntKind.u64.wrap (wrap64 (x8_1 + 1)), rd l0 x8_1⟩ : S86)]) := ⟨_, rfl⟩
       replace H : (qyb.l0 k1 y933 l0 (l0.length : Int) (wrap64 (x8_1 + 1))) = some r := by first | (rw [hy933]; with_reducible exact H) | (have H2_ := (Option.bind_some _ _).symm.trans H; rw [hy933]; with_reducible exact H2_) | (have H2_ := (Option.bind_some _ _).symm.trans H; with_reducible exact H2_) | with_reducible exact H | (rw [hy933]; exact H) | exact H
       have Ny933 := Aside0.mk hy933
       clear hy933
       have H' := Aside0.mk H
       clear H
       have p932 : 0 ≤ (x8_1 : Int) := of_decide_eq_true (by first | (with_reducible assumption) | assumption)
       have q932 : x8_1 < (l0.length : Int) := of_decide_eq_true (by first | (with_reducible assumption) | assumption)
       obtain ⟨ad932, e932, hx932_0⟩ := Kd.at_int HR0.out x8_1 p932 q932
       cases e932
       replace hx932_0 := (HB.out.cell (World.block_lt_of_cell? w _ hx932_0)).trans hx932_0
       replace p932 := eq_true p932; replace q932 := eq_true q932
       go_wp2_with (first | ((with_reducible refine gate_builtin (b := .append) (xs := #[.tmp 13, .tmp 19]) rfl ?_); at_builtin; refine Kd.R_append k86 (w0 := w) w.heap.size rfl (.tmp 13) (.tmp 19) 87 86 (.agg #[(.int .u64 0), (.int .u64 0)]) 16 rfl Try.underlying87 info86 rfl (by decide) (by omega) u3 x3_1 (⟨IntKind.u64.wrap (wrap64 (x8_1 + 1)), rd l0 x8_1⟩ : S86) [.int .u64 (IntKind.u64.wrap (wrap64 (x8_1 + 1))), .int .u64 (rd l0 x8_1)] (fun _ => True) (fun _ => False) rfl rfl ?aP (fun _ hk => hk.elim) ?aF ?aO ?aB ?aS ?aL ?_; (case aP => exact k86_mkM _ _ _ (⟨IntKind.u64.wrap (wrap64 (x8_1 + 1)), rd l0 x8_1⟩ : S86)); (case aB => exact (by with_reducible repeat first | exact HB.out | apply qda | apply qba | apply qca)); (case aF => exact (fun _ _ => trivial)); (case aO => exact (by (with_reducible repeat first | apply Kd.qoa | apply Kd.qna | apply Kd.R_drew); exact HO_3.out)); (case aS => exact (qla (by with_reducible repeat first | exact HB.out | apply qda | apply qba | apply qca))); (case aL => have := LMc5.out; omega); intro v934 w6 ho hb hg hat; rw [← Ny933.out] at ho; have n0_ := Aside0.mk (hb); have n1_ := Aside0.mk (ho); clear HB; clear HO_3; have HB := n0_; have HO935 := n1_; clear n0_ n1_; clear ho hb hg hat))
       go_roundg k1
       case measure => have := HK1.out; omega
       case rel => exact ⟨(y933), (wrap64 (x8_1 + 1)), (by first | rfl | (simp; done) | (simp [*]; done)), H', ⟨by have := HK1.out; omega⟩, ⟨by (with_reducible repeat first | apply Kd.qoa | apply Kd.qna | apply Kd.R_drew); exact HO935.out⟩, ⟨by repeat (first | (with_reducible first | exact HB.out | apply qda | apply qba | apply qca) | exact HB.out)⟩⟩
      ·rw [if_neg c5] at H
       exact absurd H (by simp)
     ·rw [if_neg c4] at H
      exact absurd H (by simp)
    ·rw [if_neg c3] at H
     exact absurd H (by simp)
   ·rw [if_neg c2] at H
    have c2b0 : decide (x8_1 < (l0.length : Int)) = false := decide_eq_false c2
    clear c2
    obtain rfl := Option.some.inj H
    go_wp2
    go_ret
    exact ⟨_, by first | rfl | (simp [errW_none, errW_some] <;> rfl) | (simp [*, errW_none, errW_some] <;> rfl), by (with_reducible repeat first | apply Kd.qoa | apply Kd.qna | apply Kd.R_drew); exact HO_3.out, by repeat (first | (with_reducible first | exact HB.out | apply qda | apply qba | apply qca) | exact HB.out)⟩
def qrb.j0 : Nat → Int → List Int → Bool → Int → Int → Int → Option (Bool × Int)
 | 0, _, _, _, _, _, _ => none
 | k + 1, x1, x2, x22, x937000, x937001, x937002 => if x22 = true then (some (false, 2)) else (if x1 ≥ x937001 then (some (true, 0)) else ((qyb.f k x2).bind fun t942 => ((qza.f k x937000 t942).bind fun t945 => (some (decide ((t945.length : Int) ≤ (wrap64 (x1 + 1))), 0)))))
def qrb.f (k : Nat) (a0_0 : Int) (a0_1 : Int) (a0_2 : Int) (a1 : Int) (l2 : List Int) : Option (Bool × Int) := (qab.f k a0_0 a0_1 a0_2).bind fun t937 => (if t937 = 0 then (if a1 < 0 then (qrb.j0 k a1 l2 true a0_0 a0_1 a0_2) else ((qqb.f k a0_0 a0_1 a0_2 (([l2] : List (List Int)))).bind fun t941 => (qrb.j0 k a1 l2 (t941 != 0) a0_0 a0_1 a0_2))) else (some (false, t937)))
def qrb.T6 : Bool × List (List Nat × List Nat) := (true, [([], []), ([], []), ([1], [1]), ([0, 2], [0, 2]), ([3], [3]), ([4], [4]), ([5, 4], [4, 5]), ([4], [4]), ([7, 4, 4], [4, 7]), ([6, 8, 8, 4], [4, 6, 8]), ([9, 4], [4, 9]), ([4], [4]), ([11, 4], [4, 11]), ([10, 12, 4], [4, 10, 12]), ([4, 13], [4, 13]), ([14, 9, 0, 1, 2, 3, 4, 5, 6, 7, 8, 9, 10, 11, 12, 13, 14], [14]), ([15, 0, 1, 2, 3, 4, 5, 6, 7, 8, 9, 10, 11, 12, 13, 14, 15], [])])
def qrb.B6 : List Nat := [0, 0, 2, 7, 15, 31, 63, 31, 159, 511, 1023, 31, 2079, 8191, 16383, 32767, 65535]
theorem qrb.tab6 : rtab .any (opsOf Try.f83 6) = qrb.T6 := by kernel_rfl
theorem qrb.bits6 : waitsOk qrb.T6.2 qrb.B6 = true := by kernel_rfl
theorem qrb.calls (k : Nat) (a0_0 : Int) (a0_1 : Int) (a0_2 : Int) (a1 : Int) (P2_ : Nat → Prop) (A2 : Option Addr) (c2 : Nat) (l2 : List Int) (r1 : Bool) (r2 : Int) (w : World) (hs2 : Kd.V (Kd.int .u64) 22 w w.heap.size (fun k_ => P2_ k_) (.slice A2 l2.length c2) l2) (h : qrb.f k a0_0 a0_1 a0_2 a1 l2 = some (r1, r2)) :
  Calls Try.prog 83 #[.agg #[.int .u64 a0_0, .int .i64 a0_1, .int .i64 a0_2], .int .i64 a1, .slice A2 l2.length c2] w fun e w' => e = .returned (.tuple #[.bool r1, .int .i64 r2]) ∧ Below w.heap.size w w' := by
 have hu24 := Try.underlying24
 have HO2 := Aside0.mk (show Kd.V (Kd.int .u64) 22 w w.heap.size (fun k_ => (P2_ k_ ∨ w.heap.size ≤ k_)) (.slice A2 l2.length c2) l2 from Kd.V_mono hs2 (fun k_ hk => .inl hk))
 have HB := Aside0.mk (Below.refl w.heap.size w)
 have H : ((qab.f k a0_0 a0_1 a0_2).bind fun t937 => (if t937 = 0 then (if a1 < 0 then (qrb.j0 k a1 l2 true a0_0 a0_1 a0_2) else ((qqb.f k a0_0 a0_1 a0_2 (([l2] : List (List Int)))).bind fun t941 => (qrb.j0 k a1 l2 (t941 != 0) a0_0 a0_1 a0_2))) else (some (false, t937)))) = some (r1, r2) := h
 clear h
 replace H := Option.bind_eq_some_iff.mp H
 obtain ⟨t937, A40, H⟩ := H
 try dsimp only at H
 have A4 := Aside0.mk A40
 clear A40
 by_cases c5 : t937 = 0
 ·rw [if_pos c5] at H
  have c5b0 : (t937 == 0) = true := beq_iff_eq.mpr c5
  have c5b1 : (t937 != 0) = false := bne_eq_false_iff_eq.mpr c5
  clear c5
  have HC6 := Aside0.mk H
  clear H
  go_enter Try.func83, Try.ntmps83
  go_upto_region 4 with (first | ((with_reducible refine gate_dst (N := 3) rfl ?_); (try (refine gate_guard (by rfl) ?_; dsimp only)); refine box_event ?hg (N := 3) ?hd (cs := #[.int .u64 a0_0, .int .i64 a0_1, .int .i64 a0_2]) (t := 24) ?hr ?_; (case hd => rfl); (case hg => rfl); (case hr => first | (go_simp; done) | (go_simp; rfl)); intro gb936 hg w7 hbox hb; have n0_ := Aside0.mk (Kd.V_below (Kd.V_elderB (by (with_reducible repeat first | apply Kd.V_alloc | apply Kd.V_drewN | apply Kd.V_drew); exact HO2.out) gb936 (Nat.le_of_eq hg.symm)) hb); have n1_ := Aside0.mk (qma (by with_reducible repeat first | exact HB.out | apply qda | apply qba | apply qca) hb); have n2_ := Aside0.mk (hbox); have n3_ := Aside0.mk ((by rw [hg]; exact (qla (by with_reducible repeat first | exact HB.out | apply qda | apply qba | apply qca)) : w.heap.size ≤ gb936)); have n4_ := Aside0.mk ((by rw [hg]; exact (qla (by with_reducible repeat first | exact HB.out | apply qda | apply qba | apply qca)) : w.heap.size ≤ gb936)); clear HO2; clear HB; have HO2 := n0_; have HB := n1_; have BK936 := n2_; have GW936 := n3_; have GE936 := n4_; clear n0_ n1_ n2_ n3_ n4_; clear hb hbox hg; have hcz8_0 : w7.cell? ⟨gb936, 0, none⟩ = some (.int .u64 a0_0) := (qja BK936.out 0).trans rfl; have hcz8_1 : w7.cell? ⟨gb936, 1, none⟩ = some (.int .i64 a0_1) := (qja BK936.out 1).trans rfl; have hcz8_2 : w7.cell? ⟨gb936, 2, none⟩ = some (.int .i64 a0_2) := (qja BK936.out 2).trans rfl; have hfz8_0 := qha BK936.out 0; have hfz8_1 := qha BK936.out 1; have hfz8_2 := qha BK936.out 2) | ((with_reducible refine qqa (f := 64) rfl ?_); refine goesL_ (some 10) rfl rfl Try.func64 (by kernel_rfl) rfl #[.agg #[.int .u64 a0_0, .int .i64 a0_1, .int .i64 a0_2]] rfl (by (try simp only [qM1, qM2, qM3]); first | done | rfl) ?_; (with_reducible refine (qab.calls k a0_0 a0_1 a0_2 t937 _ A4.out).mono ?_); rintro e w9 ⟨rfl, hb⟩; refine ⟨_, rfl, ?_⟩; have n0_ := Aside0.mk (Kd.V_below (by (with_reducible repeat first | apply Kd.V_alloc | apply Kd.V_drewN | apply Kd.V_drew); exact HO2.out) hb); have n1_ := Aside0.mk (qpa (g := gb936) (o := .cells #[.int .u64 a0_0, .int .i64 a0_1, .int .i64 a0_2] 24 (0, 0)) (by (with_reducible repeat first | refine qfa ?_ _ | refine qia ?_ | refine qea ?_ _); exact BK936.out) hb); have n2_ := Aside0.mk (qma (by with_reducible repeat first | exact HB.out | apply qda | apply qba | apply qca | refine qga ?_ GE936.out) hb); clear HO2; clear BK936; clear HB; have HO2 := n0_; have BK936 := n1_; have HB := n2_; clear n0_ n1_ n2_; (try clear hb); (try clear hb2); (try clear hk); (try clear hi)))
  (try simp only [Act.put, qS1, qS2, qS3])
  go_cut [22] (fun v22 wc => ∃ (kq : Nat) (x22_5 : Bool), v22 = .bool x22_5 ∧ Aside0 (qrb.j0 kq a1 l2 x22_5 a0_0 a0_1 a0_2 = some (r1, r2)) ∧ Aside0 (kq ≤ k) ∧ Aside0 (Kd.V (Kd.int .u64) 22 wc w.heap.size (fun k_ => (P2_ k_ ∨ w.heap.size ≤ k_) ∧ k_ ≠ gb936) (.slice A2 l2.length c2) l2) ∧ Aside0 (wc.heap[gb936]? = some (.cells #[.int .u64 a0_0, .int .i64 a0_1, .int .i64 a0_2] 24 (0, 0))) ∧ Aside0 (Below w.heap.size w wc))
  case first =>
   have H := HC6.out
   clear HC6
   by_cases c10 : a1 < 0
   ·rw [if_pos c10] at H
    have c10b0 : decide (a1 < 0) = true := decide_eq_true c10
    clear c10
    (first | rw [c10b0] | (simp only [i64_w, i32_w]; rw [c10b0]) | skip)
    have H' := Aside0.mk H
    clear H
    go_wp2
    go_meet
    case rel => exact ⟨_, (true), (by first | rfl | (simp; done) | (simp [*]; done)), H', ⟨by first | omega | exact Nat.le_refl _⟩, ⟨by (with_reducible repeat first | apply Kd.V_alloc | apply Kd.V_drewN | apply Kd.V_drew); exact HO2.out⟩, ⟨by (with_reducible repeat first | refine qfa ?_ _ | refine qia ?_ | refine qea ?_ _); exact BK936.out⟩, ⟨by repeat (first | (with_reducible first | exact HB.out | apply qda | apply qba | apply qca | refine qga ?_ GE936.out) | exact HB.out)⟩⟩
   ·rw [if_neg c10] at H
    have c10b0 : decide (a1 < 0) = false := decide_eq_false c10
    clear c10
    (first | rw [c10b0] | (simp only [i64_w, i32_w]; rw [c10b0]) | skip)
    obtain ⟨y938, hy938⟩ : ∃ y_ : List (List Int), y_ = (([l2] : List (List Int))) := ⟨_, rfl⟩
    replace H : ((qqb.f k a0_0 a0_1 a0_2 y938).bind fun t941 => (qrb.j0 k a1 l2 (t941 != 0) a0_0 a0_1 a0_2)) = some (r1, r2) := by first | (rw [hy938]; with_reducible exact H) | (have H2_ := (Option.bind_some _ _).symm.trans H; rw [hy938]; with_reducible exact H2_) | (have H2_ := (Option.bind_some _ _).symm.trans H; with_reducible exact H2_) | with_reducible exact H | (rw [hy938]; exact H) | exact H
    have Ny938 := Aside0.mk hy938
    clear hy938
    replace H := Option.bind_eq_some_iff.mp H
    obtain ⟨t941, A110, H⟩ := H
    try dsimp only at H
    have A11 := Aside0.mk A110
    clear A110
    have H' := Aside0.mk H
    clear H
    have hcz12_0 : w9.cell? ⟨gb936, 0, none⟩ = some (.int .u64 a0_0) := (qja BK936.out 0).trans rfl
    have hcz12_1 : w9.cell? ⟨gb936, 1, none⟩ = some (.int .i64 a0_1) := (qja BK936.out 1).trans rfl
    have hcz12_2 : w9.cell? ⟨gb936, 2, none⟩ = some (.int .i64 a0_2) := (qja BK936.out 2).trans rfl
    have hfz12_0 := qha BK936.out 0
    have hfz12_1 := qha BK936.out 1
    have hfz12_2 := qha BK936.out 2
    go_wp2_with (first | ((with_reducible refine gate_dst (N := 19) rfl ?_); (try (refine gate_guard (by rfl) ?_; dsimp only)); refine Kd.N_lit (Kd.slice 22 (Kd.int .u64)) _ 31 ?hg (N' := 19) ?hd (xs := ([l2] : List (List Int))) (inner := [.slice A2 l2.length c2]) (ok := (fun k_ => (P2_ k_ ∨ w.heap.size ≤ k_) ∧ k_ ≠ gb936)) (okp := (fun k_ => (P2_ k_ ∨ w.heap.size ≤ k_) ∧ k_ ≠ gb936)) ?hr ?hp (fun _ hk => hk) ((show ∀ k_, w9.heap.size ≤ k_ → (fun k_ => (P2_ k_ ∨ w.heap.size ≤ k_) ∧ k_ ≠ gb936) k_ from fun k_ hk => ⟨(.inr (Nat.le_trans (qla (by with_reducible repeat first | exact HB.out | apply qda | apply qba | apply qca | refine qga ?_ GE936.out)) hk)), Kd.freshB (g := gb936) (o := .cells #[.int .u64 a0_0, .int .i64 a0_1, .int .i64 a0_2] 24 (0, 0)) (by (with_reducible repeat first | refine qfa ?_ _ | refine qia ?_ | refine qea ?_ _); exact BK936.out) k_ hk⟩) _ (Nat.le_refl _)) (Below.refl _ _) (Nat.le_refl _) (by simp) ?_; (case hd => rfl); (case hg => rfl); (case hr => first | (go_simp; done) | (go_simp; rfl)); (case hp => exact (Reps.one (show Kd.FK (Kd.slice 22 (Kd.int .u64)) _ _ l2 [.slice A2 l2.length c2] from (Kd.FK_slice_mk (Kd.V_reads' (Kd.V_mono (ok' := (fun k_ => (P2_ k_ ∨ w.heap.size ≤ k_) ∧ k_ ≠ gb936)) (HO2.out) (fun k_ hk => ⟨hk.1, hk.2⟩))).2.1 (Kd.V_F (Kd.V_mono (ok' := (fun k_ => (P2_ k_ ∨ w.heap.size ≤ k_) ∧ k_ ≠ gb936)) (HO2.out) (fun k_ hk => ⟨hk.1, hk.2⟩))))) (Reps.none _ _))); intro v939 w13 ho14 hb hg_ hnew_; clear hg_ hnew_; (first | rw [← Ny938.out] at ho14 | (simp only [Int.reduceToNat] at ho14; rw [← Ny938.out] at ho14)); have n0_ := Aside0.mk (Kd.V_elder' (by (with_reducible repeat first | apply Kd.V_alloc | apply Kd.V_drewN | apply Kd.V_drew); exact HO2.out) (Kd.N_base ho14) hb); have n1_ := Aside0.mk (Kd.N_lower ho14 (qla (by with_reducible repeat first | exact HB.out | apply qda | apply qba | apply qca | refine qga ?_ GE936.out))); have n2_ := Aside0.mk (qpa (g := gb936) (o := .cells #[.int .u64 a0_0, .int .i64 a0_1, .int .i64 a0_2] 24 (0, 0)) (by (with_reducible repeat first | refine qfa ?_ _ | refine qia ?_ | refine qea ?_ _); exact BK936.out) hb); have n3_ := Aside0.mk (qma (by with_reducible repeat first | exact HB.out | apply qda | apply qba | apply qca | refine qga ?_ GE936.out) hb); clear HO2; clear BK936; clear HB; have HO2 := n0_; have HO940 := n1_; have BK936 := n2_; have HB := n3_; clear n0_ n1_ n2_ n3_; clear hb ho14; obtain ⟨Ao15, co15, eo15⟩ := Kd.N_slice HO940.out; subst eo15) | (go_at_call 146; (with_reducible refine (qqb.calls k a0_0 a0_1 a0_2 _ _ y938 t941 _ ?side1 ?side2 A11.out).mono ?_); (case side1 => repeat (first | exact (Kd.N_reads' HO940.out).2.2 | (with_reducible first | refine Kd.C_alloc ?_ _ | refine Kd.C_drewN ?_ _ | refine Kd.C_drew ?_))); (case side2 => exact (Kd.N_reads' HO940.out).2.1); rintro e w16 ⟨rfl, hb⟩; have n0_ := Aside0.mk (Kd.V_below (by (with_reducible repeat first | apply Kd.V_alloc | apply Kd.V_drewN | apply Kd.V_drew); exact HO2.out) hb); have n1_ := Aside0.mk (Kd.N_below (by (with_reducible repeat first | apply Kd.N_alloc | apply Kd.N_drewN | apply Kd.N_drew); exact HO940.out) hb); have n2_ := Aside0.mk (qpa (g := gb936) (o := .cells #[.int .u64 a0_0, .int .i64 a0_1, .int .i64 a0_2] 24 (0, 0)) (by (with_reducible repeat first | refine qfa ?_ _ | refine qia ?_ | refine qea ?_ _); exact BK936.out) hb); have n3_ := Aside0.mk (qma (by with_reducible repeat first | exact HB.out | apply qda | apply qba | apply qca | refine qga ?_ GE936.out) hb); clear HO2; clear HO940; clear BK936; clear HB; have HO2 := n0_; have HO940 := n1_; have BK936 := n2_; have HB := n3_; clear n0_ n1_ n2_ n3_; (try clear hb); (try clear hb2); (try clear hk); (try clear hi)))
    go_meet
    case rel => exact ⟨_, ((t941 != 0)), (by first | rfl | (simp; done) | (simp [*]; done)), H', ⟨by first | omega | exact Nat.le_refl _⟩, ⟨by (with_reducible repeat first | apply Kd.V_alloc | apply Kd.V_drewN | apply Kd.V_drew); exact Kd.V_mono HO2.out (fun _ hk => ⟨hk.1.1, hk.1.2⟩)⟩, ⟨by (with_reducible repeat first | refine qfa ?_ _ | refine qia ?_ | refine qea ?_ _); exact BK936.out⟩, ⟨by repeat (first | (with_reducible first | exact HB.out | apply qda | apply qba | apply qca | refine qga ?_ GE936.out) | exact HB.out)⟩⟩
  case rest =>
   clear HC6; (try clear c1); (try clear c2); (try clear p2); (try clear c5); (try clear c5b0); (try clear c5b1); (try clear c6); (try clear c8); (try clear c10); (try clear c10b0); (try clear hcz12_0); (try clear hcz12_1); (try clear hcz12_2); (try clear hcz8_0); (try clear hcz8_1); (try clear hcz8_2); (try clear hfz12_0); (try clear hfz12_1); (try clear hfz12_2); (try clear hfz8_0); (try clear hfz8_1); (try clear hfz8_2)
   obtain ⟨kq, x22_5, rfl, HA, HJ5, HO_2, BK936, HB⟩ := hcut
   cases kq with
   | zero => exact absurd HA.out (by simp [qrb.j0])
   | succ kj5 =>
    have H := HA.out
    clear HA
    simp only [qrb.j0] at H
    by_cases c17 : x22_5 = true
    ·subst c17
     have H1 : (some (false, 2)) = some (r1, r2) := by rw [if_pos rfl] at H; exact H
     clear H; have H := H1; clear H1
     simp only [Option.some.injEq, Prod.mk.injEq] at H
     obtain ⟨rfl, rfl⟩ := H
     go_wp2
     go_ret2
     exact ⟨by first | rfl | (simp [errW_none, errW_some] <;> rfl) | (simp [*, errW_none, errW_some] <;> rfl), by repeat (first | (with_reducible first | exact HB.out | apply qda | apply qba | apply qca | refine qga ?_ GE936.out) | exact HB.out)⟩
    ·replace c17 := Bool.eq_false_iff.mpr c17
     subst c17
     have H1 : (if a1 ≥ a0_1 then (some (true, 0)) else ((qyb.f kj5 l2).bind fun t942 => ((qza.f kj5 a0_0 t942).bind fun t945 => (some (decide ((t945.length : Int) ≤ (wrap64 (a1 + 1))), 0))))) = some (r1, r2) := by rw [if_neg (show ¬ (false = true) by decide)] at H; exact H
     clear H; have H := H1; clear H1
     by_cases c18 : a1 ≥ a0_1
     ·rw [if_pos c18] at H
      have c18b0 : decide (a0_1 ≤ a1) = true := decide_eq_true c18
      clear c18
      simp only [Option.some.injEq, Prod.mk.injEq] at H
      obtain ⟨rfl, rfl⟩ := H
      try go_wp2
      have n0_ := Aside0.mk (Kd.V_drew HO_2.out)
      have n1_ := Aside0.mk (qia BK936.out)
      have n2_ := Aside0.mk (qca HB.out)
      clear HO_2 BK936 HB; have HO_2 := n0_; have BK936 := n1_; have HB := n2_; clear n0_ n1_ n2_
      refine start_ (n := 17) (S := fun w' => w'.cell? ⟨gb936, 0, none⟩ = some (.int .u64 a0_0) ∧ w'.cell? ⟨gb936, 1, none⟩ = some (.int .i64 a0_1) ∧ w'.cell? ⟨gb936, 2, none⟩ = some (.int .i64 a0_2)) (ds := []) #[false, false, false, false, false, false, false, false, false, false, false, false, false, false, false, false, false] (by kernel_rfl) rfl rfl ⟨(qja BK936.out 0).trans rfl, (qja BK936.out 1).trans rfl, (qja BK936.out 2).trans rfl⟩ (fun hHeld => ?_); refine with_tabW qrb.tab6 qrb.bits6 (fun HT_ HW_ => ?_)
      generalize wc.drew = w19 at HO_2 BK936 HB hHeld ⊢
      refine pure_ (i := 0) (N := some 23) (v := ?_) (a' := ?_) #[true, false, false, false, false, false, false, false, false, false, false, false, false, false, false, false, false] rfl rfl (any_of HT_.out (by kernel_rfl)) (fun _ _ _ h => h) (Or.inl ⟨by rfl, ?_⟩) ?_ ?_
      rotate_left; (intro w'; go_simp; with_reducible rfl); rotate_left; (simp only [Act.put, qS1, qS2, qS3, i64_w, i32_w]; rfl)
      refine pure_ (i := 1) (N := some 24) (v := ?_) (a' := ?_) #[true, true, false, false, false, false, false, false, false, false, false, false, false, false, false, false, false] rfl rfl (any_of HT_.out (by kernel_rfl)) (fun _ _ _ h => h) (Or.inl ⟨by rfl, ?_⟩) ?_ ?_
      rotate_left; (intro w'; go_simp; with_reducible rfl); rotate_left; (simp only [Act.put, qS1, qS2, qS3, i64_w, i32_w]; rfl)
      refine take_ (i := 2) (N := some 25) (v := ?_) (a' := ?_) #[true, true, true, false, false, false, false, false, false, false, false, false, false, false, false, false, false] rfl rfl (take_ofW HT_.out HW_.out (by kernel_rfl)) (fun _ _ _ h => h) (Or.inl ⟨by rfl, ?_⟩) hHeld ?_ ?_
      rotate_left; (rintro w' ⟨s0, s1, s2⟩; go_simp; with_reducible rfl); rotate_left; (simp only [Act.put, qS1, qS2, qS3, i64_w, i32_w]; rfl)
      refine pure_ (i := 3) (N := some 26) (v := ?_) (a' := ?_) #[true, true, true, true, false, false, false, false, false, false, false, false, false, false, false, false, false] rfl rfl (any_of HT_.out (by kernel_rfl)) (fun _ _ _ h => h) (Or.inl ⟨by rfl, ?_⟩) ?_ ?_
      rotate_left; (intro w'; go_simp; with_reducible rfl); rotate_left; (simp only [Act.put, qS1, qS2, qS3, i64_w, i32_w]; rfl)
      refine pure_ (i := 4) (N := some 27) (v := ?_) (a' := ?_) #[true, true, true, true, true, false, false, false, false, false, false, false, false, false, false, false, false] rfl rfl (any_of HT_.out (by kernel_rfl)) (fun _ _ _ h => h) (Or.inl ⟨by rfl, ?_⟩) ?_ ?_
      rotate_left; (intro w'; go_simp; with_reducible rfl); rotate_left; (simp only [Act.put, qS1, qS2, qS3, i64_w, i32_w]; rfl)
      refine pure_ (i := 5) (N := some 28) (v := undef) (a' := ?_) #[true, true, true, true, true, true, false, false, false, false, false, false, false, false, false, false, false] rfl rfl (any_of HT_.out (by kernel_rfl)) (fun _ _ _ h => h) (Or.inr ⟨by rfl, rfl⟩) ?_ ?_
      rotate_left
      ·simp only [Act.put, qS1, qS2, qS3, i64_w, i32_w]
       rfl
      refine pure_ (i := 6) (N := some 29) (v := undef) (a' := ?_) #[true, true, true, true, true, true, true, false, false, false, false, false, false, false, false, false, false] rfl rfl (any_of HT_.out (by kernel_rfl)) (fun _ _ _ h => h) (Or.inr ⟨by rfl, rfl⟩) ?_ ?_
      rotate_left
      ·simp only [Act.put, qS1, qS2, qS3, i64_w, i32_w]
       rfl
      refine pure_ (i := 7) (N := some 30) (v := undef) (a' := ?_) #[true, true, true, true, true, true, true, true, false, false, false, false, false, false, false, false, false] rfl rfl (any_of HT_.out (by kernel_rfl)) (fun _ _ _ h => h) (Or.inr ⟨by rfl, rfl⟩) ?_ ?_
      rotate_left
      ·simp only [Act.put, qS1, qS2, qS3, i64_w, i32_w]
       rfl
      refine pure_ (i := 8) (N := some 31) (v := undef) (a' := ?_) #[true, true, true, true, true, true, true, true, true, false, false, false, false, false, false, false, false] rfl rfl (any_of HT_.out (by kernel_rfl)) (fun _ _ _ h => h) (Or.inr ⟨by rfl, rfl⟩) ?_ ?_
      rotate_left
      ·simp only [Act.put, qS1, qS2, qS3, i64_w, i32_w]
       rfl
      refine pure_ (i := 9) (N := some 32) (v := undef) (a' := ?_) #[true, true, true, true, true, true, true, true, true, true, false, false, false, false, false, false, false] rfl rfl (any_of HT_.out (by kernel_rfl)) (fun _ _ _ h => h) (Or.inr ⟨by rfl, rfl⟩) ?_ ?_
      rotate_left
      ·simp only [Act.put, qS1, qS2, qS3, i64_w, i32_w]
       rfl
      refine pure_ (i := 10) (N := some 33) (v := undef) (a' := ?_) #[true, true, true, true, true, true, true, true, true, true, true, false, false, false, false, false, false] rfl rfl (any_of HT_.out (by kernel_rfl)) (fun _ _ _ h => h) (Or.inr ⟨by rfl, rfl⟩) ?_ ?_
      rotate_left
      ·simp only [Act.put, qS1, qS2, qS3, i64_w, i32_w]
       rfl
      refine pure_ (i := 11) (N := some 34) (v := undef) (a' := ?_) #[true, true, true, true, true, true, true, true, true, true, true, true, false, false, false, false, false] rfl rfl (any_of HT_.out (by kernel_rfl)) (fun _ _ _ h => h) (Or.inr ⟨by rfl, rfl⟩) ?_ ?_
      rotate_left
      ·simp only [Act.put, qS1, qS2, qS3, i64_w, i32_w]
       rfl
      refine pure_ (i := 12) (N := some 35) (v := undef) (a' := ?_) #[true, true, true, true, true, true, true, true, true, true, true, true, true, false, false, false, false] rfl rfl (any_of HT_.out (by kernel_rfl)) (fun _ _ _ h => h) (Or.inr ⟨by rfl, rfl⟩) ?_ ?_
      rotate_left
      ·simp only [Act.put, qS1, qS2, qS3, i64_w, i32_w]
       rfl
      refine pure_ (i := 13) (N := some 36) (v := undef) (a' := ?_) #[true, true, true, true, true, true, true, true, true, true, true, true, true, true, false, false, false] rfl rfl (any_of HT_.out (by kernel_rfl)) (fun _ _ _ h => h) (Or.inr ⟨by rfl, rfl⟩) ?_ ?_
      rotate_left
      ·simp only [Act.put, qS1, qS2, qS3, i64_w, i32_w]
       rfl
      refine pure_ (i := 14) (N := some 37) (v := ?_) (a' := ?_) #[true, true, true, true, true, true, true, true, true, true, true, true, true, true, true, false, false] rfl rfl (any_of HT_.out (by kernel_rfl)) (fun _ _ _ h => h) (Or.inl ⟨by rfl, ?_⟩) ?_ ?_
      rotate_left; (intro w'; go_simp; with_reducible rfl); rotate_left; (simp only [Act.put, qS1, qS2, qS3, i64_w, i32_w]; rfl)
      refine pure_ (i := 15) (N := some 6) (v := ?_) (a' := ?_) #[true, true, true, true, true, true, true, true, true, true, true, true, true, true, true, true, false] rfl rfl (any_of HT_.out (by kernel_rfl)) (fun _ _ _ h => h) (Or.inl ⟨by rfl, ?_⟩) ?_ ?_
      rotate_left; (intro w'; go_simp; with_reducible rfl); rotate_left; (simp only [Act.put, qS1, qS2, qS3, i64_w, i32_w]; rfl)
      refine pure_ (i := 16) (N := some 7) (v := ?_) (a' := ?_) #[true, true, true, true, true, true, true, true, true, true, true, true, true, true, true, true, true] rfl rfl (any_of HT_.out (by kernel_rfl)) (fun _ _ _ h => h) (Or.inl ⟨by rfl, ?_⟩) ?_ ?_
      rotate_left; (intro w'; go_simp; with_reducible rfl); rotate_left; (simp only [Act.put, qS1, qS2, qS3, i64_w, i32_w]; rfl)
      refine done_ (done_of HT_.out (by kernel_rfl)) ?_
      try go_wp2
      go_ret2
      exact ⟨by first | rfl | (simp [errW_none, errW_some] <;> rfl) | (simp [*, errW_none, errW_some] <;> rfl), by repeat (first | (with_reducible first | exact HB.out | apply qda | apply qba | apply qca | refine qga ?_ GE936.out) | exact HB.out)⟩
     ·rw [if_neg c18] at H
      have c18b0 : decide (a0_1 ≤ a1) = false := decide_eq_false c18
      clear c18
      replace H := Option.bind_eq_some_iff.mp H
      obtain ⟨t942, A200, H⟩ := H
      try dsimp only at H
      have A20 := Aside0.mk A200
      clear A200
      replace H := Option.bind_eq_some_iff.mp H
      obtain ⟨t945, A210, H⟩ := H
      try dsimp only at H
      have A21 := Aside0.mk A210
      clear A210
      simp only [Option.some.injEq, Prod.mk.injEq] at H
      obtain ⟨rfl, rfl⟩ := H
      try go_wp2
      have n0_ := Aside0.mk (Kd.V_drew HO_2.out)
      have n1_ := Aside0.mk (qia BK936.out)
      have n2_ := Aside0.mk (qca HB.out)
      clear HO_2 BK936 HB; have HO_2 := n0_; have BK936 := n1_; have HB := n2_; clear n0_ n1_ n2_
      refine start_ (n := 17) (S := fun w' => w'.cell? ⟨gb936, 0, none⟩ = some (.int .u64 a0_0) ∧ w'.cell? ⟨gb936, 1, none⟩ = some (.int .i64 a0_1) ∧ w'.cell? ⟨gb936, 2, none⟩ = some (.int .i64 a0_2)) (ds := []) #[false, false, false, false, false, false, false, false, false, false, false, false, false, false, false, false, false] (by kernel_rfl) rfl rfl ⟨(qja BK936.out 0).trans rfl, (qja BK936.out 1).trans rfl, (qja BK936.out 2).trans rfl⟩ (fun hHeld => ?_); refine with_tabW qrb.tab6 qrb.bits6 (fun HT_ HW_ => ?_)
      generalize wc.drew = w22 at HO_2 BK936 HB hHeld ⊢
      refine pure_ (i := 0) (N := some 23) (v := ?_) (a' := ?_) #[true, false, false, false, false, false, false, false, false, false, false, false, false, false, false, false, false] rfl rfl (any_of HT_.out (by kernel_rfl)) (fun _ _ _ h => h) (Or.inl ⟨by rfl, ?_⟩) ?_ ?_
      rotate_left; (intro w'; go_simp; with_reducible rfl); rotate_left; (simp only [Act.put, qS1, qS2, qS3, i64_w, i32_w]; rfl)
      refine pure_ (i := 1) (N := some 24) (v := ?_) (a' := ?_) #[true, true, false, false, false, false, false, false, false, false, false, false, false, false, false, false, false] rfl rfl (any_of HT_.out (by kernel_rfl)) (fun _ _ _ h => h) (Or.inl ⟨by rfl, ?_⟩) ?_ ?_
      rotate_left; (intro w'; go_simp; with_reducible rfl); rotate_left; (simp only [Act.put, qS1, qS2, qS3, i64_w, i32_w]; rfl)
      refine take_ (i := 2) (N := some 25) (v := ?_) (a' := ?_) #[true, true, true, false, false, false, false, false, false, false, false, false, false, false, false, false, false] rfl rfl (take_ofW HT_.out HW_.out (by kernel_rfl)) (fun _ _ _ h => h) (Or.inl ⟨by rfl, ?_⟩) hHeld ?_ ?_
      rotate_left; (rintro w' ⟨s0, s1, s2⟩; go_simp; with_reducible rfl); rotate_left; (simp only [Act.put, qS1, qS2, qS3, i64_w, i32_w]; rfl)
      refine pure_ (i := 3) (N := some 26) (v := ?_) (a' := ?_) #[true, true, true, true, false, false, false, false, false, false, false, false, false, false, false, false, false] rfl rfl (any_of HT_.out (by kernel_rfl)) (fun _ _ _ h => h) (Or.inl ⟨by rfl, ?_⟩) ?_ ?_
      rotate_left; (intro w'; go_simp; with_reducible rfl); rotate_left; (simp only [Act.put, qS1, qS2, qS3, i64_w, i32_w]; rfl)
      refine pure_ (i := 4) (N := some 27) (v := ?_) (a' := ?_) #[true, true, true, true, true, false, false, false, false, false, false, false, false, false, false, false, false] rfl rfl (any_of HT_.out (by kernel_rfl)) (fun _ _ _ h => h) (Or.inl ⟨by rfl, ?_⟩) ?_ ?_
      rotate_left; (intro w'; go_simp; with_reducible rfl); rotate_left; (simp only [Act.put, qS1, qS2, qS3, i64_w, i32_w]; rfl)
      refine pure_ (i := 5) (N := some 28) (v := ?_) (a' := ?_) #[true, true, true, true, true, true, false, false, false, false, false, false, false, false, false, false, false] rfl rfl (any_of HT_.out (by kernel_rfl)) (fun _ _ _ h => h) (Or.inl ⟨by rfl, ?_⟩) ?_ ?_
      rotate_left; (intro w'; go_simp; with_reducible rfl); rotate_left; (simp only [Act.put, qS1, qS2, qS3, i64_w, i32_w]; rfl)
      refine pure_ (i := 7) (N := some 30) (v := ?_) (a' := ?_) #[true, true, true, true, true, true, false, true, false, false, false, false, false, false, false, false, false] rfl rfl (any_of HT_.out (by kernel_rfl)) (fun _ _ _ h => h) (Or.inl ⟨by rfl, ?_⟩) ?_ ?_
      rotate_left; (intro w'; go_simp; with_reducible rfl); rotate_left; (simp only [Act.put, qS1, qS2, qS3, i64_w, i32_w]; rfl)
      refine pure_ (i := 11) (N := some 34) (v := ?_) (a' := ?_) #[true, true, true, true, true, true, false, true, false, false, false, true, false, false, false, false, false] rfl rfl (any_of HT_.out (by kernel_rfl)) (fun _ _ _ h => h) (Or.inl ⟨by rfl, ?_⟩) ?_ ?_
      rotate_left; (intro w'; go_simp; with_reducible rfl); rotate_left; (simp only [Act.put, qS1, qS2, qS3, i64_w, i32_w]; rfl)
      refine pure_ (i := 12) (N := some 35) (v := ?_) (a' := ?_) #[true, true, true, true, true, true, false, true, false, false, false, true, true, false, false, false, false] rfl rfl (any_of HT_.out (by kernel_rfl)) (fun _ _ _ h => h) (Or.inl ⟨by rfl, ?_⟩) ?_ ?_
      rotate_left; (intro w'; go_simp; with_reducible rfl); rotate_left; (simp only [Act.put, qS1, qS2, qS3, i64_w, i32_w]; rfl)
      refine take_ (i := 6) (N := some 29) (v := ?_) (a' := ?_) #[true, true, true, true, true, true, true, true, false, false, false, true, true, false, false, false, false] rfl rfl (take_ofW HT_.out HW_.out (by kernel_rfl)) (fun _ _ _ h => h) (Or.inl ⟨by rfl, ?_⟩) hHeld ?_ ?_
      rotate_left; (rintro w' ⟨s0, s1, s2⟩; go_simp; with_reducible rfl); rotate_left; (simp only [Act.put, qS1, qS2, qS3, i64_w, i32_w]; rfl)
      refine one_ (i := 8) (N := some 31) #[true, true, true, true, true, true, true, true, true, false, false, true, true, false, false, false, false] rfl rfl (one_of HT_.out (by kernel_rfl)) (by decide) (fun K hK => ?_)
      refine goes_ Try.func150 (by kernel_rfl) rfl #[.slice A2 l2.length c2] (by rfl) rfl rfl (by (try simp only [qM1, qM2, qM3]); first | done | rfl | (simp only [List.length_drop, List.length_take]; rfl)) ?_
      with_reducible refine (qyb.calls kj5 _ _ l2 t942 _ ?side1 ?side2 A20.out).mono ?_
      (case side1 => repeat (first | exact (Kd.V_reads' HO_2.out).2.2 | (with_reducible first | refine Kd.C_alloc ?_ _ | refine Kd.C_drewN ?_ _ | refine Kd.C_drew ?_)))
      (case side2 => exact (Kd.V_reads' HO_2.out).2.1)
      rintro e w23 ⟨v943, rfl, ho0, hb⟩
      refine ⟨_, rfl, ?_⟩
      have n0_ := Aside0.mk (Kd.V_elder' (by (with_reducible repeat first | apply Kd.V_alloc | apply Kd.V_drewN | apply Kd.V_drew); exact HO_2.out) (Kd.R_base ho0) hb)
      have n1_ := Aside0.mk (Kd.R_lower (Kd.R_newM (M := fun k_ => (w.heap.size ≤ k_)) ho0 (qla (by with_reducible repeat first | exact HB.out | apply qda | apply qba | apply qca | refine qga ?_ GE936.out)) (fun k_ h_ => h_)) (qla (by with_reducible repeat first | exact HB.out | apply qda | apply qba | apply qca | refine qga ?_ GE936.out)))
      have n2_ := Aside0.mk (qpa (g := gb936) (o := .cells #[.int .u64 a0_0, .int .i64 a0_1, .int .i64 a0_2] 24 (0, 0)) (by (with_reducible repeat first | refine qfa ?_ _ | refine qia ?_ | refine qea ?_ _); exact BK936.out) hb)
      have n3_ := Aside0.mk (qma (by with_reducible repeat first | exact HB.out | apply qda | apply qba | apply qca | refine qga ?_ GE936.out) hb)
      clear HO_2 BK936 HB; have HO_2 := n0_; have HO944 := n1_; have BK936 := n2_; have HB := n3_; clear n0_ n1_ n2_ n3_; (try clear hb); (try clear hb2); (try clear hk); (try clear hi); (try clear ho0)
      obtain ⟨Ao24, co24, eo24⟩ := Kd.R_slice HO944.out
      (first | subst eo24 | (injection eo24 with f1_ f2_ f3_; have f4_ := f1_.symm; have f5_ := f3_.symm; clear f1_ f2_ f3_; subst f4_; subst f5_))
      refine hK.out _ _ ⟨(qja BK936.out 0).trans rfl, (qja BK936.out 1).trans rfl, (qja BK936.out 2).trans rfl⟩ (fun hHeld => ?_)
      clear hK K
      refine norm_ (a' := ?_) ?_ ?_
      rotate_left
      ·show Act.put _ (some 31) _ = _
       simp only [Act.put, qS1, qS2, qS3, i64_w, i32_w]
       rfl
      refine one_ (i := 9) (N := some 32) #[true, true, true, true, true, true, true, true, true, true, false, true, true, false, false, false, false] rfl rfl (one_of HT_.out (by kernel_rfl)) (by decide) (fun K hK => ?_)
      refine goes_ Try.func149 (by kernel_rfl) rfl #[.int .u64 a0_0, .slice Ao24 t942.length co24] (by rfl) rfl rfl (by (try simp only [qM1, qM2, qM3]); first | done | rfl | (simp only [List.length_drop, List.length_take]; rfl)) ?_
      with_reducible refine (qza.calls kj5 a0_0 _ _ t942 t945 _ ?side1 ?side2 A21.out).mono ?_
      (case side1 => repeat (first | exact (Kd.R_reads' HO944.out).2.2 | (with_reducible first | refine Kd.C_alloc ?_ _ | refine Kd.C_drewN ?_ _ | refine Kd.C_drew ?_)))
      (case side2 => exact (Kd.R_reads' HO944.out).2.1)
      rintro e w25 ⟨v946, rfl, ho0, hb⟩
      refine ⟨_, rfl, ?_⟩
      have n0_ := Aside0.mk (Kd.V_elder' (by (with_reducible repeat first | apply Kd.V_alloc | apply Kd.V_drewN | apply Kd.V_drew); exact HO_2.out) (Kd.R_base ho0) hb)
      have n1_ := Aside0.mk (Kd.R_below (by (with_reducible repeat first | apply Kd.qoa | apply Kd.qna | apply Kd.R_drew); exact HO944.out) hb)
      have n2_ := Aside0.mk (Kd.R_lower (Kd.R_newM (M := fun k_ => (w.heap.size ≤ k_)) ho0 (qla (by with_reducible repeat first | exact HB.out | apply qda | apply qba | apply qca | refine qga ?_ GE936.out)) (fun k_ h_ => h_)) (qla (by with_reducible repeat first | exact HB.out | apply qda | apply qba | apply qca | refine qga ?_ GE936.out)))
      have n3_ := Aside0.mk (qpa (g := gb936) (o := .cells #[.int .u64 a0_0, .int .i64 a0_1, .int .i64 a0_2] 24 (0, 0)) (by (with_reducible repeat first | refine qfa ?_ _ | refine qia ?_ | refine qea ?_ _); exact BK936.out) hb)
      have n4_ := Aside0.mk (qma (by with_reducible repeat first | exact HB.out | apply qda | apply qba | apply qca | refine qga ?_ GE936.out) hb)
      clear HO_2 HO944 BK936 HB; have HO_2 := n0_; have HO944 := n1_; have HO947 := n2_; have BK936 := n3_; have HB := n4_; clear n0_ n1_ n2_ n3_ n4_; (try clear hb); (try clear hb2); (try clear hk); (try clear hi); (try clear ho0)
      obtain ⟨Ao26, co26, eo26⟩ := Kd.R_slice HO947.out
      (first | subst eo26 | (injection eo26 with f1_ f2_ f3_; have f4_ := f1_.symm; have f5_ := f3_.symm; clear f1_ f2_ f3_; subst f4_; subst f5_))
      refine hK.out _ _ ⟨(qja BK936.out 0).trans rfl, (qja BK936.out 1).trans rfl, (qja BK936.out 2).trans rfl⟩ (fun hHeld => ?_)
      clear hK K
      refine norm_ (a' := ?_) ?_ ?_
      rotate_left
      ·show Act.put _ (some 32) _ = _
       simp only [Act.put, qS1, qS2, qS3, i64_w, i32_w]
       rfl
      refine pure_ (i := 10) (N := some 33) (v := ?_) (a' := ?_) #[true, true, true, true, true, true, true, true, true, true, true, true, true, false, false, false, false] rfl rfl (any_of HT_.out (by kernel_rfl)) (fun _ _ _ h => h) (Or.inl ⟨by rfl, ?_⟩) ?_ ?_
      rotate_left; (intro w'; go_simp; with_reducible rfl); rotate_left; (simp only [Act.put, qS1, qS2, qS3, i64_w, i32_w]; rfl)
      refine pure_ (i := 13) (N := some 36) (v := ?_) (a' := ?_) #[true, true, true, true, true, true, true, true, true, true, true, true, true, true, false, false, false] rfl rfl (any_of HT_.out (by kernel_rfl)) (fun _ _ _ h => h) (Or.inl ⟨by rfl, ?_⟩) ?_ ?_
      rotate_left; (intro w'; go_simp; with_reducible rfl); rotate_left; (simp only [Act.put, qS1, qS2, qS3, i64_w, i32_w]; rfl)
      refine pure_ (i := 14) (N := some 37) (v := ?_) (a' := ?_) #[true, true, true, true, true, true, true, true, true, true, true, true, true, true, true, false, false] rfl rfl (any_of HT_.out (by kernel_rfl)) (fun _ _ _ h => h) (Or.inl ⟨by rfl, ?_⟩) ?_ ?_
      rotate_left; (intro w'; go_simp; with_reducible rfl); rotate_left; (simp only [Act.put, qS1, qS2, qS3, i64_w, i32_w]; rfl)
      refine pure_ (i := 15) (N := some 6) (v := ?_) (a' := ?_) #[true, true, true, true, true, true, true, true, true, true, true, true, true, true, true, true, false] rfl rfl (any_of HT_.out (by kernel_rfl)) (fun _ _ _ h => h) (Or.inl ⟨by rfl, ?_⟩) ?_ ?_
      rotate_left; (intro w'; go_simp; with_reducible rfl); rotate_left; (simp only [Act.put, qS1, qS2, qS3, i64_w, i32_w]; rfl)
      refine pure_ (i := 16) (N := some 7) (v := ?_) (a' := ?_) #[true, true, true, true, true, true, true, true, true, true, true, true, true, true, true, true, true] rfl rfl (any_of HT_.out (by kernel_rfl)) (fun _ _ _ h => h) (Or.inl ⟨by rfl, ?_⟩) ?_ ?_
      rotate_left; (intro w'; go_simp; with_reducible rfl); rotate_left; (simp only [Act.put, qS1, qS2, qS3, i64_w, i32_w]; rfl)
      refine done_ (done_of HT_.out (by kernel_rfl)) ?_
      try go_wp2
      go_ret2
      exact ⟨by first | rfl | (simp [errW_none, errW_some] <;> rfl) | (simp [*, errW_none, errW_some] <;> rfl), by repeat (first | (with_reducible first | exact HB.out | apply qda | apply qba | apply qca | refine qga ?_ GE936.out) | exact HB.out)⟩
 ·rw [if_neg c5] at H
  have c5b0 : (t937 == 0) = false := beq_eq_false_iff_ne.mpr c5
  have c5b1 : (t937 != 0) = true := bne_iff_ne.mpr c5
  simp only [Option.some.injEq, Prod.mk.injEq] at H
  obtain ⟨rfl, rfl⟩ := H
  go_enter Try.func83, Try.ntmps83
  go_wp2_with (first | ((with_reducible refine gate_dst (N := 3) rfl ?_); (try (refine gate_guard (by rfl) ?_; dsimp only)); refine box_event ?hg (N := 3) ?hd (cs := #[.int .u64 a0_0, .int .i64 a0_1, .int .i64 a0_2]) (t := 24) ?hr ?_; (case hd => rfl); (case hg => rfl); (case hr => first | (go_simp; done) | (go_simp; rfl)); intro gb936 hg w27 hbox hb; have n0_ := Aside0.mk (Kd.V_below (Kd.V_elderB (by (with_reducible repeat first | apply Kd.V_alloc | apply Kd.V_drewN | apply Kd.V_drew); exact HO2.out) gb936 (Nat.le_of_eq hg.symm)) hb); have n1_ := Aside0.mk (qma (by with_reducible repeat first | exact HB.out | apply qda | apply qba | apply qca) hb); have n2_ := Aside0.mk (hbox); have n3_ := Aside0.mk ((by rw [hg]; exact (qla (by with_reducible repeat first | exact HB.out | apply qda | apply qba | apply qca)) : w.heap.size ≤ gb936)); have n4_ := Aside0.mk ((by rw [hg]; exact (qla (by with_reducible repeat first | exact HB.out | apply qda | apply qba | apply qca)) : w.heap.size ≤ gb936)); clear HO2; clear HB; have HO2 := n0_; have HB := n1_; have BK936 := n2_; have GW936 := n3_; have GE936 := n4_; clear n0_ n1_ n2_ n3_ n4_; clear hb hbox hg; have hcz28_0 : w27.cell? ⟨gb936, 0, none⟩ = some (.int .u64 a0_0) := (qja BK936.out 0).trans rfl; have hcz28_1 : w27.cell? ⟨gb936, 1, none⟩ = some (.int .i64 a0_1) := (qja BK936.out 1).trans rfl; have hcz28_2 : w27.cell? ⟨gb936, 2, none⟩ = some (.int .i64 a0_2) := (qja BK936.out 2).trans rfl; have hfz28_0 := qha BK936.out 0; have hfz28_1 := qha BK936.out 1; have hfz28_2 := qha BK936.out 2) | ((with_reducible refine qqa (f := 64) rfl ?_); refine goesL_ (some 10) rfl rfl Try.func64 (by kernel_rfl) rfl #[.agg #[.int .u64 a0_0, .int .i64 a0_1, .int .i64 a0_2]] rfl (by (try simp only [qM1, qM2, qM3]); first | done | rfl) ?_; (with_reducible refine (qab.calls k a0_0 a0_1 a0_2 t937 _ A4.out).mono ?_); rintro e w29 ⟨rfl, hb⟩; refine ⟨_, rfl, ?_⟩; have n0_ := Aside0.mk (Kd.V_below (by (with_reducible repeat first | apply Kd.V_alloc | apply Kd.V_drewN | apply Kd.V_drew); exact HO2.out) hb); have n1_ := Aside0.mk (qpa (g := gb936) (o := .cells #[.int .u64 a0_0, .int .i64 a0_1, .int .i64 a0_2] 24 (0, 0)) (by (with_reducible repeat first | refine qfa ?_ _ | refine qia ?_ | refine qea ?_ _); exact BK936.out) hb); have n2_ := Aside0.mk (qma (by with_reducible repeat first | exact HB.out | apply qda | apply qba | apply qca | refine qga ?_ GE936.out) hb); clear HO2; clear BK936; clear HB; have HO2 := n0_; have BK936 := n1_; have HB := n2_; clear n0_ n1_ n2_; (try clear hb); (try clear hb2); (try clear hk); (try clear hi)))
  go_ret2
  exact ⟨by first | rfl | (simp [errW_none, errW_some] <;> rfl) | (simp [*, errW_none, errW_some] <;> rfl), by repeat (first | (with_reducible first | exact HB.out | apply qda | apply qba | apply qca | refine qga ?_ GE936.out) | exact HB.out)⟩
def qua.l0 : Nat → List (S86) → List Int → Int → Int → Option ((List (S86)))
 | 0, _, _, _, _ => none
 | k + 1, x3, x6, x7, x8 => if x8 < x7 then (if 0 ≤ x8 then (if x8 < (x6.length : Int) then (if x3.length < 8796093022208 then (qua.l0 k (x3 ++ [(⟨IntKind.u64.wrap (wrap64 (x8 + 1)), rd x6 x8⟩ : S86)]) x6 x7 (wrap64 (x8 + 1))) else (none)) else (none)) else (none)) else (some x3)
def qua.f (k : Nat) (l0 : List Int) : Option ((List (S86))) := qua.l0 k ([] : List (S86)) l0 (l0.length : Int) 0
theorem qua.calls (k : Nat) (A0 : Option Addr) (c0 : Nat) (l0 : List Int) (r : List (S86)) (w : World) (hr0 : Kd.C (Kd.int .u64) w A0 l0.length l0) (hc0 : l0.length ≤ c0) (h : qua.f k l0 = some r) :
  Calls Try.prog 85 #[.slice A0 l0.length c0] w fun e w' => ∃ v0_ : Value, e = .returned (v0_) ∧ Kd.R k86 86 w' w.heap.size (fun _ => True) v0_ r ∧ Below w.heap.size w w' := by
 have hu86 := Try.underlying86
 have HR0 := Aside0.mk hr0
 have HC0 := Aside0.mk hc0
 clear hr0 hc0
 have HB := Aside0.mk (Below.refl w.heap.size w)
 have H : (qua.l0 k ([] : List (S86)) l0 (l0.length : Int) 0) = some r := h
 clear h
 have H' := Aside0.mk H
 clear H
 go_enter Try.func85, Try.ntmps85
 go_wp2
 go_loopg [3, 8] k (fun kq v3 v8 w' => ∃ (x3_1 : List (S86)) (x8_1 : Int), v8 = .int .i64 x8_1 ∧ Aside0 (qua.l0 kq x3_1 l0 (l0.length : Int) x8_1 = some r) ∧ Aside0 (kq ≤ k) ∧ Aside0 (Kd.R k86 86 w' w.heap.size (fun _ => True) v3 x3_1) ∧ Aside0 (Below w.heap.size w w'))
 case atStart => exact ⟨(([] : List (S86))), (0), (by first | rfl | (simp; done) | (simp [*]; done)), H', ⟨Nat.le_refl _⟩, ⟨by first | exact Kd.R_nil _ _ _ _ _ | exact Kd.N_nil _ _ _ _ _ | exact Kd.V_nil _ _ _ _ _ | exact Kd.Q_nil _ _ _ _ _ | exact Kd.S_nil _ _ _ _ _⟩, ⟨by repeat (first | (with_reducible first | exact HB.out | apply qda | apply qba | apply qca) | exact HB.out)⟩⟩
 case round =>
  clear H'
  obtain ⟨x3_1, x8_1, rfl, HA, HK1, HO_3, HB⟩ := hrel
  cases gk with
  | zero => exact absurd HA.out (by simp [qua.l0])
  | succ k1 =>
   have H := HA.out
   clear HA
   simp only [qua.l0] at H
   by_cases c2 : x8_1 < (l0.length : Int)
   ·rw [if_pos c2] at H
    have c2b0 : decide (x8_1 < (l0.length : Int)) = true := decide_eq_true c2
    clear c2
    by_cases c3 : 0 ≤ x8_1
    ·rw [if_pos c3] at H
     have c3b0 : decide (0 ≤ x8_1) = true := decide_eq_true c3
     clear c3
     by_cases c4 : x8_1 < (l0.length : Int)
     ·rw [if_pos c4] at H
      have c4b0 : decide (x8_1 < (l0.length : Int)) = true := decide_eq_true c4
      clear c4
      by_cases c5 : x3_1.length < 8796093022208
      ·rw [if_pos c5] at H
       have LMc5 := Aside0.mk c5
       clear c5
       obtain ⟨y952, hy952⟩ : ∃ y_ : List (S86), y_ = (x3_1 ++ [(⟨IntKind.u64.wrap (wrap64 (x8_1 + 1)), rd l0 x8_1⟩ : S86)]) := ⟨_, rfl⟩
       replace H : (qua.l0 k1 y952 l0 (l0.length : Int) (wrap64 (x8_1 + 1))) = some r := by first | (rw [hy952]; with_reducible exact H) | (have H2_ := (Option.bind_some _ _).symm.trans H; rw [hy952]; with_reducible exact H2_) | (have H2_ := (Option.bind_some _ _).symm.trans H; with_reducible exact H2_) | with_reducible exact H | (rw [hy952]; exact H) | exact H
       have Ny952 := Aside0.mk hy952
       clear hy952
       have H' := Aside0.mk H
       clear H
       have p951 : 0 ≤ (x8_1 : Int) := of_decide_eq_true (by first | (with_reducible assumption) | assumption)
       have q951 : x8_1 < (l0.length : Int) := of_decide_eq_true (by first | (with_reducible assumption) | assumption)
       obtain ⟨ad951, e951, hx951_0⟩ := Kd.at_int HR0.out x8_1 p951 q951
       cases e951
       replace hx951_0 := (HB.out.cell (World.block_lt_of_cell? w _ hx951_0)).trans hx951_0
       replace p951 := eq_true p951; replace q951 := eq_true q951
       go_wp2_with (first | ((with_reducible refine gate_builtin (b := .append) (xs := #[.tmp 13, .tmp 19]) rfl ?_); at_builtin; refine Kd.R_append k86 (w0 := w) w.heap.size rfl (.tmp 13) (.tmp 19) 87 86 (.agg #[(.int .u64 0), (.int .u64 0)]) 16 rfl Try.underlying87 info86 rfl (by decide) (by omega) u3 x3_1 (⟨IntKind.u64.wrap (wrap64 (x8_1 + 1)), rd l0 x8_1⟩ : S86) [.int .u64 (IntKind.u64.wrap (wrap64 (x8_1 + 1))), .int .u64 (rd l0 x8_1)] (fun _ => True) (fun _ => False) rfl rfl ?aP (fun _ hk => hk.elim) ?aF ?aO ?aB ?aS ?aL ?_; (case aP => exact k86_mkM _ _ _ (⟨IntKind.u64.wrap (wrap64 (x8_1 + 1)), rd l0 x8_1⟩ : S86)); (case aB => exact (by with_reducible repeat first | exact HB.out | apply qda | apply qba | apply qca)); (case aF => exact (fun _ _ => trivial)); (case aO => exact (by (with_reducible repeat first | apply Kd.qoa | apply Kd.qna | apply Kd.R_drew); exact HO_3.out)); (case aS => exact (qla (by with_reducible repeat first | exact HB.out | apply qda | apply qba | apply qca))); (case aL => have := LMc5.out; omega); intro v953 w6 ho hb hg hat; rw [← Ny952.out] at ho; have n0_ := Aside0.mk (hb); have n1_ := Aside0.mk (ho); clear HB; clear HO_3; have HB := n0_; have HO954 := n1_; clear n0_ n1_; clear ho hb hg hat))
       go_roundg k1
       case measure => have := HK1.out; omega
       case rel => exact ⟨(y952), (wrap64 (x8_1 + 1)), (by first | rfl | (simp; done) | (simp [*]; done)), H', ⟨by have := HK1.out; omega⟩, ⟨by (with_reducible repeat first | apply Kd.qoa | apply Kd.qna | apply Kd.R_drew); exact HO954.out⟩, ⟨by repeat (first | (with_reducible first | exact HB.out | apply qda | apply qba | apply qca) | exact HB.out)⟩⟩
      ·rw [if_neg c5] at H
       exact absurd H (by simp)
     ·rw [if_neg c4] at H
      exact absurd H (by simp)
    ·rw [if_neg c3] at H
     exact absurd H (by simp)
   ·rw [if_neg c2] at H
    have c2b0 : decide (x8_1 < (l0.length : Int)) = false := decide_eq_false c2
    clear c2
    obtain rfl := Option.some.inj H
    go_wp2
    go_ret
    exact ⟨_, by first | rfl | (simp [errW_none, errW_some] <;> rfl) | (simp [*, errW_none, errW_some] <;> rfl), by (with_reducible repeat first | apply Kd.qoa | apply Kd.qna | apply Kd.R_drew); exact HO_3.out, by repeat (first | (with_reducible first | exact HB.out | apply qda | apply qba | apply qca) | exact HB.out)⟩
section
open Go.Shelf
attribute [local go_sem] Oper.semAt_some
theorem slices_Values_uint64_uint64_in (F : Fence) (n : Nat) (h7 : F.fn 176) (hro : F.round = none) (hn : 1 ≤ n) (l Bs n₀ cap : Nat) (A : Option Addr) (zs : List Int) (hA : ∀ ad, A = some ad → 0 < zs.length → ad.block < n₀) (J Jx : List Int → World → Prop)
  (hY : ∀ pre x W, J pre W → pre.length < zs.length → YieldAt F (n - 1) Try.prog l #[.int .u64 x] W fun e W' =>
   (e = .returned (.bool true) ∧ J (pre ++ [x]) W' ∧ Below n₀ W W') ∨ (e = .returned (.bool false) ∧ Jx (pre ++ [x]) W'))
  (W : World) (hBs : W.cell? ⟨Bs, 0, none⟩ = some (.slice A zs.length cap)) (hc : Kd.C (Kd.int .u64) W A zs.length zs) (h0 : J [] W) :
  CallsIn F n Try.prog 176 #[.func (.yield l) #[] #[], .pointer (some ⟨Bs, 0, none⟩)] W fun e W' => (∃ v, e = .returned v) ∧
   ((∃ ys, ys = zs ∧ J ys W') ∨ (∃ pre, (∃ k, k ≤ zs.length ∧ pre = zs.take k) ∧ Jx pre W')) := by
 refine callsIn_of_wp Try.func176 rfl h7 ?_ hro
 simp only [Try.ntmps176, List.size_toArray, List.length_cons, List.length_nil, Nat.reduceAdd, Nat.reduceSub, Array.replicate_succ, Array.replicate_zero, List.push_toArray, List.append_toArray, List.nil_append, List.cons_append]
 have HC := Aside0.mk hc
 clear hc
 have hlen : zs.length ≤ 9223372036854775807 := HC.out.2.1
 generalize hL : zs.length = len at *
 have HL := Aside0.mk hL
 clear hL
 gi_wp2
 gi_loopw [7] (fun i wr => ∃ k : Nat, k ≤ len ∧ i = .int .i64 k ∧ J (zs.take k) wr ∧ Below n₀ W wr)
  (fun i _ => len - (intOf i).toNat)
 case atStart => exact ⟨0, Nat.zero_le _, rfl, h0, Below.refl _ _⟩
 case round =>
  obtain ⟨k, hk, rfl, hJs, hnx⟩ := hrel
  by_cases hlt : k < len
  ·obtain ⟨ad, hcx⟩ : ∃ ad, A = some ad ∧ wr.cell? (ad.add k) = some (.int .u64 (zs[k]?.getD 0)) := by
    obtain ⟨ad, e, h⟩ := Kd.at_int HC.out (k : Int) (by omega) (by omega)
    refine ⟨ad, e, ?_⟩
    have hbl := hA ad e (by omega)
    simp only [Int.toNat_natCast, rd, List.getD_eq_getElem?_getD] at h
    refine (hnx.cell (p := ad.add k) ?_).trans h
    rw [show (ad.add k).block = ad.block by unfold Addr.add; split <;> rfl]
    exact hbl
   obtain ⟨rfl, hcx⟩ := hcx
   have hpl : (zs.take k).length = k := by rw [List.length_take, HL.out]; omega
   have hsucc : zs.take (k + 1) = zs.take k ++ [zs[k]?.getD 0] := by
    have hk' : k < zs.length := by rw [HL.out]; exact hlt
    rw [List.take_succ_eq_append_getElem hk', List.getElem?_eq_getElem hk']; rfl
   obtain ⟨fn, tmps, assign, body, hy, hR⟩ := hY _ (zs[k]?.getD 0) wr hJs (by rw [hpl]; exact hlt)
   have HS := Aside0.mk hsucc
   clear hsucc hpl
   gi_wp2
   refine hR.mono ?_
   rintro e W3 (⟨rfl, hJ3, hk3⟩ | ⟨rfl, hJx3⟩)
   ·gi_wp2
    go_roundw
    case rel => exact ⟨k + 1, by omega, by simp, by rw [HS.out]; exact hJ3, hnx.trans hk3⟩
    case measure => simp [intOf]; omega
   ·gi_wp2
    refine bodyPost_ret (results_none rfl _ _ _) rfl ?_
    exact ⟨⟨_, rfl⟩, .inr ⟨_, ⟨k + 1, by omega, HS.out.symm⟩, hJx3⟩⟩
  ·obtain rfl : k = len := by omega
   have hall : zs.take k = zs := by rw [List.take_of_length_le (by rw [HL.out]; exact Nat.le_refl _)]
   rw [hall] at hJs
   clear hall
   gi_wp2
   go_end0
   exact ⟨⟨_, rfl⟩, .inl ⟨_, rfl, hJs⟩⟩
theorem slices_Values_uint64_uint64_mk (a : Option Addr) (len cap : Nat) (w : World) :
  Calls Try.prog 168 #[.slice a len cap] w fun e w' => e = .returned (.func (.func 176) #[] #[.pointer (some ⟨w.heap.size, 0, none⟩)]) ∧ w' = w.alloc (.cells #[.slice a len cap] 31) := by
 go_enter Try.func168, Try.ntmps168
 go_wp2
 go_ret
 exact ⟨rfl, rfl⟩
theorem slices_Values_uint64_uint64_stops (F : Fence) (n : Nat) (h7 : F.fn 176) (hro : F.round = none) (hn : 1 ≤ n) (Bs n₀ cap : Nat) (A : Option Addr) (zs : List Int) (w : World) (hBs : Bs < w.heap.size) (hn₀ : n₀ ≤ w.heap.size)
  (hc : w.cell? ⟨Bs, 0, none⟩ = some (.slice A zs.length cap)) (hC : Kd.C (Kd.int .u64) w A zs.length zs) (hA : ∀ ad, A = some ad → 0 < zs.length → ad.block < n₀) :
  SeqStopsK F n Try.prog 176 #[.pointer (some ⟨Bs, 0, none⟩)] (fun x : Int => #[Value.int .u64 x]) (Below n₀) (fun ys => ys = zs)
   (fun pre => ∃ k, k ≤ zs.length ∧ pre = zs.take k) zs.length w := fun l J Jx W hW _ _ hY h0 => by
 have hc' := (hW.cell (p := ⟨Bs, 0, none⟩) hBs).trans hc
 exact slices_Values_uint64_uint64_in F n h7 hro hn l Bs n₀ cap A zs hA J Jx hY W hc' (Kd.C_below hC hW) h0
end
end Go.Proofs.Ytjjnfobeeflnhaa.J
/- What comes in laid out as a type says is a value of a kind, within the bounds that its weights leave: once for every type. -/
namespace Go.Proofs.Ytjjnfobeeflnhaa.Op
open Go.RowKit Go.Proofs.YtjjnfobeeflnhaaW.PrintWords Go.Proofs.YtjjnfobeeflnhaaW.PrintLast Go.Proofs.YtjjnfobeeflnhaaW.PrintMore
def Opens {α : Type} (P : Program) (d : Kd α) (t : TypeId) (wf : α → Prop) : Prop :=
  ∀ (H : Type) (enc : TypeId × Value → H) (w : World) (base fuel : Nat) (spare : Nat → Bool) (held : Bool) (cs : List Value) (x : DataW H × List MemPlace), cs.length = d.sz →
    DataW.trod enc P w base spare held fuel t cs = some x → (x.1.weights P t).all (· ≤ reachBytes) = true → ∃ a, d.K w a cs ∧ wf a
theorem op_int {P : Program} {t : TypeId} {k : IntKind} (ht : P.underlying t = some (.int k)) : Opens P (Kd.int k) t (fun n => (Lit.int k n).wf = true) := by
  intro H enc w base fuel spare held cs x _ h _
  obtain ⟨n, rfl, _, hw⟩ := DataW.trod_int ht h
  exact ⟨n, rfl, hw⟩
theorem op_bool {P : Program} {t : TypeId} (ht : P.underlying t = some .bool) : Opens P Kd.bool t (fun _ => True) := by
  intro H enc w base fuel spare held cs x _ h _
  obtain ⟨n, rfl, _⟩ := DataW.trod_bool ht h
  exact ⟨n, rfl, trivial⟩
theorem all_weights {H : Type} {P : Program} {e : TypeId} {p : Nat → Bool} : ∀ (ds : List (DataW H)), (DataW.weightsAll P e ds).all p = true → ∀ d ∈ ds, (d.weights P e).all p = true
  | [], _, d, hd => by simp at hd
  | a :: r, h, d, hd => by
    unfold DataW.weightsAll at h
    rw [List.all_append, Bool.and_eq_true] at h
    rcases List.mem_cons.1 hd with rfl | hd
    · exact h.1
    · exact all_weights r h.2 d hd
theorem add_add_ (a : Addr) (i j : Nat) : a.add (i + j) = (a.add i).add j := by
  cases a
  unfold Addr.add
  rcases Nat.eq_zero_or_pos i with hi | hi <;> rcases Nat.eq_zero_or_pos j with hj | hj
  · simp [hi, hj]
  · simp [hi, show j ≠ 0 by omega]
  · simp [hj, show i ≠ 0 by omega]
  · simp [show i ≠ 0 by omega, show j ≠ 0 by omega, Nat.add_assoc]
theorem pick {β : Type} {p : Nat → β → Prop} : ∀ n, (∀ i : Nat, i < n → ∃ q, p i q) → ∃ l : List β, l.length = n ∧ ∀ (i : Nat) (q : β), l[i]? = some q → p i q
  | 0, _ => ⟨[], rfl, fun i q h => by simp at h⟩
  | n + 1, h => by
    obtain ⟨l, hl, hp⟩ := pick n (fun i hi => h i (by omega))
    obtain ⟨q, hq⟩ := h n (by omega)
    refine ⟨l ++ [q], by simp [hl], fun i r hr => ?_⟩
    rcases Nat.lt_or_ge i l.length with hi | hi
    · rw [List.getElem?_append_left hi] at hr
      exact hp i r hr
    · rw [List.getElem?_append_right hi] at hr
      have h0 : i - l.length = 0 := by
        rcases Nat.eq_zero_or_pos (i - l.length) with h' | h'
        · exact h'
        · rw [List.getElem?_eq_none (by simp; omega)] at hr; cases hr
      rw [h0] at hr
      obtain rfl : q = r := by simpa using hr
      have : i = n := by omega
      rw [this]; exact hq
theorem weights_at {H : Type} {P : Program} {p : Nat → Bool} : ∀ (ts : List TypeId) (ds : List (DataW H)) (j : Nat) {t : TypeId} {d : DataW H}, (DataW.weightsEach P ts ds).all p = true → ts[j]? = some t → ds[j]? = some d → (d.weights P t).all p = true
  | [], _, _, _, _, _, ht, _ => by simp at ht
  | _ :: _, [], _, _, _, _, _, hd => by simp at hd
  | t :: ts, d :: ds, j, t', d', h, ht, hd => by
    unfold DataW.weightsEach at h
    rw [List.all_append, Bool.and_eq_true] at h
    match j, ht, hd with
    | 0, ht, hd =>
      obtain rfl : t = t' := by simpa using ht
      obtain rfl : d = d' := by simpa using hd
      exact h.1
    | j + 1, ht, hd => exact weights_at ts ds j h.2 (by simpa using ht) (by simpa using hd)
theorem op_slice {α : Type} {P : Program} {d : Kd α} {t e : TypeId} {B : Nat} {wf : α → Prop} (ht : P.underlying t = some (.slice e)) (hB : P.bytesOf e = B) (hsz : P.cellsOf e = d.sz) (he : Opens P d e wf) :
    Opens P (Kd.slice e d) t (fun l => l.length ≤ maxLen ∧ l.length * B ≤ 140737488351232 ∧ ∀ a ∈ l, wf a) := by
  intro H enc w base fuel spare held cs x _ h hw
  rcases Go.Deep.open_slice ht h with ⟨rfl, _⟩ | ⟨a, len, cap, m, n, D, Pl, rfl, hb, hl, hm, hmm, rfl, hx⟩
  · exact ⟨[], ⟨none, 0, rfl, Nat.le_refl _, rfl, Nat.zero_le _, fun h0 => absurd h0 (by simp)⟩, by simp, by simp, fun a ha => by simp at ha⟩
  · have hlm : len ≤ m := by rw [hmm]; split <;> omega
    simp only [DataW.weights, ht, List.all_cons, List.all_append, Bool.and_eq_true, List.length_map, List.length_range] at hw
    obtain ⟨hw0, hw1, _⟩ := hw
    have each : ∀ i : Nat, i < len → ∃ q : α, wf q ∧ ∃ c : List Value, c.length = d.sz ∧ d.K w q c ∧ ∀ j u, c[j]? = some u → w.cell? (a.add (i * d.sz + j)) = some u := by
      intro i hi
      obtain ⟨cs', h1, h2⟩ := hx i (by omega)
      rw [hsz] at h1
      obtain ⟨_, hlen, hcell⟩ := World.cells?_some h1
      obtain ⟨y, hK, hwf⟩ := he H enc w base n spare held cs' _ hlen h2 (all_weights _ hw1 _ (List.mem_map.2 ⟨i, List.mem_range.2 hi, rfl⟩))
      refine ⟨y, hwf, cs', hlen, hK, fun j u hu => ?_⟩
      have hj : j < d.sz := by
        rw [← hlen]
        rcases Nat.lt_or_ge j cs'.length with h' | h'
        · exact h'
        · rw [List.getElem?_eq_none h'] at hu; cases hu
      have := hcell j hj
      rw [hu] at this
      rw [show a.add (i * d.sz + j) = (a.add (i * d.sz)).add j from add_add_ _ _ _]
      exact this
    obtain ⟨l, rfl, hl2⟩ := pick len each
    refine ⟨l, ⟨some a, cap, rfl, hl, rfl, Nat.le_trans hl hm, fun _ => ⟨a, rfl, fun j p hj => (hl2 j p hj).2⟩⟩, Nat.le_trans hl hm, ?_, ?_⟩
    · have hw2 := of_decide_eq_true hw0
      rw [hB] at hw2
      exact Nat.le_trans (Nat.mul_le_mul_right _ (by omega)) hw2
    · intro y hy
      obtain ⟨j, hj⟩ := List.mem_iff_getElem?.1 hy
      exact (hl2 j y hj).1
def OpL {β : Type} (P : Program) (d : Kd β) (fs : List Field) (o : Nat) (wf : β → Prop) : Prop :=
  ∀ (H : Type) (enc : TypeId × Value → H) (w : World) (base n : Nat) (spare : Nat → Bool) (held : Bool) (cs : List Value) (xs : List (DataW H × List MemPlace)), cs.length = d.sz → xs.length = fs.length →
    (∀ (i : Nat) (f : Field), fs[i]? = some f → DataW.trod enc P w base spare held n f.type ((cs.drop (f.offset - o)).take (P.cellsOf f.type)) = xs[i]?) →
    (DataW.weightsEach P (fs.map (·.type)) (xs.map (·.1))).all (· ≤ reachBytes) = true → ∃ a, d.K w a cs ∧ wf a
theorem opL_one {β : Type} {P : Program} {d : Kd β} {f : Field} {o : Nat} {wf : β → Prop} (ho : f.offset = o) (hc : P.cellsOf f.type = d.sz) (h : Opens P d f.type wf) : OpL P d [f] o wf := by
  intro H enc w base n spare held cs xs hl hx hf hw
  match xs, hx with
  | [y], _ =>
    have h0 := hf 0 f rfl
    rw [ho, Nat.sub_self, List.drop_zero, hc, ← hl, List.take_length] at h0
    simp only [List.map_cons, List.map_nil, DataW.weightsEach, List.append_nil] at hw
    exact h H enc w base n spare held cs y hl h0 hw
theorem opL_cons {α β : Type} {P : Program} {d1 : Kd α} {d : Kd β} {f : Field} {fs : List Field} {o : Nat} {wf1 : α → Prop} {wf : β → Prop} (ho : f.offset = o) (hc : P.cellsOf f.type = d1.sz) (h1 : Opens P d1 f.type wf1)
    (hfs0 : (fs.all fun g => decide (o + d1.sz ≤ g.offset)) = true) (h : OpL P d fs (o + d1.sz) wf) : OpL P (Kd.pair d1 d) (f :: fs) o (fun x => wf1 x.1 ∧ wf x.2) := by
  have hfs : ∀ g ∈ fs, o + d1.sz ≤ g.offset := fun g hg => of_decide_eq_true (List.all_eq_true.1 hfs0 g hg)
  intro H enc w base n spare held cs xs hl hx hf hw
  have hl' : cs.length = d1.sz + d.sz := hl
  match xs, hx with
  | y :: ys, hx =>
    have h0 := hf 0 f rfl
    rw [ho, Nat.sub_self, List.drop_zero, hc] at h0
    simp only [List.map_cons, DataW.weightsEach, List.all_append, Bool.and_eq_true] at hw
    obtain ⟨a, ka, wa⟩ := h1 H enc w base n spare held (cs.take d1.sz) y (by rw [List.length_take]; omega) h0 hw.1
    obtain ⟨b, kb, wb⟩ := h H enc w base n spare held (cs.drop d1.sz) ys (by rw [List.length_drop]; omega) (by simpa using hx) (fun i g hg => by
      have := hf (i + 1) g (by simpa using hg)
      rw [List.drop_drop]
      have hg2 := hfs g (List.mem_of_getElem? hg)
      rw [show d1.sz + (g.offset - (o + d1.sz)) = g.offset - o by omega, this]
      simp) hw.2
    exact ⟨(a, b), ⟨cs.take d1.sz, cs.drop d1.sz, (List.take_append_drop _ _).symm, ka, kb⟩, wa, wb⟩
theorem op_struct {α β : Type} {P : Program} {d : Kd α} {t : TypeId} {fs : Array Field} {wf : α → Prop} {p : β → α} (g : α → β) (hg : ∀ a, p (g a) = a) (ht : P.underlying t = some (.struct fs)) (h : OpL P d fs.toList 0 wf) :
    Opens P (Kd.iso d p) t (fun b => wf (p b)) := by
  intro H enc w base fuel spare held cs x hl hx hw
  obtain ⟨xs, n, rfl, rfl, _, hxl, hf⟩ := DataW.trod_struct ht hx
  simp only [DataW.weights, ht] at hw
  obtain ⟨a, ka, wa⟩ := h H enc w base n spare held cs xs hl (by simpa using hxl) (fun i f hi => by
    rw [Nat.sub_zero]
    exact hf i f (by simpa using hi)) hw
  refine ⟨g a, ?_, ?_⟩
  · show d.K w (p (g a)) cs
    rw [hg]; exact ka
  · show wf (p (g a))
    rw [hg]; exact wa
theorem op_agg {α : Type} {P : Program} {d : Kd α} {t : TypeId} {fs : Array Field} {wf : α → Prop} (ht : P.underlying t = some (.struct fs)) (h : OpL P d fs.toList 0 wf) : Opens P d t wf :=
  op_struct (d := d) (p := fun a => a) (fun a => a) (fun _ => rfl) ht h
theorem op_array2 {α : Type} {P : Program} {d : Kd α} {t e : TypeId} {wf : α → Prop} (ht : P.underlying t = some (.array 2 e)) (hc : P.cellsOf e = d.sz) (h : Opens P d e wf) : Opens P (Kd.pair d d) t (fun x => wf x.1 ∧ wf x.2) := by
  intro H enc w base fuel spare held cs x hl hx hw
  obtain ⟨xs, m, rfl, rfl, _, hxl, hf⟩ := DataW.trod_array ht hx
  simp only [DataW.weights, ht] at hw
  have hl' : cs.length = d.sz + d.sz := hl
  match xs, hxl with
  | [y, z], _ =>
    have h0 := hf 0 (by omega)
    have h1 := hf 1 (by omega)
    rw [Nat.zero_mul, List.drop_zero, hc] at h0
    rw [Nat.one_mul, hc, List.take_of_length_le (by rw [List.length_drop]; omega)] at h1
    simp only [List.map_cons, List.map_nil, DataW.weightsAll, List.all_append, Bool.and_eq_true] at hw
    obtain ⟨a, ka, wa⟩ := h H enc w base m spare held (cs.take d.sz) y (by rw [List.length_take]; omega) h0 hw.1
    obtain ⟨b, kb, wb⟩ := h H enc w base m spare held (cs.drop d.sz) z (by rw [List.length_drop]; omega) h1 hw.2.1
    exact ⟨(a, b), ⟨cs.take d.sz, cs.drop d.sz, (List.take_append_drop _ _).symm, ka, kb⟩, wa, wb⟩
theorem okWide_arr {P : Program} {W : World} {r : Reach} {b0 : Nat} {t e : TypeId} {n : Nat} {v : Value} (ht : P.underlying t = some (.array n e)) (h : Value.okWide P W r b0 t v) : ∃ cs, v = .agg cs ∧ cs.size = P.cellsOf t := by
  simp only [Value.okWide, ht] at h
  obtain ⟨cs, h1, h2, _⟩ := h
  exact ⟨cs, h1, h2⟩
theorem okWide_agg {P : Program} {W : World} {r : Reach} {b0 : Nat} {t : TypeId} {fs : Array Field} {v : Value} (ht : P.underlying t = some (.struct fs)) (h : Value.okWide P W r b0 t v) : ∃ cs, v = .agg cs ∧ cs.size = P.cellsOf t := by
  simp only [Value.okWide, ht] at h
  obtain ⟨cs, h1, h2, _⟩ := h
  exact ⟨cs, h1, h2⟩
theorem arg {α H : Type} {enc : TypeId × Value → H} {P : Program} {d : Kd α} {t : TypeId} {wf : α → Prop} (h : Opens P d t wf) {w : World} {base : Nat} {spare : Nat → Bool} {held : Bool} {v : Value} {x : DataW H} {ps : List MemPlace}
    (hl : v.cells.toList.length = d.sz) (hv : DataW.Trod enc P w base spare held t v x ps) {ts : List TypeId} {ds : List (DataW H)} {j : Nat} (hsz : (DataW.weightsEach P ts ds).all (· ≤ reachBytes) = true) (ht : ts[j]? = some t) (hd : ds[j]? = some x) :
    ∃ a, d.K w a v.cells.toList ∧ wf a := by
  obtain ⟨fuel, hf⟩ := hv
  exact h H enc w base fuel spare held _ _ hl hf (weights_at ts ds j hsz ht hd)
end Go.Proofs.Ytjjnfobeeflnhaa.Op
/- Three closed facts over the whole program, with its header's words as numbers. -/
namespace Go.Proofs.Ytjjnfobeeflnhaa.Facts
theorem toList_of (s : String) (l : List Char) (h : s = String.ofList l) : s.toList = l := by rw [h, String.toList_ofList]
def glue : List (List Char) → List Char
  | [] => []
  | [w] => w
  | w :: v :: r => w ++ Char.ofNat 32 :: glue (v :: r)
theorem signs_space (r : List Char) : wordsSigns (Char.ofNat 32 :: r) = [] :: wordsSigns r := rfl
theorem signs_cons (c : Char) (r : List Char) (h : c ≠ Char.ofNat 32) (w : List Char) (ws : List (List Char)) (e : wordsSigns r = w :: ws) : wordsSigns (c :: r) = (c :: w) :: ws := by
  rw [wordsSigns]
  · rw [e]
  · exact h
theorem signs_one : ∀ (w : List Char), (∀ c ∈ w, c ≠ Char.ofNat 32) → wordsSigns w = [w]
  | [], _ => rfl
  | c :: w, h => signs_cons c w (h c (List.mem_cons_self ..)) _ _ (signs_one w (fun d hd => h d (List.mem_cons_of_mem _ hd)))
theorem signs_more (r : List Char) : ∀ (w : List Char), (∀ c ∈ w, c ≠ Char.ofNat 32) → wordsSigns (w ++ Char.ofNat 32 :: r) = w :: wordsSigns r
  | [], _ => signs_space r
  | c :: w, h => signs_cons c _ (h c (List.mem_cons_self ..)) _ _ (signs_more r w (fun d hd => h d (List.mem_cons_of_mem _ hd)))
theorem signs_glue : ∀ (ws : List (List Char)), ws ≠ [] → (∀ w ∈ ws, ∀ c ∈ w, c ≠ Char.ofNat 32) → wordsSigns (glue ws) = ws
  | [], h, _ => absurd rfl h
  | [w], _, h => signs_one w (h w (List.mem_cons_self ..))
  | w :: v :: r, _, h => by
    rw [glue, signs_more _ w (h w (List.mem_cons_self ..)), signs_glue (v :: r) (by simp) (fun u hu => h u (List.mem_cons_of_mem _ hu))]
def W : List (List Char) := (List.map (List.map Char.ofNat) [[104, 97, 114, 110, 101, 115, 115],
  [56, 98, 98, 99, 100, 53, 56, 100, 55, 50, 48, 97, 53, 56, 100, 57, 52, 98, 55, 57, 101, 52, 50, 101, 52, 51, 102, 99, 99, 49, 53, 53, 57, 54, 97, 50, 97, 48, 101, 99, 97, 98, 49, 48, 54, 55, 52, 48, 102, 55, 97, 48, 53, 52, 57, 55, 52, 100, 97, 52, 102, 54, 100, 56],
  [99, 117, 116],
  [97, 116],
  [106, 117, 110, 116, 111, 47, 106, 117, 110, 116, 111, 108, 97, 119, 48, 55, 46, 84, 119, 105, 99, 101, 67, 104, 101, 99, 107, 115],
  [106, 117, 110, 116, 111, 47, 106, 117, 110, 116, 111, 108, 97, 119, 48, 55, 46, 84, 119, 105, 99, 101, 77, 97, 107, 101, 115],
  [106, 117, 110, 116, 111, 47, 106, 117, 110, 116, 111, 108, 97, 119, 48, 55, 46, 84, 119, 105, 99, 101, 86, 97, 108, 117, 101, 115],
  [106, 117, 110, 116, 111, 47, 106, 117, 110, 116, 111, 108, 97, 119, 48, 55, 46, 84, 119, 105, 99, 101, 80, 114, 111, 100, 117, 99, 116],
  [106, 117, 110, 116, 111, 47, 106, 117, 110, 116, 111, 108, 97, 119, 48, 55, 46, 84, 119, 105, 99, 101, 74, 111, 105, 110, 115],
  [106, 117, 110, 116, 111, 47, 106, 117, 110, 116, 111, 108, 97, 119, 48, 55, 46, 84, 119, 105, 99, 101, 79, 110, 101],
  [106, 117, 110, 116, 111, 47, 106, 117, 110, 116, 111, 108, 97, 119, 48, 55, 46, 84, 119, 105, 99, 101, 77, 111, 118, 101, 115],
  [106, 117, 110, 116, 111, 47, 106, 117, 110, 116, 111, 108, 97, 119, 48, 52, 46, 83, 104, 97, 114, 101, 83, 101, 116, 117, 112, 115],
  [106, 117, 110, 116, 111, 47, 106, 117, 110, 116, 111, 108, 97, 119, 48, 52, 46, 83, 104, 97, 114, 101, 77, 97, 107, 101, 115],
  [106, 117, 110, 116, 111, 47, 106, 117, 110, 116, 111, 108, 97, 119, 48, 52, 46, 83, 104, 97, 114, 101, 86, 97, 108, 117, 101, 115],
  [106, 117, 110, 116, 111, 47, 106, 117, 110, 116, 111, 108, 97, 119, 48, 52, 46, 83, 104, 97, 114, 101, 77, 111, 118, 101, 115],
  [106, 117, 110, 116, 111, 47, 106, 117, 110, 116, 111, 108, 97, 119, 48, 52, 46, 83, 104, 97, 114, 101, 78, 111, 116, 104, 105, 110, 103],
  [106, 117, 110, 116, 111, 47, 106, 117, 110, 116, 111, 108, 97, 119, 48, 52, 46, 83, 104, 97, 114, 101, 79, 110, 108, 121],
  [106, 117, 110, 116, 111, 47, 106, 117, 110, 116, 111, 108, 97, 119, 48, 52, 46, 83, 104, 97, 114, 101, 84, 104, 101, 114, 101],
  [106, 117, 110, 116, 111, 47, 106, 117, 110, 116, 111, 108, 97, 119, 48, 52, 46, 83, 104, 97, 114, 101, 83, 117, 109, 115],
  [106, 117, 110, 116, 111, 47, 106, 117, 110, 116, 111, 108, 97, 119, 48, 52, 46, 83, 104, 97, 114, 101, 70, 105, 116, 115],
  [106, 117, 110, 116, 111, 47, 106, 117, 110, 116, 111, 108, 97, 119, 48, 55, 46, 84, 119, 105, 99, 101, 67, 117, 116, 115],
  [106, 117, 110, 116, 111, 47, 106, 117, 110, 116, 111, 108, 97, 119, 48, 55, 46, 84, 119, 105, 99, 101, 77, 111, 118, 101, 100],
  [106, 117, 110, 116, 111, 47, 106, 117, 110, 116, 111, 108, 97, 119, 48, 50, 46, 80, 111, 108, 121, 84, 104, 114, 111, 117, 103, 104],
  [106, 117, 110, 116, 111, 47, 106, 117, 110, 116, 111, 108, 97, 119, 48, 50, 46, 80, 111, 108, 121, 87, 101, 105, 103, 104, 116, 115],
  [106, 117, 110, 116, 111, 47, 106, 117, 110, 116, 111, 108, 97, 119, 48, 50, 46, 80, 111, 108, 121, 65, 119, 97, 121],
  [106, 117, 110, 116, 111, 47, 106, 117, 110, 116, 111, 108, 97, 119, 48, 50, 46, 80, 111, 108, 121, 83, 108, 111, 112, 101, 115],
  [106, 117, 110, 116, 111, 47, 106, 117, 110, 116, 111, 108, 97, 119, 48, 50, 46, 80, 111, 108, 121, 80, 114, 111, 100, 117, 99, 116, 115],
  [106, 117, 110, 116, 111, 47, 106, 117, 110, 116, 111, 108, 97, 119, 48, 50, 46, 80, 111, 108, 121, 83, 117, 109, 115],
  [106, 117, 110, 116, 111, 47, 106, 117, 110, 116, 111, 108, 97, 119, 48, 50, 46, 80, 111, 108, 121, 66, 97, 99, 107],
  [106, 117, 110, 116, 111, 47, 106, 117, 110, 116, 111, 108, 97, 119, 48, 50, 46, 80, 111, 108, 121, 86, 97, 108, 117, 101, 115],
  [106, 117, 110, 116, 111, 47, 106, 117, 110, 116, 111, 108, 97, 119, 48, 50, 46, 80, 111, 108, 121, 82, 111, 111, 116, 115],
  [106, 117, 110, 116, 111, 47, 106, 117, 110, 116, 111, 108, 97, 119, 48, 50, 46, 80, 111, 108, 121, 70, 101, 119],
  [106, 117, 110, 116, 111, 47, 106, 117, 110, 116, 111, 108, 97, 119, 48, 50, 46, 80, 111, 108, 121, 86, 97, 108, 117, 101, 100],
  [106, 117, 110, 116, 111, 47, 106, 117, 110, 116, 111, 108, 97, 119, 48, 50, 46, 80, 111, 108, 121, 81, 117, 111, 116, 105, 101, 110, 116, 115],
  [106, 117, 110, 116, 111, 47, 106, 117, 110, 116, 111, 108, 97, 119, 48, 50, 46, 80, 111, 108, 121, 65, 112, 97, 114, 116],
  [106, 117, 110, 116, 111, 47, 106, 117, 110, 116, 111, 108, 97, 119, 48, 52, 46, 83, 104, 97, 114, 101, 83, 101, 99, 114, 101, 116, 115],
  [106, 117, 110, 116, 111, 47, 106, 117, 110, 116, 111, 108, 97, 119, 48, 52, 46, 83, 104, 97, 114, 101, 66, 97, 99, 107]])
theorem head : Try.pinned.checked.prog.initOrder.toList = glue W := toList_of _ _ (by kernel_rfl)
theorem plain : (W.all fun w => w.all fun c => c.toNat != 32) = true := by kernel_rfl
theorem signs : wordsSigns Try.pinned.checked.prog.initOrder.toList = W := by
  rw [head]
  refine signs_glue W (by simp [W]) fun w hw c hc e => ?_
  have h := List.all_eq_true.1 (List.all_eq_true.1 plain w hw) c hc
  rw [e] at h
  cases h
theorem words : behindMainWord (wordsSigns Try.pinned.checked.prog.initOrder.toList) = W.drop 2 := by
  rw [signs]
  kernel_rfl
theorem lifts : Try.pinned.checked.prog.headLifts = [] := by
  unfold Program.headLifts
  rw [words]
  kernel_rfl
theorem final : Try.pinned.checked.prog.liftsFinal = false := by
  unfold Program.liftsFinal
  rw [words, lifts]
  kernel_rfl
theorem made_of (P : Program) (rest : List (List Char)) (h : behindMainWord (wordsSigns P.initOrder.toList) = [Char.ofNat 99, Char.ofNat 117, Char.ofNat 116] :: rest) : P.make = some .cut := by
  unfold Program.make
  rw [h]
  kernel_rfl
theorem enters_of (P : Program) (rest : List (List Char)) (h : behindMainWord (wordsSigns P.initOrder.toList) = [Char.ofNat 99, Char.ofNat 117, Char.ofNat 116] :: rest) (hl : P.laysLater = false) (hb : P.bearsReflect = false) (hd : P.doorFits [] = true)
    (hs : stripLifts liftWords ([Char.ofNat 99, Char.ofNat 117, Char.ofNat 116] :: rest) = ([], [Char.ofNat 99, Char.ofNat 117, Char.ofNat 116] :: rest)) : P.mayEnter = true := by
  unfold Program.mayEnter
  rw [h]
  simp only [hs, hl, hb, hd]
  kernel_rfl
theorem made : Try.pinned.checked.prog.make = some .cut := made_of _ (W.drop 3) (words.trans (by kernel_rfl))
theorem enters : Try.pinned.checked.prog.mayEnter = true := enters_of _ (W.drop 3) (words.trans (by kernel_rfl)) (by kernel_rfl) (by kernel_rfl) (by kernel_rfl) (by kernel_rfl)
end Go.Proofs.Ytjjnfobeeflnhaa.Facts
