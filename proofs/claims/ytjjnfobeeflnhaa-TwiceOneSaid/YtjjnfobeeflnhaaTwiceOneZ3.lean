/- Part 3 of the proof of TwiceOne: what the functions compute as plain Lean functions, that the machine comes to just these answers, and that the answer is true; no conditions. -/
import Derived.Test.YtjjnfobeeflnhaaTwiceOneZ0
import Derived.Test.YtjjnfobeeflnhaaTwiceOneZ1
import Derived.Test.YtjjnfobeeflnhaaTwiceOneZ2
import Derived.Deep.Slices
import Derived.ChangeArms
import Derived.DataReads
import Derived.SizedLaws
import Derived.WideShapes
import Derived.Test.YtjjnfobeeflnhaaRows
import Derived.JoinedOf
import Derived.KernelRfl
import Derived.WalkSmall
import Derived.WalkKit
import Derived.ProofKit
import Derived.OpenShut
import Derived.ShutString
import Derived.ChangeOld
import Derived.Below
/- What Go functions of the program compute, as plain Lean functions, and that the machine comes to just these answers (written by a program for this seat). -/
namespace Go.Proofs.Ytjjnfobeeflnhaa.J
open Go.RowKit Go.Proofs.YtjjnfobeeflnhaaW.PrintWords Go.Proofs.YtjjnfobeeflnhaaW.PrintLast Go.Proofs.YtjjnfobeeflnhaaW.PrintMore
attribute [local go_sem] max2_int min2_int max_two min_two max_three min_three max_four min_four   -- for this text's walks alone
set_option linter.unusedVariables false
set_option linter.unusedSimpArgs false

/-! ### juntolaw07_TwiceOne: function 8 -/
mutual
def juntolaw07_TwiceOne.j0 : Nat → Int → List (List Int) → Bool → Int → Int → Int → List Int → List Int → Option (Bool)
  | 0, _, _, _, _, _, _, _, _ => none
  | k + 1, x1, x7, x48, x440000, x440001, x440002, x441000, x441001 => if x48 = true then ((juntolaw07_alive.f k).bind fun t449 => (some t449)) else ((twice_Low.f k x440000 x440001 x440002 x7 0).bind fun bt450 => ((twice_High.f k x440000 x440001 x440002 x7 0).bind fun bt452 => ((twice_Whole.f k x440000 x440001 x440002 x7).bind fun bt454 => (juntolaw07_TwiceOne.l0 k x1 x7 bt450.1 bt452.1 bt454.1 ([] : List Int) x7 (x7.length : Int) 0 x440000 x440001 x440002 x441000 x441001))))
def juntolaw07_TwiceOne.l0 : Nat → Int → List (List Int) → Int → Int → List Int → List Int → List (List Int) → Int → Int → Int → Int → Int → List Int → List Int → Option (Bool)
  | 0, _, _, _, _, _, _, _, _, _, _, _, _, _, _ => none
  | k + 1, x1, x7, x10, x12, x14, x16, x68, x69, x70, x440000, x440001, x440002, x441000, x441001 => if x70 < x69 then (if 0 ≤ x70 then (if x70 < (x68.length : Int) then (if 0 < (x441000.length : Int) then ((juntoref02_Eval.f k x440000 (rd_L3 x68 x70) (rd x441000 0)).bind fun t460 => (if x16.length < 17592186044416 then (juntolaw07_TwiceOne.l0 k x1 x7 x10 x12 x14 (x16 ++ [t460]) x68 x69 (wrap64 (x70 + 1)) x440000 x440001 x440002 x441000 x441001) else (none))) else (none)) else (none)) else (none)) else (if 0 < (x441000.length : Int) then ((twice_Join.f k x440000 x440001 x440002 x16 (rd x441000 0)).bind fun bt465 => ((twice_High.f k x440000 x440001 x440002 x7 (rd x441000 0)).bind fun bt468 => (if x10 = x1 then (if x12 = x1 then (if (x14.length : Int) ≤ (wrap64 ((wrap64 (2 * x440002)) + 1)) then (if bt465.2 = 0 then (if bt465.1 = bt468.1 then ((juntoref02_Eval.f k x440000 x14 (rd x441000 0)).bind fun t471 => (if bt465.1 = t471 then ((juntolaw07_alive.f k).bind fun t472 => (some t472)) else (some false))) else (some false)) else (some false)) else (some false)) else (some false)) else (some false)))) else (none))
end
def juntolaw07_TwiceOne.f (k : Nat) (a0_0 : Int) (a0_1 : Int) (a0_2 : Int) (a1 : Int) (l2_0 : List Int) (l2_1 : List Int) : Option (Bool) := (twice_Make.f k a0_0 a0_1 a0_2 a1 l2_1).bind fun bt441 => (if bt441.2.2 = 0 then (if (l2_0.length : Int) = 1 then (if 0 < (l2_0.length : Int) then (juntolaw07_TwiceOne.j0 k a1 bt441.1 (decide ((rd l2_0 0) ≥ a0_0)) a0_0 a0_1 a0_2 l2_0 l2_1) else (none)) else (juntolaw07_TwiceOne.j0 k a1 bt441.1 true a0_0 a0_1 a0_2 l2_0 l2_1)) else (juntolaw07_TwiceOne.j0 k a1 bt441.1 true a0_0 a0_1 a0_2 l2_0 l2_1))
theorem juntolaw07_TwiceOne.mono_l : ∀ k, (∀ y0 y1 y2 y3 y4 y5 y6 y7, LeO (juntolaw07_TwiceOne.j0 k y0 y1 y2 y3 y4 y5 y6 y7) (juntolaw07_TwiceOne.j0 (k + 1) y0 y1 y2 y3 y4 y5 y6 y7)) ∧ (∀ y0 y1 y2 y3 y4 y5 y6 y7 y8 y9 y10 y11 y12 y13, LeO (juntolaw07_TwiceOne.l0 k y0 y1 y2 y3 y4 y5 y6 y7 y8 y9 y10 y11 y12 y13) (juntolaw07_TwiceOne.l0 (k + 1) y0 y1 y2 y3 y4 y5 y6 y7 y8 y9 y10 y11 y12 y13))
  | 0 => ⟨fun _ _ _ _ _ _ _ _ r h => by simp [juntolaw07_TwiceOne.j0] at h, fun _ _ _ _ _ _ _ _ _ _ _ _ _ _ r h => by simp [juntolaw07_TwiceOne.l0] at h⟩
  | k + 1 => by
    obtain ⟨ih0, ih1⟩ := juntolaw07_TwiceOne.mono_l k
    refine ⟨?_, ?_⟩
    · intro y0 y1 y2 y3 y4 y5 y6 y7
      unfold juntolaw07_TwiceOne.j0
      repeat' first
      | (with_reducible exact ih0 _ _ _ _ _ _ _ _)
      | (with_reducible exact ih1 _ _ _ _ _ _ _ _ _ _ _ _ _ _)
      | (with_reducible exact juntolaw07_alive.mono _)
      | (with_reducible exact juntoref02_Eval.mono _ _ _ _)
      | (with_reducible exact twice_High.mono _ _ _ _ _ _)
      | (with_reducible exact twice_Join.mono _ _ _ _ _ _)
      | (with_reducible exact twice_Low.mono _ _ _ _ _ _)
      | (with_reducible exact twice_Make.mono _ _ _ _ _ _)
      | (with_reducible exact twice_Whole.mono _ _ _ _ _)
      | (with_reducible exact LeO.refl _)
      | (with_reducible exact LeO.none _)
      | (with_reducible refine LeO.ite ?_ ?_)
      | (with_reducible refine LeO.bind ?_ (fun _ => ?_))
      | exact ih0 _ _ _ _ _ _ _ _
      | exact ih1 _ _ _ _ _ _ _ _ _ _ _ _ _ _
      | exact juntolaw07_alive.mono _
      | exact juntoref02_Eval.mono _ _ _ _
      | exact twice_High.mono _ _ _ _ _ _
      | exact twice_Join.mono _ _ _ _ _ _
      | exact twice_Low.mono _ _ _ _ _ _
      | exact twice_Make.mono _ _ _ _ _ _
      | exact twice_Whole.mono _ _ _ _ _
      | exact LeO.none _
      | refine LeO.ite ?_ ?_
      | refine LeO.bind ?_ (fun _ => ?_)
    · intro y0 y1 y2 y3 y4 y5 y6 y7 y8 y9 y10 y11 y12 y13
      unfold juntolaw07_TwiceOne.l0
      repeat' first
      | (with_reducible exact ih0 _ _ _ _ _ _ _ _)
      | (with_reducible exact ih1 _ _ _ _ _ _ _ _ _ _ _ _ _ _)
      | (with_reducible exact juntolaw07_alive.mono _)
      | (with_reducible exact juntoref02_Eval.mono _ _ _ _)
      | (with_reducible exact twice_High.mono _ _ _ _ _ _)
      | (with_reducible exact twice_Join.mono _ _ _ _ _ _)
      | (with_reducible exact twice_Low.mono _ _ _ _ _ _)
      | (with_reducible exact twice_Make.mono _ _ _ _ _ _)
      | (with_reducible exact twice_Whole.mono _ _ _ _ _)
      | (with_reducible exact LeO.refl _)
      | (with_reducible exact LeO.none _)
      | (with_reducible refine LeO.ite ?_ ?_)
      | (with_reducible refine LeO.bind ?_ (fun _ => ?_))
      | exact ih0 _ _ _ _ _ _ _ _
      | exact ih1 _ _ _ _ _ _ _ _ _ _ _ _ _ _
      | exact juntolaw07_alive.mono _
      | exact juntoref02_Eval.mono _ _ _ _
      | exact twice_High.mono _ _ _ _ _ _
      | exact twice_Join.mono _ _ _ _ _ _
      | exact twice_Low.mono _ _ _ _ _ _
      | exact twice_Make.mono _ _ _ _ _ _
      | exact twice_Whole.mono _ _ _ _ _
      | exact LeO.none _
      | refine LeO.ite ?_ ?_
      | refine LeO.bind ?_ (fun _ => ?_)
theorem juntolaw07_TwiceOne.mono : ∀ a0 a1 a2 a3 a4 a5 k, LeO (juntolaw07_TwiceOne.f k a0 a1 a2 a3 a4 a5) (juntolaw07_TwiceOne.f (k + 1) a0 a1 a2 a3 a4 a5) := by
  intro a0 a1 a2 a3 a4 a5 k
  obtain ⟨ih0, ih1⟩ := juntolaw07_TwiceOne.mono_l k
  unfold juntolaw07_TwiceOne.f
  repeat' first
      | (with_reducible exact ih0 _ _ _ _ _ _ _ _)
      | (with_reducible exact ih1 _ _ _ _ _ _ _ _ _ _ _ _ _ _)
      | (with_reducible exact juntolaw07_alive.mono _)
      | (with_reducible exact juntoref02_Eval.mono _ _ _ _)
      | (with_reducible exact twice_High.mono _ _ _ _ _ _)
      | (with_reducible exact twice_Join.mono _ _ _ _ _ _)
      | (with_reducible exact twice_Low.mono _ _ _ _ _ _)
      | (with_reducible exact twice_Make.mono _ _ _ _ _ _)
      | (with_reducible exact twice_Whole.mono _ _ _ _ _)
      | (with_reducible exact LeO.refl _)
      | (with_reducible exact LeO.none _)
      | (with_reducible refine LeO.ite ?_ ?_)
      | (with_reducible refine LeO.bind ?_ (fun _ => ?_))
      | exact ih0 _ _ _ _ _ _ _ _
      | exact ih1 _ _ _ _ _ _ _ _ _ _ _ _ _ _
      | exact juntolaw07_alive.mono _
      | exact juntoref02_Eval.mono _ _ _ _
      | exact twice_High.mono _ _ _ _ _ _
      | exact twice_Join.mono _ _ _ _ _ _
      | exact twice_Low.mono _ _ _ _ _ _
      | exact twice_Make.mono _ _ _ _ _ _
      | exact twice_Whole.mono _ _ _ _ _
      | exact LeO.none _
      | refine LeO.ite ?_ ?_
      | refine LeO.bind ?_ (fun _ => ?_)
def juntolaw07_TwiceOne.T2 : Bool × List (List Nat × List Nat) := (true, [([], []), ([0], [0]), ([1], [1]), ([2], [2]), ([3, 2], [2, 3]), ([4, 2], [2, 4]), ([5, 2], [2, 5]), ([2, 6], [2, 6]), ([7, 2], [7]), ([8], [8]), ([9, 8], [8, 9]), ([10, 8], [8, 10]), ([11, 8], [8, 11]), ([8], [8]), ([13, 8], [8, 13]), ([12, 14, 8], [8, 12, 14]), ([8, 15], [8, 15])])
def juntolaw07_TwiceOne.B2 : List Nat := [0, 1, 3, 7, 15, 31, 63, 127, 255, 511, 1023, 2047, 4095, 511, 8703, 32767, 65535]
theorem juntolaw07_TwiceOne.tab2 : rtab .any (opsOf Try.f8 2) = juntolaw07_TwiceOne.T2 := by kernel_rfl
theorem juntolaw07_TwiceOne.bits2 : waitsOk juntolaw07_TwiceOne.T2.2 juntolaw07_TwiceOne.B2 = true := by kernel_rfl
def juntolaw07_TwiceOne.T11 : Bool × List (List Nat × List Nat) := (true, [([], []), ([], []), ([1], [1]), ([], []), ([], []), ([4], [4]), ([5], [5]), ([6], [6]), ([2, 3, 7], [2, 3, 7]), ([8], [8]), ([0, 9, 8], [0, 9]), ([10, 10, 0, 1, 2, 3, 4, 5, 6, 7, 8, 9, 10], [0, 10])])
def juntolaw07_TwiceOne.B11 : List Nat := [0, 0, 2, 0, 0, 16, 48, 112, 254, 510, 1023, 2047]
theorem juntolaw07_TwiceOne.tab11 : rtab .any (opsOf Try.f8 11) = juntolaw07_TwiceOne.T11 := by kernel_rfl
theorem juntolaw07_TwiceOne.bits11 : waitsOk juntolaw07_TwiceOne.T11.2 juntolaw07_TwiceOne.B11 = true := by kernel_rfl
def juntolaw07_TwiceOne.T13 : Bool × List (List Nat × List Nat) := (true, [([], []), ([], []), ([], []), ([2], [2]), ([3], [3]), ([4], [4]), ([0, 1, 5], [0, 1, 5]), ([6], [6]), ([7], [7]), ([7], [7]), ([8, 6, 0, 1, 2, 3, 4, 5, 6, 7, 8], [8]), ([9, 10, 0, 1, 2, 3, 4, 5, 6, 7, 8, 9, 10], [9])])
def juntolaw07_TwiceOne.B13 : List Nat := [0, 0, 0, 4, 12, 28, 63, 127, 255, 255, 511, 2047]
theorem juntolaw07_TwiceOne.tab13 : rtab .any (opsOf Try.f8 13) = juntolaw07_TwiceOne.T13 := by kernel_rfl
theorem juntolaw07_TwiceOne.bits13 : waitsOk juntolaw07_TwiceOne.T13.2 juntolaw07_TwiceOne.B13 = true := by kernel_rfl
def juntolaw07_TwiceOne.T14 : Bool × List (List Nat × List Nat) := (true, [([], []), ([], []), ([], []), ([2], [2]), ([3], [3]), ([4], [4]), ([0, 1, 5], [0, 1, 5]), ([6], [6]), ([7], [7]), ([7], [7]), ([8, 6, 0, 1, 2, 3, 4, 5, 6, 7, 8], [8]), ([9, 10, 0, 1, 2, 3, 4, 5, 6, 7, 8, 9, 10], [9])])
def juntolaw07_TwiceOne.B14 : List Nat := [0, 0, 0, 4, 12, 28, 63, 127, 255, 255, 511, 2047]
theorem juntolaw07_TwiceOne.tab14 : rtab .any (opsOf Try.f8 14) = juntolaw07_TwiceOne.T14 := by kernel_rfl
theorem juntolaw07_TwiceOne.bits14 : waitsOk juntolaw07_TwiceOne.T14.2 juntolaw07_TwiceOne.B14 = true := by kernel_rfl
def juntolaw07_TwiceOne.T15 : Bool × List (List Nat × List Nat) := (true, [([], []), ([], []), ([0, 1], [0, 1]), ([2], [2]), ([3], [3]), ([3], [3]), ([4, 5, 3], [3, 4, 5]), ([3, 6], [3, 6]), ([7, 3], [7]), ([8], [8]), ([9, 8], [8, 9]), ([8], [8]), ([11, 8], [8, 11]), ([12, 8], [8, 12]), ([13, 8], [8, 13]), ([10, 14, 8], [8, 10, 14]), ([8, 15], [8, 15]), ([16, 8], [16]), ([17], [17]), ([18, 17], [17, 18]), ([17, 19], [17, 19]), ([20, 17], [20]), ([21], [21]), ([21], [21]), ([22, 23, 21], [21, 22, 23]), ([21, 24], [21, 24]), ([25, 21], [25]), ([26], [26]), ([26], [26]), ([28, 26], [26, 28]), ([26], [26]), ([26], [26]), ([31, 26], [26, 31]), ([32, 26], [26, 32]), ([33, 26], [26, 33]), ([29, 30, 34, 26, 26], [26, 29, 30, 34]), ([27, 35, 26], [26, 27, 35]), ([26, 36], [26, 36]), ([37, 35], [37]), ([38, 38], [38]), ([38, 39], [38, 39]), ([40, 39, 0, 1, 2, 3, 4, 5, 6, 7, 8, 9, 10, 11, 12, 13, 14, 15, 16, 17, 18, 19, 20, 21, 22, 23, 24, 25, 26, 27, 28, 29, 30, 31, 32, 33, 34, 35, 36, 37, 38, 39, 40], [40])])
def juntolaw07_TwiceOne.B15 : List Nat := [0, 0, 3, 7, 15, 15, 63, 127, 255, 511, 1023, 511, 2559, 6655, 14847, 32767, 65535, 131071, 262143, 524287, 1048575, 2097151, 4194303, 4194303, 16777215, 33554431, 67108863, 134217727, 134217727, 402653183, 134217727, 134217727, 2281701375, 6576668671, 15166603263, 34225520639, 68719476735, 137438953471, 274877906943, 549755813887, 1099511627775, 2199023255551]
theorem juntolaw07_TwiceOne.tab15 : rtab .any (opsOf Try.f8 15) = juntolaw07_TwiceOne.T15 := by kernel_rfl
theorem juntolaw07_TwiceOne.bits15 : waitsOk juntolaw07_TwiceOne.T15.2 juntolaw07_TwiceOne.B15 = true := by kernel_rfl
set_option maxHeartbeats 8000000 in
set_option maxRecDepth 100000 in
theorem juntolaw07_TwiceOne.calls (k : Nat) (a0_0 : Int) (a0_1 : Int) (a0_2 : Int) (a1 : Int) (A2_0 : Option Addr) (c2_0 : Nat) (l2_0 : List Int) (A2_1 : Option Addr) (c2_1 : Nat) (l2_1 : List Int) (r : Bool) (w : World) (hr2_0 : Kd.C (Kd.int .u64) w A2_0 l2_0.length l2_0) (hc2_0 : l2_0.length ≤ c2_0) (hr2_1 : Kd.C (Kd.int .u64) w A2_1 l2_1.length l2_1) (hc2_1 : l2_1.length ≤ c2_1) (h : juntolaw07_TwiceOne.f k a0_0 a0_1 a0_2 a1 l2_0 l2_1 = some r) (hrt : r = true := by rfl) :
    Calls Try.prog 8 #[.agg #[.int .u64 a0_0, .int .i64 a0_1, .int .i64 a0_2], .int .u64 a1, .agg #[.slice A2_0 l2_0.length c2_0, .slice A2_1 l2_1.length c2_1]] w fun e w' => e = .returned (.bool r) ∧ Below w.heap.size w w' := by
  have HRT := Aside0.mk hrt
  clear hrt
  have hu24 := Try.underlying24
  have hu50 := Try.underlying50
  have HR2_0 := Aside0.mk hr2_0
  have HC2_0 := Aside0.mk hc2_0
  clear hr2_0 hc2_0
  have HR2_1 := Aside0.mk hr2_1
  have HC2_1 := Aside0.mk hc2_1
  clear hr2_1 hc2_1
  have HB := Aside0.mk (Below.refl w.heap.size w)
  have H : ((twice_Make.f k a0_0 a0_1 a0_2 a1 l2_1).bind fun bt441 => (if bt441.2.2 = 0 then (if (l2_0.length : Int) = 1 then (if 0 < (l2_0.length : Int) then (juntolaw07_TwiceOne.j0 k a1 bt441.1 (decide ((rd l2_0 0) ≥ a0_0)) a0_0 a0_1 a0_2 l2_0 l2_1) else (none)) else (juntolaw07_TwiceOne.j0 k a1 bt441.1 true a0_0 a0_1 a0_2 l2_0 l2_1)) else (juntolaw07_TwiceOne.j0 k a1 bt441.1 true a0_0 a0_1 a0_2 l2_0 l2_1))) = some r := h
  clear h
  replace H := Option.bind_eq_some_iff.mp H
  obtain ⟨⟨t441, t444, t447⟩, A40, H⟩ := H
  replace H : (if t447 = 0 then (if (l2_0.length : Int) = 1 then (if 0 < (l2_0.length : Int) then (juntolaw07_TwiceOne.j0 k a1 t441 (decide ((rd l2_0 0) ≥ a0_0)) a0_0 a0_1 a0_2 l2_0 l2_1) else (none)) else (juntolaw07_TwiceOne.j0 k a1 t441 true a0_0 a0_1 a0_2 l2_0 l2_1)) else (juntolaw07_TwiceOne.j0 k a1 t441 true a0_0 a0_1 a0_2 l2_0 l2_1)) = some r := H
  have A4 := Aside0.mk A40
  clear A40
  have HC5 := Aside0.mk H
  clear H
  go_enter Try.func8, Try.ntmps8
  go_upto_region 2 with (first | ((with_reducible refine gate_dst (N := 3) rfl ?_); (try (refine gate_guard (by rfl) ?_; dsimp only)); refine box_event ?hg (N := 3) ?hd (cs := #[.int .u64 a0_0, .int .i64 a0_1, .int .i64 a0_2]) (t := 24) ?hr ?_; (case hd => rfl); (case hg => rfl); (case hr => first | (go_simp; done) | (go_simp; rfl)); intro gb439 hg w6 hbox hb; have n0_ := Aside0.mk (below_step (by repeat (first | (with_reducible first | exact HB.out | apply below_alloc | apply pw_below_drewN | apply below_drew1) | exact HB.out)) hb); have n1_ := Aside0.mk (hbox); have n2_ := Aside0.mk ((by rw [hg]; exact (below_size (by repeat (first | (with_reducible first | exact HB.out | apply below_alloc | apply pw_below_drewN | apply below_drew1) | exact HB.out))) : w.heap.size ≤ gb439)); have n3_ := Aside0.mk ((by rw [hg]; exact (below_size (by repeat (first | (with_reducible first | exact HB.out | apply below_alloc | apply pw_below_drewN | apply below_drew1) | exact HB.out))) : w.heap.size ≤ gb439)); clear HB; have HB := n0_; have BK439 := n1_; have GW439 := n2_; have GE439 := n3_; clear n0_ n1_ n2_ n3_; clear hb hbox hg) | ((with_reducible refine gate_dst (N := 5) rfl ?_); (try (refine gate_guard (by rfl) ?_; dsimp only)); refine box_event ?hg (N := 5) ?hd (cs := #[.slice A2_0 l2_0.length c2_0, .slice A2_1 l2_1.length c2_1]) (t := 50) ?hr ?_; (case hd => rfl); (case hg => rfl); (case hr => first | (go_simp; done) | (go_simp; rfl)); intro gb440 hg w7 hbox hb; have n0_ := Aside0.mk (blk_below (g := gb439) (o := .cells #[.int .u64 a0_0, .int .i64 a0_1, .int .i64 a0_2] 24 (0, 0)) (by (with_reducible repeat (first | refine blk_drewN ?_ _ | refine blk_drew ?_ | refine blk_alloc ?_ _)); exact BK439.out) hb); have n1_ := Aside0.mk (below_step (by repeat (first | (with_reducible first | exact HB.out | apply below_alloc | apply pw_below_drewN | apply below_drew1 | refine below_set ?_ GE439.out) | exact HB.out)) hb); have n2_ := Aside0.mk (hbox); have n3_ := Aside0.mk ((by rw [hg]; exact (below_size (by repeat (first | (with_reducible first | exact HB.out | apply below_alloc | apply pw_below_drewN | apply below_drew1 | refine below_set ?_ GE439.out) | exact HB.out))) : w.heap.size ≤ gb440)); have n4_ := Aside0.mk ((by rw [hg]; exact (below_size (by repeat (first | (with_reducible first | exact HB.out | apply below_alloc | apply pw_below_drewN | apply below_drew1 | refine below_set ?_ GE439.out) | exact HB.out))) : w.heap.size ≤ gb440)); have n5_ := Aside0.mk ((by rw [hg]; exact Nat.ne_of_lt (blk_lt (g := gb439) (o := .cells #[.int .u64 a0_0, .int .i64 a0_1, .int .i64 a0_2] 24 (0, 0)) (by (with_reducible repeat (first | refine blk_drewN ?_ _ | refine blk_drew ?_ | refine blk_alloc ?_ _)); exact BK439.out)) : gb439 ≠ gb440)); have n6_ := Aside0.mk ((by rw [hg]; exact Nat.ne_of_gt (blk_lt (g := gb439) (o := .cells #[.int .u64 a0_0, .int .i64 a0_1, .int .i64 a0_2] 24 (0, 0)) (by (with_reducible repeat (first | refine blk_drewN ?_ _ | refine blk_drew ?_ | refine blk_alloc ?_ _)); exact BK439.out)) : gb440 ≠ gb439)); clear BK439; clear HB; have BK439 := n0_; have HB := n1_; have BK440 := n2_; have GW440 := n3_; have GE440 := n4_; have NB439_440 := n5_; have NB440_439 := n6_; clear n0_ n1_ n2_ n3_ n4_ n5_ n6_; clear hb hbox hg; have hnb8 := NB439_440.out; have hnc8 := NB440_439.out; have hcz9_0 : w7.cell? ⟨gb439, 0, none⟩ = some (.int .u64 a0_0) := (blk_cell BK439.out 0).trans rfl; have hcz9_1 : w7.cell? ⟨gb439, 1, none⟩ = some (.int .i64 a0_1) := (blk_cell BK439.out 1).trans rfl; have hcz9_2 : w7.cell? ⟨gb439, 2, none⟩ = some (.int .i64 a0_2) := (blk_cell BK439.out 2).trans rfl; have hfz9_0 := blk_frozen BK439.out 0; have hfz9_1 := blk_frozen BK439.out 1; have hfz9_2 := blk_frozen BK439.out 2; have hcz10_0 : w7.cell? ⟨gb440, 0, none⟩ = some (.slice A2_0 l2_0.length c2_0) := (blk_cell BK440.out 0).trans rfl; have hcz10_1 : w7.cell? ⟨gb440, 1, none⟩ = some (.slice A2_1 l2_1.length c2_1) := (blk_cell BK440.out 1).trans rfl; have hfz10_0 := blk_frozen BK440.out 0; have hfz10_1 := blk_frozen BK440.out 1) | ((with_reducible refine gate_callee (f := 41) rfl ?_); refine goesL_ (some 28) rfl rfl Try.func41 (by kernel_rfl) rfl #[.agg #[.int .u64 a0_0, .int .i64 a0_1, .int .i64 a0_2], .int .u64 a1, .slice A2_1 l2_1.length c2_1] rfl (by (try simp only [List.map_toArray, List.map_cons, List.map_nil]); first | done | rfl | (simp only [List.length_drop, List.length_take]; rfl)) ?_; (with_reducible refine (twice_Make.calls k a0_0 a0_1 a0_2 a1 _ _ l2_1 t441 t444 t447 _ ?side1 ?side2 A4.out).mono ?_); (case side1 => repeat (first | exact (Kd.C_below HR2_1.out HB.out) | (with_reducible refine Kd.C_alloc ?_ _) | (with_reducible refine Kd.C_drewN ?_ _) | (with_reducible refine Kd.C_drew ?_))); (case side2 => exact HC2_1.out); rintro e w11 ⟨v442, v445, rfl, ho0, ho1, hb⟩; refine ⟨_, rfl, ?_⟩; have n0_ := Aside0.mk (Kd.N_lower (Kd.N_mono (ok' := fun k_ => some k_ ≠ (v445 : Value).ownBlock ∧ k_ ≠ gb439 ∧ k_ ≠ gb440) ho0 (fun k_ hk_ => ⟨hk_.2, (Kd.freshB (g := gb439) (o := .cells #[.int .u64 a0_0, .int .i64 a0_1, .int .i64 a0_2] 24 (0, 0)) (by (with_reducible repeat (first | refine blk_drewN ?_ _ | refine blk_drew ?_ | refine blk_alloc ?_ _)); exact BK439.out) k_ hk_.1), (Kd.freshB (g := gb440) (o := .cells #[.slice A2_0 l2_0.length c2_0, .slice A2_1 l2_1.length c2_1] 50 (0, 0)) (by (with_reducible repeat (first | refine blk_drewN ?_ _ | refine blk_drew ?_ | refine blk_alloc ?_ _)); exact BK440.out) k_ hk_.1)⟩)) (below_size (by repeat (first | (with_reducible first | exact HB.out | apply below_alloc | apply pw_below_drewN | apply below_drew1 | refine below_set ?_ GE439.out | refine below_set ?_ GE440.out) | exact HB.out)))); have n1_ := Aside0.mk (Kd.R_lower (Kd.R_mono (ok' := fun k_ => True) ho1 (fun _ hk_ => trivial)) (below_size (by repeat (first | (with_reducible first | exact HB.out | apply below_alloc | apply pw_below_drewN | apply below_drew1 | refine below_set ?_ GE439.out | refine below_set ?_ GE440.out) | exact HB.out)))); have n2_ := Aside0.mk (blk_below (g := gb439) (o := .cells #[.int .u64 a0_0, .int .i64 a0_1, .int .i64 a0_2] 24 (0, 0)) (by (with_reducible repeat (first | refine blk_drewN ?_ _ | refine blk_drew ?_ | refine blk_alloc ?_ _)); exact BK439.out) hb); have n3_ := Aside0.mk (blk_below (g := gb440) (o := .cells #[.slice A2_0 l2_0.length c2_0, .slice A2_1 l2_1.length c2_1] 50 (0, 0)) (by (with_reducible repeat (first | refine blk_drewN ?_ _ | refine blk_drew ?_ | refine blk_alloc ?_ _)); exact BK440.out) hb); have n4_ := Aside0.mk (below_step (by repeat (first | (with_reducible first | exact HB.out | apply below_alloc | apply pw_below_drewN | apply below_drew1 | refine below_set ?_ GE439.out | refine below_set ?_ GE440.out) | exact HB.out)) hb); clear BK439; clear BK440; clear HB; have HO443 := n0_; have HO446 := n1_; have BK439 := n2_; have BK440 := n3_; have HB := n4_; clear n0_ n1_ n2_ n3_ n4_; (try clear hb); (try clear hb2); (try clear hk); (try clear hi); (try clear ho0); (try clear ho1)))
  (try simp only [Act.put, List.setIfInBounds_toArray, List.set_cons_zero, List.set_cons_succ])
  go_cut [48] (fun v48 wc => ∃ (kq : Nat) (x48_4 : Bool), v48 = .bool x48_4 ∧ Aside0 (juntolaw07_TwiceOne.j0 kq a1 t441 x48_4 a0_0 a0_1 a0_2 l2_0 l2_1 = some r) ∧ Aside0 (kq ≤ k) ∧ Aside0 (Kd.N (Kd.slice 22 (Kd.int .u64)) 31 wc w.heap.size (fun k_ => k_ ≠ gb439 ∧ k_ ≠ gb440) v442 t441) ∧ Aside0 (wc.heap[gb439]? = some (.cells #[.int .u64 a0_0, .int .i64 a0_1, .int .i64 a0_2] 24 (0, 0))) ∧ Aside0 (wc.heap[gb440]? = some (.cells #[(.slice A2_0 l2_0.length c2_0), (.slice A2_1 l2_1.length c2_1)] 50 (0, 0))) ∧ Aside0 (Below w.heap.size w wc))
  case first =>
    have H := HC5.out
    clear HC5
    by_cases c12 : t447 = 0
    · rw [if_pos c12] at H
      have c12b0 : (t447 == 0) = true := beq_iff_eq.mpr c12
      have c12b1 : (t447 != 0) = false := bne_eq_false_iff_eq.mpr c12
      clear c12
      (first | rw [c12b0] | (simp only [i64_w, i32_w]; rw [c12b0]) | skip)
      by_cases c13 : (l2_0.length : Int) = 1
      · rw [if_pos c13] at H
        have c13b0 : ((l2_0.length : Int) == 1) = true := beq_iff_eq.mpr c13
        have c13b1 : ((l2_0.length : Int) != 1) = false := bne_eq_false_iff_eq.mpr c13
        clear c13
        by_cases c14 : 0 < (l2_0.length : Int)
        · rw [if_pos c14] at H
          have c14b0 : decide (0 < (l2_0.length : Int)) = true := decide_eq_true c14
          have c14b1 : decide (0 < l2_0.length) = true := decide_eq_true (by omega)
          clear c14
          have H' := Aside0.mk H
          clear H
          try go_wp2
          have n0_ := Aside0.mk (Kd.N_drew HO443.out)
          have n1_ := Aside0.mk (Kd.R_drew HO446.out)
          have n2_ := Aside0.mk (blk_drew BK439.out)
          have n3_ := Aside0.mk (blk_drew BK440.out)
          have n4_ := Aside0.mk (below_drew1 HB.out)
          clear HO443
          clear HO446
          clear BK439
          clear BK440
          clear HB
          have HO443 := n0_
          have HO446 := n1_
          have BK439 := n2_
          have BK440 := n3_
          have HB := n4_
          clear n0_ n1_ n2_ n3_ n4_
          have p448 : 0 ≤ (0 : Int) := (by omega)
          have q448 : 0 < (l2_0.length : Int) := of_decide_eq_true (by first | (with_reducible assumption) | assumption)
          obtain ⟨ad448, e448, hx448_0⟩ := Kd.at_int HR2_0.out 0 p448 q448
          have hw448_0 := hx448_0
          (try rw [show ((0 : Int)).toNat = 0 from rfl] at hw448_0)
          (try rw [show 0 * 1 = 0 from rfl] at hw448_0)
          (try rw [Addr.add_zero'] at hw448_0)
          cases e448
          have qi448 : (0 < l2_0.length) = True := eq_true (by omega)
          (try rw [show ((0 : Int)).toNat = 0 from rfl] at hx448_0)
          (try rw [Addr.add_zero'] at hx448_0)
          replace hx448_0 := (HB.out.cell (World.block_lt_of_cell? w _ hx448_0)).trans hx448_0
          replace p448 := eq_true p448
          replace q448 := eq_true q448
          refine start_ (n := 17) (S := fun w' => w'.cell? ⟨gb440, 0, none⟩ = some (.slice (some ad448) l2_0.length c2_0) ∧ w'.cell? ⟨gb440, 1, none⟩ = some (.slice A2_1 l2_1.length c2_1) ∧ w'.cell? ⟨gb439, 0, none⟩ = some (.int .u64 a0_0) ∧ w'.cell? ⟨gb439, 1, none⟩ = some (.int .i64 a0_1) ∧ w'.cell? ⟨gb439, 2, none⟩ = some (.int .i64 a0_2) ∧ w'.cell? ad448 = some (.int .u64 (rd l2_0 0))) (ds := []) #[false, false, false, false, false, false, false, false, false, false, false, false, false, false, false, false, false] (by kernel_rfl) rfl rfl ⟨(blk_cell BK440.out 0).trans rfl, (blk_cell BK440.out 1).trans rfl, (blk_cell BK439.out 0).trans rfl, (blk_cell BK439.out 1).trans rfl, (blk_cell BK439.out 2).trans rfl, ((HB.out.cell (World.block_lt_of_cell? w _ hw448_0)).trans hw448_0)⟩ (fun hHeld => ?_); refine with_tabW juntolaw07_TwiceOne.tab2 juntolaw07_TwiceOne.bits2 (fun HT_ HW_ => ?_)
          generalize w11.drew = w15 at HO443 HO446 BK439 BK440 HB hx448_0 hHeld ⊢
          refine pure_ (i := 0) (N := some 32) (v := ?_) (a' := ?_) #[true, false, false, false, false, false, false, false, false, false, false, false, false, false, false, false, false] rfl rfl (any_of HT_.out (by kernel_rfl)) (fun _ _ _ h => h) (Or.inl ⟨by rfl, ?_⟩) ?_ ?_
          rotate_left
          · intro w'
            go_simp
            with_reducible rfl
          rotate_left
          · simp only [Act.put, List.setIfInBounds_toArray, List.set_cons_zero, List.set_cons_succ, i64_w, i32_w]
            rfl
          refine pure_ (i := 1) (N := some 33) (v := ?_) (a' := ?_) #[true, true, false, false, false, false, false, false, false, false, false, false, false, false, false, false, false] rfl rfl (any_of HT_.out (by kernel_rfl)) (fun _ _ _ h => h) (Or.inl ⟨by rfl, ?_⟩) ?_ ?_
          rotate_left
          · intro w'
            go_simp
            with_reducible rfl
          rotate_left
          · simp only [Act.put, List.setIfInBounds_toArray, List.set_cons_zero, List.set_cons_succ, i64_w, i32_w]
            rfl
          refine pure_ (i := 2) (N := some 34) (v := ?_) (a' := ?_) #[true, true, true, false, false, false, false, false, false, false, false, false, false, false, false, false, false] rfl rfl (any_of HT_.out (by kernel_rfl)) (fun _ _ _ h => h) (Or.inl ⟨by rfl, ?_⟩) ?_ ?_
          rotate_left
          · intro w'
            go_simp
            with_reducible rfl
          rotate_left
          · simp only [Act.put, List.setIfInBounds_toArray, List.set_cons_zero, List.set_cons_succ, i64_w, i32_w]
            rfl
          refine pure_ (i := 3) (N := some 35) (v := ?_) (a' := ?_) #[true, true, true, true, false, false, false, false, false, false, false, false, false, false, false, false, false] rfl rfl (any_of HT_.out (by kernel_rfl)) (fun _ _ _ h => h) (Or.inl ⟨by rfl, ?_⟩) ?_ ?_
          rotate_left
          · intro w'
            go_simp
            with_reducible rfl
          rotate_left
          · simp only [Act.put, List.setIfInBounds_toArray, List.set_cons_zero, List.set_cons_succ, i64_w, i32_w]
            rfl
          refine take_ (i := 4) (N := some 36) (v := ?_) (a' := ?_) #[true, true, true, true, true, false, false, false, false, false, false, false, false, false, false, false, false] rfl rfl (take_ofW HT_.out HW_.out (by kernel_rfl)) (fun _ _ _ h => h) (Or.inl ⟨by rfl, ?_⟩) hHeld ?_ ?_
          rotate_left
          · rintro w' ⟨s0, s1, s2, s3, s4, s5⟩
            go_simp
            with_reducible rfl
          rotate_left
          · simp only [Act.put, List.setIfInBounds_toArray, List.set_cons_zero, List.set_cons_succ, i64_w, i32_w]
            rfl
          refine pure_ (i := 5) (N := some 37) (v := ?_) (a' := ?_) #[true, true, true, true, true, true, false, false, false, false, false, false, false, false, false, false, false] rfl rfl (any_of HT_.out (by kernel_rfl)) (fun _ _ _ h => h) (Or.inl ⟨by rfl, ?_⟩) ?_ ?_
          rotate_left
          · intro w'
            go_simp
            with_reducible rfl
          rotate_left
          · simp only [Act.put, List.setIfInBounds_toArray, List.set_cons_zero, List.set_cons_succ, i64_w, i32_w]
            rfl
          refine pure_ (i := 6) (N := some 38) (v := ?_) (a' := ?_) #[true, true, true, true, true, true, true, false, false, false, false, false, false, false, false, false, false] rfl rfl (any_of HT_.out (by kernel_rfl)) (fun _ _ _ h => h) (Or.inl ⟨by rfl, ?_⟩) ?_ ?_
          rotate_left
          · intro w'
            go_simp
            with_reducible rfl
          rotate_left
          · simp only [Act.put, List.setIfInBounds_toArray, List.set_cons_zero, List.set_cons_succ, i64_w, i32_w]
            rfl
          refine pure_ (i := 7) (N := some 39) (v := ?_) (a' := ?_) #[true, true, true, true, true, true, true, true, false, false, false, false, false, false, false, false, false] rfl rfl (any_of HT_.out (by kernel_rfl)) (fun _ _ _ h => h) (Or.inl ⟨by rfl, ?_⟩) ?_ ?_
          rotate_left
          · intro w'
            go_simp
            with_reducible rfl
          rotate_left
          · simp only [Act.put, List.setIfInBounds_toArray, List.set_cons_zero, List.set_cons_succ, i64_w, i32_w]
            rfl
          refine pure_ (i := 8) (N := some 40) (v := ?_) (a' := ?_) #[true, true, true, true, true, true, true, true, true, false, false, false, false, false, false, false, false] rfl rfl (any_of HT_.out (by kernel_rfl)) (fun _ _ _ h => h) (Or.inl ⟨by rfl, ?_⟩) ?_ ?_
          rotate_left
          · intro w'
            go_simp
            with_reducible rfl
          rotate_left
          · simp only [Act.put, List.setIfInBounds_toArray, List.set_cons_zero, List.set_cons_succ, i64_w, i32_w]
            rfl
          refine pure_ (i := 9) (N := some 41) (v := ?_) (a' := ?_) #[true, true, true, true, true, true, true, true, true, true, false, false, false, false, false, false, false] rfl rfl (any_of HT_.out (by kernel_rfl)) (fun _ _ _ h => h) (Or.inl ⟨by rfl, ?_⟩) ?_ ?_
          rotate_left
          · intro w'
            go_simp
            with_reducible rfl
          rotate_left
          · simp only [Act.put, List.setIfInBounds_toArray, List.set_cons_zero, List.set_cons_succ, i64_w, i32_w]
            rfl
          refine pure_ (i := 13) (N := some 45) (v := ?_) (a' := ?_) #[true, true, true, true, true, true, true, true, true, true, false, false, false, true, false, false, false] rfl rfl (any_of HT_.out (by kernel_rfl)) (fun _ _ _ h => h) (Or.inl ⟨by rfl, ?_⟩) ?_ ?_
          rotate_left
          · intro w'
            go_simp
            with_reducible rfl
          rotate_left
          · simp only [Act.put, List.setIfInBounds_toArray, List.set_cons_zero, List.set_cons_succ, i64_w, i32_w]
            rfl
          refine take_ (i := 10) (N := some 42) (v := ?_) (a' := ?_) #[true, true, true, true, true, true, true, true, true, true, true, false, false, true, false, false, false] rfl rfl (take_ofW HT_.out HW_.out (by kernel_rfl)) (fun _ _ _ h => h) (Or.inl ⟨by rfl, ?_⟩) hHeld ?_ ?_
          rotate_left
          · rintro w' ⟨s0, s1, s2, s3, s4, s5⟩
            go_simp
            with_reducible rfl
          rotate_left
          · simp only [Act.put, List.setIfInBounds_toArray, List.set_cons_zero, List.set_cons_succ, i64_w, i32_w]
            rfl
          refine pure_ (i := 11) (N := some 43) (v := ?_) (a' := ?_) #[true, true, true, true, true, true, true, true, true, true, true, true, false, true, false, false, false] rfl rfl (any_of HT_.out (by kernel_rfl)) (fun _ _ _ h => h) (Or.inl ⟨by rfl, ?_⟩) ?_ ?_
          rotate_left
          · intro w'
            go_simp
            with_reducible rfl
          rotate_left
          · simp only [Act.put, List.setIfInBounds_toArray, List.set_cons_zero, List.set_cons_succ, i64_w, i32_w]
            rfl
          refine take_ (i := 12) (N := some 44) (v := ?_) (a' := ?_) #[true, true, true, true, true, true, true, true, true, true, true, true, true, true, false, false, false] rfl rfl (take_ofW HT_.out HW_.out (by kernel_rfl)) (fun _ _ _ h => h) (Or.inl ⟨by rfl, ?_⟩) hHeld ?_ ?_
          rotate_left
          · rintro w' ⟨s0, s1, s2, s3, s4, s5⟩
            go_simp
            with_reducible rfl
          rotate_left
          · simp only [Act.put, List.setIfInBounds_toArray, List.set_cons_zero, List.set_cons_succ, i64_w, i32_w]
            rfl
          refine take_ (i := 14) (N := some 46) (v := ?_) (a' := ?_) #[true, true, true, true, true, true, true, true, true, true, true, true, true, true, true, false, false] rfl rfl (take_ofW HT_.out HW_.out (by kernel_rfl)) (fun _ _ _ h => h) (Or.inl ⟨by rfl, ?_⟩) hHeld ?_ ?_
          rotate_left
          · rintro w' ⟨s0, s1, s2, s3, s4, s5⟩
            go_simp
            with_reducible rfl
          rotate_left
          · simp only [Act.put, List.setIfInBounds_toArray, List.set_cons_zero, List.set_cons_succ, i64_w, i32_w]
            rfl
          refine pure_ (i := 15) (N := some 47) (v := ?_) (a' := ?_) #[true, true, true, true, true, true, true, true, true, true, true, true, true, true, true, true, false] rfl rfl (any_of HT_.out (by kernel_rfl)) (fun _ _ _ h => h) (Or.inl ⟨by rfl, ?_⟩) ?_ ?_
          rotate_left
          · intro w'
            go_simp
            with_reducible rfl
          rotate_left
          · simp only [Act.put, List.setIfInBounds_toArray, List.set_cons_zero, List.set_cons_succ, i64_w, i32_w]
            rfl
          refine pure_ (i := 16) (N := some 48) (v := ?_) (a' := ?_) #[true, true, true, true, true, true, true, true, true, true, true, true, true, true, true, true, true] rfl rfl (any_of HT_.out (by kernel_rfl)) (fun _ _ _ h => h) (Or.inl ⟨by rfl, ?_⟩) ?_ ?_
          rotate_left
          · intro w'
            go_simp
            with_reducible rfl
          rotate_left
          · simp only [Act.put, List.setIfInBounds_toArray, List.set_cons_zero, List.set_cons_succ, i64_w, i32_w]
            rfl
          refine done_ (done_of HT_.out (by kernel_rfl)) ?_
          try go_wp2
          go_meet
          case rel => exact ⟨_, (decide ((rd l2_0 0) ≥ a0_0)), (by first | rfl | (simp; done) | (simp [*]; done)), H', ⟨by first | omega | exact Nat.le_refl _⟩, ⟨by (with_reducible repeat (first | apply Kd.N_alloc | apply Kd.N_drewN | apply Kd.N_drew)); exact Kd.N_mono HO443.out (fun _ hk => ⟨hk.2.1, hk.2.2⟩)⟩, ⟨by (with_reducible repeat (first | refine blk_drewN ?_ _ | refine blk_drew ?_ | refine blk_alloc ?_ _)); exact BK439.out⟩, ⟨by (with_reducible repeat (first | refine blk_drewN ?_ _ | refine blk_drew ?_ | refine blk_alloc ?_ _)); exact BK440.out⟩, ⟨by repeat (first | (with_reducible first | exact HB.out | apply below_alloc | apply pw_below_drewN | apply below_drew1 | refine below_set ?_ GE439.out | refine below_set ?_ GE440.out) | exact HB.out)⟩⟩
        · rw [if_neg c14] at H
          exact absurd H (by simp)
      · rw [if_neg c13] at H
        have c13b0 : ((l2_0.length : Int) == 1) = false := beq_eq_false_iff_ne.mpr c13
        have c13b1 : ((l2_0.length : Int) != 1) = true := bne_iff_ne.mpr c13
        have H' := Aside0.mk H
        clear H
        try go_wp2
        have n0_ := Aside0.mk (Kd.N_drew HO443.out)
        have n1_ := Aside0.mk (Kd.R_drew HO446.out)
        have n2_ := Aside0.mk (blk_drew BK439.out)
        have n3_ := Aside0.mk (blk_drew BK440.out)
        have n4_ := Aside0.mk (below_drew1 HB.out)
        clear HO443
        clear HO446
        clear BK439
        clear BK440
        clear HB
        have HO443 := n0_
        have HO446 := n1_
        have BK439 := n2_
        have BK440 := n3_
        have HB := n4_
        clear n0_ n1_ n2_ n3_ n4_
        refine start_ (n := 17) (S := fun w' => w'.cell? ⟨gb440, 0, none⟩ = some (.slice A2_0 l2_0.length c2_0) ∧ w'.cell? ⟨gb440, 1, none⟩ = some (.slice A2_1 l2_1.length c2_1)) (ds := []) #[false, false, false, false, false, false, false, false, false, false, false, false, false, false, false, false, false] (by kernel_rfl) rfl rfl ⟨(blk_cell BK440.out 0).trans rfl, (blk_cell BK440.out 1).trans rfl⟩ (fun hHeld => ?_); refine with_tabW juntolaw07_TwiceOne.tab2 juntolaw07_TwiceOne.bits2 (fun HT_ HW_ => ?_)
        generalize w11.drew = w16 at HO443 HO446 BK439 BK440 HB hHeld ⊢
        refine pure_ (i := 0) (N := some 32) (v := ?_) (a' := ?_) #[true, false, false, false, false, false, false, false, false, false, false, false, false, false, false, false, false] rfl rfl (any_of HT_.out (by kernel_rfl)) (fun _ _ _ h => h) (Or.inl ⟨by rfl, ?_⟩) ?_ ?_
        rotate_left
        · intro w'
          go_simp
          with_reducible rfl
        rotate_left
        · simp only [Act.put, List.setIfInBounds_toArray, List.set_cons_zero, List.set_cons_succ, i64_w, i32_w]
          rfl
        refine pure_ (i := 1) (N := some 33) (v := ?_) (a' := ?_) #[true, true, false, false, false, false, false, false, false, false, false, false, false, false, false, false, false] rfl rfl (any_of HT_.out (by kernel_rfl)) (fun _ _ _ h => h) (Or.inl ⟨by rfl, ?_⟩) ?_ ?_
        rotate_left
        · intro w'
          go_simp
          with_reducible rfl
        rotate_left
        · simp only [Act.put, List.setIfInBounds_toArray, List.set_cons_zero, List.set_cons_succ, i64_w, i32_w]
          rfl
        refine pure_ (i := 2) (N := some 34) (v := ?_) (a' := ?_) #[true, true, true, false, false, false, false, false, false, false, false, false, false, false, false, false, false] rfl rfl (any_of HT_.out (by kernel_rfl)) (fun _ _ _ h => h) (Or.inl ⟨by rfl, ?_⟩) ?_ ?_
        rotate_left
        · intro w'
          go_simp
          with_reducible rfl
        rotate_left
        · simp only [Act.put, List.setIfInBounds_toArray, List.set_cons_zero, List.set_cons_succ, i64_w, i32_w]
          rfl
        refine pure_ (i := 3) (N := some 35) (v := ?_) (a' := ?_) #[true, true, true, true, false, false, false, false, false, false, false, false, false, false, false, false, false] rfl rfl (any_of HT_.out (by kernel_rfl)) (fun _ _ _ h => h) (Or.inl ⟨by rfl, ?_⟩) ?_ ?_
        rotate_left
        · intro w'
          go_simp
          with_reducible rfl
        rotate_left
        · simp only [Act.put, List.setIfInBounds_toArray, List.set_cons_zero, List.set_cons_succ, i64_w, i32_w]
          rfl
        refine take_ (i := 4) (N := some 36) (v := ?_) (a' := ?_) #[true, true, true, true, true, false, false, false, false, false, false, false, false, false, false, false, false] rfl rfl (take_ofW HT_.out HW_.out (by kernel_rfl)) (fun _ _ _ h => h) (Or.inl ⟨by rfl, ?_⟩) hHeld ?_ ?_
        rotate_left
        · rintro w' ⟨s0, s1⟩
          go_simp
          with_reducible rfl
        rotate_left
        · simp only [Act.put, List.setIfInBounds_toArray, List.set_cons_zero, List.set_cons_succ, i64_w, i32_w]
          rfl
        refine pure_ (i := 5) (N := some 37) (v := ?_) (a' := ?_) #[true, true, true, true, true, true, false, false, false, false, false, false, false, false, false, false, false] rfl rfl (any_of HT_.out (by kernel_rfl)) (fun _ _ _ h => h) (Or.inl ⟨by rfl, ?_⟩) ?_ ?_
        rotate_left
        · intro w'
          go_simp
          with_reducible rfl
        rotate_left
        · simp only [Act.put, List.setIfInBounds_toArray, List.set_cons_zero, List.set_cons_succ, i64_w, i32_w]
          rfl
        refine pure_ (i := 6) (N := some 38) (v := ?_) (a' := ?_) #[true, true, true, true, true, true, true, false, false, false, false, false, false, false, false, false, false] rfl rfl (any_of HT_.out (by kernel_rfl)) (fun _ _ _ h => h) (Or.inl ⟨by rfl, ?_⟩) ?_ ?_
        rotate_left
        · intro w'
          go_simp
          with_reducible rfl
        rotate_left
        · simp only [Act.put, List.setIfInBounds_toArray, List.set_cons_zero, List.set_cons_succ, i64_w, i32_w]
          rfl
        refine pure_ (i := 7) (N := some 39) (v := ?_) (a' := ?_) #[true, true, true, true, true, true, true, true, false, false, false, false, false, false, false, false, false] rfl rfl (any_of HT_.out (by kernel_rfl)) (fun _ _ _ h => h) (Or.inl ⟨by rfl, ?_⟩) ?_ ?_
        rotate_left
        · intro w'
          go_simp
          with_reducible rfl
        rotate_left
        · simp only [Act.put, List.setIfInBounds_toArray, List.set_cons_zero, List.set_cons_succ, i64_w, i32_w]
          rfl
        refine pure_ (i := 8) (N := some 40) (v := ?_) (a' := ?_) #[true, true, true, true, true, true, true, true, true, false, false, false, false, false, false, false, false] rfl rfl (any_of HT_.out (by kernel_rfl)) (fun _ _ _ h => h) (Or.inl ⟨by rfl, ?_⟩) ?_ ?_
        rotate_left
        · intro w'
          go_simp
          with_reducible rfl
        rotate_left
        · simp only [Act.put, List.setIfInBounds_toArray, List.set_cons_zero, List.set_cons_succ, i64_w, i32_w]
          rfl
        refine pure_ (i := 9) (N := some 41) (v := undef) (a' := ?_) #[true, true, true, true, true, true, true, true, true, true, false, false, false, false, false, false, false] rfl rfl (any_of HT_.out (by kernel_rfl)) (fun _ _ _ h => h) (Or.inr ⟨by rfl, rfl⟩) ?_ ?_
        rotate_left
        · simp only [Act.put, List.setIfInBounds_toArray, List.set_cons_zero, List.set_cons_succ, i64_w, i32_w]
          rfl
        refine pure_ (i := 10) (N := some 42) (v := undef) (a' := ?_) #[true, true, true, true, true, true, true, true, true, true, true, false, false, false, false, false, false] rfl rfl (any_of HT_.out (by kernel_rfl)) (fun _ _ _ h => h) (Or.inr ⟨by rfl, rfl⟩) ?_ ?_
        rotate_left
        · simp only [Act.put, List.setIfInBounds_toArray, List.set_cons_zero, List.set_cons_succ, i64_w, i32_w]
          rfl
        refine pure_ (i := 11) (N := some 43) (v := undef) (a' := ?_) #[true, true, true, true, true, true, true, true, true, true, true, true, false, false, false, false, false] rfl rfl (any_of HT_.out (by kernel_rfl)) (fun _ _ _ h => h) (Or.inr ⟨by rfl, rfl⟩) ?_ ?_
        rotate_left
        · simp only [Act.put, List.setIfInBounds_toArray, List.set_cons_zero, List.set_cons_succ, i64_w, i32_w]
          rfl
        refine pure_ (i := 12) (N := some 44) (v := undef) (a' := ?_) #[true, true, true, true, true, true, true, true, true, true, true, true, true, false, false, false, false] rfl rfl (any_of HT_.out (by kernel_rfl)) (fun _ _ _ h => h) (Or.inr ⟨by rfl, rfl⟩) ?_ ?_
        rotate_left
        · simp only [Act.put, List.setIfInBounds_toArray, List.set_cons_zero, List.set_cons_succ, i64_w, i32_w]
          rfl
        refine pure_ (i := 13) (N := some 45) (v := undef) (a' := ?_) #[true, true, true, true, true, true, true, true, true, true, true, true, true, true, false, false, false] rfl rfl (any_of HT_.out (by kernel_rfl)) (fun _ _ _ h => h) (Or.inr ⟨by rfl, rfl⟩) ?_ ?_
        rotate_left
        · simp only [Act.put, List.setIfInBounds_toArray, List.set_cons_zero, List.set_cons_succ, i64_w, i32_w]
          rfl
        refine pure_ (i := 14) (N := some 46) (v := undef) (a' := ?_) #[true, true, true, true, true, true, true, true, true, true, true, true, true, true, true, false, false] rfl rfl (any_of HT_.out (by kernel_rfl)) (fun _ _ _ h => h) (Or.inr ⟨by rfl, rfl⟩) ?_ ?_
        rotate_left
        · simp only [Act.put, List.setIfInBounds_toArray, List.set_cons_zero, List.set_cons_succ, i64_w, i32_w]
          rfl
        refine pure_ (i := 15) (N := some 47) (v := undef) (a' := ?_) #[true, true, true, true, true, true, true, true, true, true, true, true, true, true, true, true, false] rfl rfl (any_of HT_.out (by kernel_rfl)) (fun _ _ _ h => h) (Or.inr ⟨by rfl, rfl⟩) ?_ ?_
        rotate_left
        · simp only [Act.put, List.setIfInBounds_toArray, List.set_cons_zero, List.set_cons_succ, i64_w, i32_w]
          rfl
        refine pure_ (i := 16) (N := some 48) (v := ?_) (a' := ?_) #[true, true, true, true, true, true, true, true, true, true, true, true, true, true, true, true, true] rfl rfl (any_of HT_.out (by kernel_rfl)) (fun _ _ _ h => h) (Or.inl ⟨by rfl, ?_⟩) ?_ ?_
        rotate_left
        · intro w'
          go_simp
          with_reducible rfl
        rotate_left
        · simp only [Act.put, List.setIfInBounds_toArray, List.set_cons_zero, List.set_cons_succ, i64_w, i32_w]
          rfl
        refine done_ (done_of HT_.out (by kernel_rfl)) ?_
        try go_wp2
        go_meet
        case rel => exact ⟨_, (true), (by first | rfl | (simp; done) | (simp [*]; done)), H', ⟨by first | omega | exact Nat.le_refl _⟩, ⟨by (with_reducible repeat (first | apply Kd.N_alloc | apply Kd.N_drewN | apply Kd.N_drew)); exact Kd.N_mono HO443.out (fun _ hk => ⟨hk.2.1, hk.2.2⟩)⟩, ⟨by (with_reducible repeat (first | refine blk_drewN ?_ _ | refine blk_drew ?_ | refine blk_alloc ?_ _)); exact BK439.out⟩, ⟨by (with_reducible repeat (first | refine blk_drewN ?_ _ | refine blk_drew ?_ | refine blk_alloc ?_ _)); exact BK440.out⟩, ⟨by repeat (first | (with_reducible first | exact HB.out | apply below_alloc | apply pw_below_drewN | apply below_drew1 | refine below_set ?_ GE439.out | refine below_set ?_ GE440.out) | exact HB.out)⟩⟩
    · rw [if_neg c12] at H
      have c12b0 : (t447 == 0) = false := beq_eq_false_iff_ne.mpr c12
      have c12b1 : (t447 != 0) = true := bne_iff_ne.mpr c12
      (first | rw [c12b0] | (simp only [i64_w, i32_w]; rw [c12b0]) | skip)
      have H' := Aside0.mk H
      clear H
      try go_wp2
      have n0_ := Aside0.mk (Kd.N_drew HO443.out)
      have n1_ := Aside0.mk (Kd.R_drew HO446.out)
      have n2_ := Aside0.mk (blk_drew BK439.out)
      have n3_ := Aside0.mk (blk_drew BK440.out)
      have n4_ := Aside0.mk (below_drew1 HB.out)
      clear HO443
      clear HO446
      clear BK439
      clear BK440
      clear HB
      have HO443 := n0_
      have HO446 := n1_
      have BK439 := n2_
      have BK440 := n3_
      have HB := n4_
      clear n0_ n1_ n2_ n3_ n4_
      refine start_ (n := 17) (S := fun w' => True) (ds := []) #[false, false, false, false, false, false, false, false, false, false, false, false, false, false, false, false, false] (by kernel_rfl) rfl rfl trivial (fun hHeld => ?_); refine with_tabW juntolaw07_TwiceOne.tab2 juntolaw07_TwiceOne.bits2 (fun HT_ HW_ => ?_)
      generalize w11.drew = w17 at HO443 HO446 BK439 BK440 HB hHeld ⊢
      refine pure_ (i := 0) (N := some 32) (v := ?_) (a' := ?_) #[true, false, false, false, false, false, false, false, false, false, false, false, false, false, false, false, false] rfl rfl (any_of HT_.out (by kernel_rfl)) (fun _ _ _ h => h) (Or.inl ⟨by rfl, ?_⟩) ?_ ?_
      rotate_left
      · intro w'
        go_simp
        with_reducible rfl
      rotate_left
      · simp only [Act.put, List.setIfInBounds_toArray, List.set_cons_zero, List.set_cons_succ, i64_w, i32_w]
        rfl
      refine pure_ (i := 1) (N := some 33) (v := ?_) (a' := ?_) #[true, true, false, false, false, false, false, false, false, false, false, false, false, false, false, false, false] rfl rfl (any_of HT_.out (by kernel_rfl)) (fun _ _ _ h => h) (Or.inl ⟨by rfl, ?_⟩) ?_ ?_
      rotate_left
      · intro w'
        go_simp
        with_reducible rfl
      rotate_left
      · simp only [Act.put, List.setIfInBounds_toArray, List.set_cons_zero, List.set_cons_succ, i64_w, i32_w]
        rfl
      refine pure_ (i := 2) (N := some 34) (v := ?_) (a' := ?_) #[true, true, true, false, false, false, false, false, false, false, false, false, false, false, false, false, false] rfl rfl (any_of HT_.out (by kernel_rfl)) (fun _ _ _ h => h) (Or.inl ⟨by rfl, ?_⟩) ?_ ?_
      rotate_left
      · intro w'
        go_simp
        with_reducible rfl
      rotate_left
      · simp only [Act.put, List.setIfInBounds_toArray, List.set_cons_zero, List.set_cons_succ, i64_w, i32_w]
        rfl
      refine pure_ (i := 3) (N := some 35) (v := undef) (a' := ?_) #[true, true, true, true, false, false, false, false, false, false, false, false, false, false, false, false, false] rfl rfl (any_of HT_.out (by kernel_rfl)) (fun _ _ _ h => h) (Or.inr ⟨by rfl, rfl⟩) ?_ ?_
      rotate_left
      · simp only [Act.put, List.setIfInBounds_toArray, List.set_cons_zero, List.set_cons_succ, i64_w, i32_w]
        rfl
      refine pure_ (i := 4) (N := some 36) (v := undef) (a' := ?_) #[true, true, true, true, true, false, false, false, false, false, false, false, false, false, false, false, false] rfl rfl (any_of HT_.out (by kernel_rfl)) (fun _ _ _ h => h) (Or.inr ⟨by rfl, rfl⟩) ?_ ?_
      rotate_left
      · simp only [Act.put, List.setIfInBounds_toArray, List.set_cons_zero, List.set_cons_succ, i64_w, i32_w]
        rfl
      refine pure_ (i := 5) (N := some 37) (v := undef) (a' := ?_) #[true, true, true, true, true, true, false, false, false, false, false, false, false, false, false, false, false] rfl rfl (any_of HT_.out (by kernel_rfl)) (fun _ _ _ h => h) (Or.inr ⟨by rfl, rfl⟩) ?_ ?_
      rotate_left
      · simp only [Act.put, List.setIfInBounds_toArray, List.set_cons_zero, List.set_cons_succ, i64_w, i32_w]
        rfl
      refine pure_ (i := 6) (N := some 38) (v := undef) (a' := ?_) #[true, true, true, true, true, true, true, false, false, false, false, false, false, false, false, false, false] rfl rfl (any_of HT_.out (by kernel_rfl)) (fun _ _ _ h => h) (Or.inr ⟨by rfl, rfl⟩) ?_ ?_
      rotate_left
      · simp only [Act.put, List.setIfInBounds_toArray, List.set_cons_zero, List.set_cons_succ, i64_w, i32_w]
        rfl
      refine pure_ (i := 7) (N := some 39) (v := ?_) (a' := ?_) #[true, true, true, true, true, true, true, true, false, false, false, false, false, false, false, false, false] rfl rfl (any_of HT_.out (by kernel_rfl)) (fun _ _ _ h => h) (Or.inl ⟨by rfl, ?_⟩) ?_ ?_
      rotate_left
      · intro w'
        go_simp
        with_reducible rfl
      rotate_left
      · simp only [Act.put, List.setIfInBounds_toArray, List.set_cons_zero, List.set_cons_succ, i64_w, i32_w]
        rfl
      refine pure_ (i := 8) (N := some 40) (v := ?_) (a' := ?_) #[true, true, true, true, true, true, true, true, true, false, false, false, false, false, false, false, false] rfl rfl (any_of HT_.out (by kernel_rfl)) (fun _ _ _ h => h) (Or.inl ⟨by rfl, ?_⟩) ?_ ?_
      rotate_left
      · intro w'
        go_simp
        with_reducible rfl
      rotate_left
      · simp only [Act.put, List.setIfInBounds_toArray, List.set_cons_zero, List.set_cons_succ, i64_w, i32_w]
        rfl
      refine pure_ (i := 9) (N := some 41) (v := undef) (a' := ?_) #[true, true, true, true, true, true, true, true, true, true, false, false, false, false, false, false, false] rfl rfl (any_of HT_.out (by kernel_rfl)) (fun _ _ _ h => h) (Or.inr ⟨by rfl, rfl⟩) ?_ ?_
      rotate_left
      · simp only [Act.put, List.setIfInBounds_toArray, List.set_cons_zero, List.set_cons_succ, i64_w, i32_w]
        rfl
      refine pure_ (i := 10) (N := some 42) (v := undef) (a' := ?_) #[true, true, true, true, true, true, true, true, true, true, true, false, false, false, false, false, false] rfl rfl (any_of HT_.out (by kernel_rfl)) (fun _ _ _ h => h) (Or.inr ⟨by rfl, rfl⟩) ?_ ?_
      rotate_left
      · simp only [Act.put, List.setIfInBounds_toArray, List.set_cons_zero, List.set_cons_succ, i64_w, i32_w]
        rfl
      refine pure_ (i := 11) (N := some 43) (v := undef) (a' := ?_) #[true, true, true, true, true, true, true, true, true, true, true, true, false, false, false, false, false] rfl rfl (any_of HT_.out (by kernel_rfl)) (fun _ _ _ h => h) (Or.inr ⟨by rfl, rfl⟩) ?_ ?_
      rotate_left
      · simp only [Act.put, List.setIfInBounds_toArray, List.set_cons_zero, List.set_cons_succ, i64_w, i32_w]
        rfl
      refine pure_ (i := 12) (N := some 44) (v := undef) (a' := ?_) #[true, true, true, true, true, true, true, true, true, true, true, true, true, false, false, false, false] rfl rfl (any_of HT_.out (by kernel_rfl)) (fun _ _ _ h => h) (Or.inr ⟨by rfl, rfl⟩) ?_ ?_
      rotate_left
      · simp only [Act.put, List.setIfInBounds_toArray, List.set_cons_zero, List.set_cons_succ, i64_w, i32_w]
        rfl
      refine pure_ (i := 13) (N := some 45) (v := undef) (a' := ?_) #[true, true, true, true, true, true, true, true, true, true, true, true, true, true, false, false, false] rfl rfl (any_of HT_.out (by kernel_rfl)) (fun _ _ _ h => h) (Or.inr ⟨by rfl, rfl⟩) ?_ ?_
      rotate_left
      · simp only [Act.put, List.setIfInBounds_toArray, List.set_cons_zero, List.set_cons_succ, i64_w, i32_w]
        rfl
      refine pure_ (i := 14) (N := some 46) (v := undef) (a' := ?_) #[true, true, true, true, true, true, true, true, true, true, true, true, true, true, true, false, false] rfl rfl (any_of HT_.out (by kernel_rfl)) (fun _ _ _ h => h) (Or.inr ⟨by rfl, rfl⟩) ?_ ?_
      rotate_left
      · simp only [Act.put, List.setIfInBounds_toArray, List.set_cons_zero, List.set_cons_succ, i64_w, i32_w]
        rfl
      refine pure_ (i := 15) (N := some 47) (v := undef) (a' := ?_) #[true, true, true, true, true, true, true, true, true, true, true, true, true, true, true, true, false] rfl rfl (any_of HT_.out (by kernel_rfl)) (fun _ _ _ h => h) (Or.inr ⟨by rfl, rfl⟩) ?_ ?_
      rotate_left
      · simp only [Act.put, List.setIfInBounds_toArray, List.set_cons_zero, List.set_cons_succ, i64_w, i32_w]
        rfl
      refine pure_ (i := 16) (N := some 48) (v := ?_) (a' := ?_) #[true, true, true, true, true, true, true, true, true, true, true, true, true, true, true, true, true] rfl rfl (any_of HT_.out (by kernel_rfl)) (fun _ _ _ h => h) (Or.inl ⟨by rfl, ?_⟩) ?_ ?_
      rotate_left
      · intro w'
        go_simp
        with_reducible rfl
      rotate_left
      · simp only [Act.put, List.setIfInBounds_toArray, List.set_cons_zero, List.set_cons_succ, i64_w, i32_w]
        rfl
      refine done_ (done_of HT_.out (by kernel_rfl)) ?_
      try go_wp2
      go_meet
      case rel => exact ⟨_, (true), (by first | rfl | (simp; done) | (simp [*]; done)), H', ⟨by first | omega | exact Nat.le_refl _⟩, ⟨by (with_reducible repeat (first | apply Kd.N_alloc | apply Kd.N_drewN | apply Kd.N_drew)); exact Kd.N_mono HO443.out (fun _ hk => ⟨hk.2.1, hk.2.2⟩)⟩, ⟨by (with_reducible repeat (first | refine blk_drewN ?_ _ | refine blk_drew ?_ | refine blk_alloc ?_ _)); exact BK439.out⟩, ⟨by (with_reducible repeat (first | refine blk_drewN ?_ _ | refine blk_drew ?_ | refine blk_alloc ?_ _)); exact BK440.out⟩, ⟨by repeat (first | (with_reducible first | exact HB.out | apply below_alloc | apply pw_below_drewN | apply below_drew1 | refine below_set ?_ GE439.out | refine below_set ?_ GE440.out) | exact HB.out)⟩⟩
  case rest =>
    clear HC5
    try clear c1
    try clear c2
    try clear p2
    try clear c4
    try clear p4
    try clear q4
    try clear hx4
    try clear qi4
    try clear c8
    try clear c12
    try clear c12b0
    try clear c12b1
    try clear c13
    try clear c13b0
    try clear c13b1
    try clear c14
    try clear c14b0
    try clear c14b1
    try clear hcz10_0
    try clear hcz10_1
    try clear hcz9_0
    try clear hcz9_1
    try clear hcz9_2
    try clear hfz10_0
    try clear hfz10_1
    try clear hfz9_0
    try clear hfz9_1
    try clear hfz9_2
    try clear hx448_0
    try clear p448
    try clear q448
    obtain ⟨kq, x48_4, rfl, HA, HJ4, HO_7, BK439, BK440, HB⟩ := hcut
    cases kq with
    | zero => exact absurd HA.out (by simp [juntolaw07_TwiceOne.j0])
    | succ kj4 =>
      have H := HA.out
      clear HA
      simp only [juntolaw07_TwiceOne.j0] at H
      by_cases c18 : x48_4 = true
      · subst c18
        have H1 : ((juntolaw07_alive.f kj4).bind fun t449 => (some t449)) = some r := by rw [if_pos rfl] at H; exact H
        clear H
        have H := H1
        clear H1
        replace H := Option.bind_eq_some_iff.mp H
        obtain ⟨t449, A190, H⟩ := H
        replace H : (some t449) = some r := H
        have A19 := Aside0.mk A190
        clear A190
        obtain rfl := Option.some.inj H
        go_wp2_with (first | ((with_reducible refine gate_callee (f := 40) rfl ?_); refine goesL_ (some 49) rfl rfl Try.func40 (by kernel_rfl) rfl #[] rfl (by (try simp only [List.map_toArray, List.map_cons, List.map_nil]); first | done | rfl | (simp only [List.length_drop, List.length_take]; rfl)) ?_; (with_reducible refine (juntolaw07_alive.calls kj4  t449 _ A19.out (by first | rfl | exact HRT.out)).mono ?_); rintro e w20 ⟨rfl, hb⟩; refine ⟨_, rfl, ?_⟩; have n0_ := Aside0.mk (Kd.N_below (by (with_reducible repeat (first | apply Kd.N_alloc | apply Kd.N_drewN | apply Kd.N_drew)); exact HO_7.out) hb); have n1_ := Aside0.mk (blk_below (g := gb439) (o := .cells #[.int .u64 a0_0, .int .i64 a0_1, .int .i64 a0_2] 24 (0, 0)) (by (with_reducible repeat (first | refine blk_drewN ?_ _ | refine blk_drew ?_ | refine blk_alloc ?_ _)); exact BK439.out) hb); have n2_ := Aside0.mk (blk_below (g := gb440) (o := .cells #[.slice A2_0 l2_0.length c2_0, .slice A2_1 l2_1.length c2_1] 50 (0, 0)) (by (with_reducible repeat (first | refine blk_drewN ?_ _ | refine blk_drew ?_ | refine blk_alloc ?_ _)); exact BK440.out) hb); have n3_ := Aside0.mk (below_step (by repeat (first | (with_reducible first | exact HB.out | apply below_alloc | apply pw_below_drewN | apply below_drew1 | refine below_set ?_ GE439.out | refine below_set ?_ GE440.out) | exact HB.out)) hb); clear HO_7; clear BK439; clear BK440; clear HB; have HO_7 := n0_; have BK439 := n1_; have BK440 := n2_; have HB := n3_; clear n0_ n1_ n2_ n3_; (try clear hb); (try clear hb2); (try clear hk); (try clear hi)))
        go_ret
        exact ⟨by first | rfl | (simp [errW_none, errW_some] <;> rfl) | (simp [*, errW_none, errW_some] <;> rfl), by repeat (first | (with_reducible first | exact HB.out | apply below_alloc | apply pw_below_drewN | apply below_drew1 | refine below_set ?_ GE439.out | refine below_set ?_ GE440.out) | exact HB.out)⟩
      · replace c18 := Bool.eq_false_iff.mpr c18
        subst c18
        have H1 : ((twice_Low.f kj4 a0_0 a0_1 a0_2 t441 0).bind fun bt450 => ((twice_High.f kj4 a0_0 a0_1 a0_2 t441 0).bind fun bt452 => ((twice_Whole.f kj4 a0_0 a0_1 a0_2 t441).bind fun bt454 => (juntolaw07_TwiceOne.l0 kj4 a1 t441 bt450.1 bt452.1 bt454.1 ([] : List Int) t441 (t441.length : Int) 0 a0_0 a0_1 a0_2 l2_0 l2_1)))) = some r := by rw [if_neg (show ¬ (false = true) by decide)] at H; exact H
        clear H
        have H := H1
        clear H1
        replace H := Option.bind_eq_some_iff.mp H
        obtain ⟨⟨t450, t451⟩, A210, H⟩ := H
        replace H : ((twice_High.f kj4 a0_0 a0_1 a0_2 t441 0).bind fun bt452 => ((twice_Whole.f kj4 a0_0 a0_1 a0_2 t441).bind fun bt454 => (juntolaw07_TwiceOne.l0 kj4 a1 t441 t450 bt452.1 bt454.1 ([] : List Int) t441 (t441.length : Int) 0 a0_0 a0_1 a0_2 l2_0 l2_1))) = some r := H
        have A21 := Aside0.mk A210
        clear A210
        replace H := Option.bind_eq_some_iff.mp H
        obtain ⟨⟨t452, t453⟩, A220, H⟩ := H
        replace H : ((twice_Whole.f kj4 a0_0 a0_1 a0_2 t441).bind fun bt454 => (juntolaw07_TwiceOne.l0 kj4 a1 t441 t450 t452 bt454.1 ([] : List Int) t441 (t441.length : Int) 0 a0_0 a0_1 a0_2 l2_0 l2_1)) = some r := H
        have A22 := Aside0.mk A220
        clear A220
        replace H := Option.bind_eq_some_iff.mp H
        obtain ⟨⟨t454, t457⟩, A230, H⟩ := H
        replace H : (juntolaw07_TwiceOne.l0 kj4 a1 t441 t450 t452 t454 ([] : List Int) t441 (t441.length : Int) 0 a0_0 a0_1 a0_2 l2_0 l2_1) = some r := H
        have A23 := Aside0.mk A230
        clear A230
        have H' := Aside0.mk H
        clear H
        have hnb24 := NB439_440.out
        have hnc24 := NB440_439.out
        have hcz25_0 : wc.cell? ⟨gb439, 0, none⟩ = some (.int .u64 a0_0) := (blk_cell BK439.out 0).trans rfl
        have hcz25_1 : wc.cell? ⟨gb439, 1, none⟩ = some (.int .i64 a0_1) := (blk_cell BK439.out 1).trans rfl
        have hcz25_2 : wc.cell? ⟨gb439, 2, none⟩ = some (.int .i64 a0_2) := (blk_cell BK439.out 2).trans rfl
        have hfz25_0 := blk_frozen BK439.out 0
        have hfz25_1 := blk_frozen BK439.out 1
        have hfz25_2 := blk_frozen BK439.out 2
        obtain ⟨Ao26, co26, eo26⟩ := Kd.N_slice HO_7.out
        subst eo26
        go_wp2_with (first | ((with_reducible refine gate_callee (f := 46) rfl ?_); refine goesL_ (some 53) rfl rfl Try.func46 (by kernel_rfl) rfl #[.agg #[.int .u64 a0_0, .int .i64 a0_1, .int .i64 a0_2], .slice Ao26 t441.length co26, .int .u64 0] rfl (by (try simp only [List.map_toArray, List.map_cons, List.map_nil]); first | done | rfl | (simp only [List.length_drop, List.length_take]; rfl)) ?_; (with_reducible refine (twice_Low.calls kj4 a0_0 a0_1 a0_2 _ _ t441 0 t450 t451 _ ?side1 ?side2 A21.out).mono ?_); (case side1 => repeat (first | exact (Kd.N_reads' HO_7.out).2.2 | (with_reducible refine Kd.C_alloc ?_ _) | (with_reducible refine Kd.C_drewN ?_ _) | (with_reducible refine Kd.C_drew ?_))); (case side2 => exact (Kd.N_reads' HO_7.out).2.1); rintro e w27 ⟨rfl, hb⟩; refine ⟨_, rfl, ?_⟩; have n0_ := Aside0.mk (Kd.N_below (by (with_reducible repeat (first | apply Kd.N_alloc | apply Kd.N_drewN | apply Kd.N_drew)); exact HO_7.out) hb); have n1_ := Aside0.mk (blk_below (g := gb439) (o := .cells #[.int .u64 a0_0, .int .i64 a0_1, .int .i64 a0_2] 24 (0, 0)) (by (with_reducible repeat (first | refine blk_drewN ?_ _ | refine blk_drew ?_ | refine blk_alloc ?_ _)); exact BK439.out) hb); have n2_ := Aside0.mk (blk_below (g := gb440) (o := .cells #[.slice A2_0 l2_0.length c2_0, .slice A2_1 l2_1.length c2_1] 50 (0, 0)) (by (with_reducible repeat (first | refine blk_drewN ?_ _ | refine blk_drew ?_ | refine blk_alloc ?_ _)); exact BK440.out) hb); have n3_ := Aside0.mk (below_step (by repeat (first | (with_reducible first | exact HB.out | apply below_alloc | apply pw_below_drewN | apply below_drew1 | refine below_set ?_ GE439.out | refine below_set ?_ GE440.out) | exact HB.out)) hb); clear HO_7; clear BK439; clear BK440; clear HB; have HO_7 := n0_; have BK439 := n1_; have BK440 := n2_; have HB := n3_; clear n0_ n1_ n2_ n3_; (try clear hb); (try clear hb2); (try clear hk); (try clear hi); have hcz28_0 : w27.cell? ⟨gb439, 0, none⟩ = some (.int .u64 a0_0) := (blk_cell BK439.out 0).trans rfl; have hcz28_1 : w27.cell? ⟨gb439, 1, none⟩ = some (.int .i64 a0_1) := (blk_cell BK439.out 1).trans rfl; have hcz28_2 : w27.cell? ⟨gb439, 2, none⟩ = some (.int .i64 a0_2) := (blk_cell BK439.out 2).trans rfl; have hfz28_0 := blk_frozen BK439.out 0; have hfz28_1 := blk_frozen BK439.out 1; have hfz28_2 := blk_frozen BK439.out 2) | ((with_reducible refine gate_callee (f := 47) rfl ?_); refine goesL_ (some 59) rfl rfl Try.func47 (by kernel_rfl) rfl #[.agg #[.int .u64 a0_0, .int .i64 a0_1, .int .i64 a0_2], .slice Ao26 t441.length co26, .int .u64 0] rfl (by (try simp only [List.map_toArray, List.map_cons, List.map_nil]); first | done | rfl | (simp only [List.length_drop, List.length_take]; rfl)) ?_; (with_reducible refine (twice_High.calls kj4 a0_0 a0_1 a0_2 _ _ t441 0 t452 t453 _ ?side1 ?side2 A22.out).mono ?_); (case side1 => repeat (first | exact (Kd.N_reads' HO_7.out).2.2 | (with_reducible refine Kd.C_alloc ?_ _) | (with_reducible refine Kd.C_drewN ?_ _) | (with_reducible refine Kd.C_drew ?_))); (case side2 => exact (Kd.N_reads' HO_7.out).2.1); rintro e w29 ⟨rfl, hb⟩; refine ⟨_, rfl, ?_⟩; have n0_ := Aside0.mk (Kd.N_below (by (with_reducible repeat (first | apply Kd.N_alloc | apply Kd.N_drewN | apply Kd.N_drew)); exact HO_7.out) hb); have n1_ := Aside0.mk (blk_below (g := gb439) (o := .cells #[.int .u64 a0_0, .int .i64 a0_1, .int .i64 a0_2] 24 (0, 0)) (by (with_reducible repeat (first | refine blk_drewN ?_ _ | refine blk_drew ?_ | refine blk_alloc ?_ _)); exact BK439.out) hb); have n2_ := Aside0.mk (blk_below (g := gb440) (o := .cells #[.slice A2_0 l2_0.length c2_0, .slice A2_1 l2_1.length c2_1] 50 (0, 0)) (by (with_reducible repeat (first | refine blk_drewN ?_ _ | refine blk_drew ?_ | refine blk_alloc ?_ _)); exact BK440.out) hb); have n3_ := Aside0.mk (below_step (by repeat (first | (with_reducible first | exact HB.out | apply below_alloc | apply pw_below_drewN | apply below_drew1 | refine below_set ?_ GE439.out | refine below_set ?_ GE440.out) | exact HB.out)) hb); clear HO_7; clear BK439; clear BK440; clear HB; have HO_7 := n0_; have BK439 := n1_; have BK440 := n2_; have HB := n3_; clear n0_ n1_ n2_ n3_; (try clear hb); (try clear hb2); (try clear hk); (try clear hi); have hcz30_0 : w29.cell? ⟨gb439, 0, none⟩ = some (.int .u64 a0_0) := (blk_cell BK439.out 0).trans rfl; have hcz30_1 : w29.cell? ⟨gb439, 1, none⟩ = some (.int .i64 a0_1) := (blk_cell BK439.out 1).trans rfl; have hcz30_2 : w29.cell? ⟨gb439, 2, none⟩ = some (.int .i64 a0_2) := (blk_cell BK439.out 2).trans rfl; have hfz30_0 := blk_frozen BK439.out 0; have hfz30_1 := blk_frozen BK439.out 1; have hfz30_2 := blk_frozen BK439.out 2) | ((with_reducible refine gate_callee (f := 48) rfl ?_); refine goesL_ (some 65) rfl rfl Try.func48 (by kernel_rfl) rfl #[.agg #[.int .u64 a0_0, .int .i64 a0_1, .int .i64 a0_2], .slice Ao26 t441.length co26] rfl (by (try simp only [List.map_toArray, List.map_cons, List.map_nil]); first | done | rfl | (simp only [List.length_drop, List.length_take]; rfl)) ?_; (with_reducible refine (twice_Whole.calls kj4 a0_0 a0_1 a0_2 _ _ t441 t454 t457 _ ?side1 ?side2 A23.out).mono ?_); (case side1 => repeat (first | exact (Kd.N_reads' HO_7.out).2.2 | (with_reducible refine Kd.C_alloc ?_ _) | (with_reducible refine Kd.C_drewN ?_ _) | (with_reducible refine Kd.C_drew ?_))); (case side2 => exact (Kd.N_reads' HO_7.out).2.1); rintro e w31 ⟨v455, rfl, ho0, hb⟩; refine ⟨_, rfl, ?_⟩; have n0_ := Aside0.mk (Kd.N_elder' (by (with_reducible repeat (first | apply Kd.N_alloc | apply Kd.N_drewN | apply Kd.N_drew)); exact HO_7.out) (Kd.R_base ho0) hb); have n1_ := Aside0.mk (Kd.R_lower ho0 (below_size (by repeat (first | (with_reducible first | exact HB.out | apply below_alloc | apply pw_below_drewN | apply below_drew1 | refine below_set ?_ GE439.out | refine below_set ?_ GE440.out) | exact HB.out)))); have n2_ := Aside0.mk (blk_below (g := gb439) (o := .cells #[.int .u64 a0_0, .int .i64 a0_1, .int .i64 a0_2] 24 (0, 0)) (by (with_reducible repeat (first | refine blk_drewN ?_ _ | refine blk_drew ?_ | refine blk_alloc ?_ _)); exact BK439.out) hb); have n3_ := Aside0.mk (blk_below (g := gb440) (o := .cells #[.slice A2_0 l2_0.length c2_0, .slice A2_1 l2_1.length c2_1] 50 (0, 0)) (by (with_reducible repeat (first | refine blk_drewN ?_ _ | refine blk_drew ?_ | refine blk_alloc ?_ _)); exact BK440.out) hb); have n4_ := Aside0.mk (below_step (by repeat (first | (with_reducible first | exact HB.out | apply below_alloc | apply pw_below_drewN | apply below_drew1 | refine below_set ?_ GE439.out | refine below_set ?_ GE440.out) | exact HB.out)) hb); clear HO_7; clear BK439; clear BK440; clear HB; have HO_7 := n0_; have HO456 := n1_; have BK439 := n2_; have BK440 := n3_; have HB := n4_; clear n0_ n1_ n2_ n3_ n4_; (try clear hb); (try clear hb2); (try clear hk); (try clear hi); (try clear ho0)))
        go_loopg [16, 70] kj4 (fun kq v16 v70 w' => ∃ (x16_2 : List Int) (x70_2 : Int), v70 = .int .i64 x70_2 ∧ Aside0 (juntolaw07_TwiceOne.l0 kq a1 t441 t450 t452 t454 x16_2 t441 (t441.length : Int) x70_2 a0_0 a0_1 a0_2 l2_0 l2_1 = some r) ∧ Aside0 (kq ≤ kj4) ∧ Aside0 (Kd.N (Kd.slice 22 (Kd.int .u64)) 31 w' w.heap.size (fun k_ => some k_ ≠ (v455 : Value).ownBlock ∧ some k_ ≠ (v16 : Value).ownBlock ∧ k_ ≠ gb439 ∧ k_ ≠ gb440) (.slice Ao26 t441.length co26) t441) ∧ Aside0 (Kd.R (Kd.int .u64) 22 w' w.heap.size (fun k_ => some k_ ≠ (v16 : Value).ownBlock) v455 t454) ∧ Aside0 (Kd.R (Kd.int .u64) 22 w' w.heap.size (fun k_ => some k_ ≠ (v455 : Value).ownBlock) v16 x16_2) ∧ Aside0 (Kd.N (Kd.slice 22 (Kd.int .u64)) 31 w' w.heap.size (fun k_ => some k_ ≠ (v455 : Value).ownBlock ∧ some k_ ≠ (v16 : Value).ownBlock ∧ k_ ≠ gb439 ∧ k_ ≠ gb440) (.slice Ao26 t441.length co26) t441) ∧ Aside0 (w'.heap[gb439]? = some (.cells #[.int .u64 a0_0, .int .i64 a0_1, .int .i64 a0_2] 24 (0, 0))) ∧ Aside0 (w'.heap[gb440]? = some (.cells #[(.slice A2_0 l2_0.length c2_0), (.slice A2_1 l2_1.length c2_1)] 50 (0, 0))) ∧ Aside0 (Below w.heap.size w w'))
        case atStart => exact ⟨(([] : List Int)), (0), (by first | rfl | (simp; done) | (simp [*]; done)), H', ⟨Nat.le_refl _⟩, ⟨by (with_reducible repeat (first | apply Kd.N_alloc | apply Kd.N_drewN | apply Kd.N_drew)); exact Kd.N_mono HO_7.out (fun _ hk => ⟨hk.2, ⟨(by simp [Value.ownBlock]), ⟨hk.1.1, hk.1.2⟩⟩⟩)⟩, ⟨by (with_reducible repeat (first | apply Kd.R_alloc | apply Kd.R_drewN | apply Kd.R_drew)); exact Kd.R_mono HO456.out (fun _ hk => (by simp [Value.ownBlock]))⟩, ⟨by first | exact Kd.R_nil _ _ _ _ _ | exact Kd.N_nil _ _ _ _ _ | exact Kd.V_nil _ _ _ _ _ | exact Kd.Q_nil _ _ _ _ _ | exact Kd.S_nil _ _ _ _ _⟩, ⟨by (with_reducible repeat (first | apply Kd.N_alloc | apply Kd.N_drewN | apply Kd.N_drew)); exact Kd.N_mono HO_7.out (fun _ hk => ⟨hk.2, ⟨(by simp [Value.ownBlock]), ⟨hk.1.1, hk.1.2⟩⟩⟩)⟩, ⟨by (with_reducible repeat (first | refine blk_drewN ?_ _ | refine blk_drew ?_ | refine blk_alloc ?_ _)); exact BK439.out⟩, ⟨by (with_reducible repeat (first | refine blk_drewN ?_ _ | refine blk_drew ?_ | refine blk_alloc ?_ _)); exact BK440.out⟩, ⟨by repeat (first | (with_reducible first | exact HB.out | apply below_alloc | apply pw_below_drewN | apply below_drew1 | refine below_set ?_ GE439.out | refine below_set ?_ GE440.out) | exact HB.out)⟩⟩
        case round =>
          clear H'
          try clear c1
          try clear c2
          try clear p2
          try clear c4
          try clear p4
          try clear q4
          try clear hx4
          try clear qi4
          try clear c8
          try clear c12
          try clear c12b0
          try clear c12b1
          try clear c13
          try clear c13b0
          try clear c13b1
          try clear c14
          try clear c14b0
          try clear c14b1
          try clear c18
          try clear c24
          try clear hcz10_0
          try clear hcz10_1
          try clear hcz25_0
          try clear hcz25_1
          try clear hcz25_2
          try clear hcz28_0
          try clear hcz28_1
          try clear hcz28_2
          try clear hcz30_0
          try clear hcz30_1
          try clear hcz30_2
          try clear hcz9_0
          try clear hcz9_1
          try clear hcz9_2
          try clear hfz10_0
          try clear hfz10_1
          try clear hfz25_0
          try clear hfz25_1
          try clear hfz25_2
          try clear hfz28_0
          try clear hfz28_1
          try clear hfz28_2
          try clear hfz30_0
          try clear hfz30_1
          try clear hfz30_2
          try clear hfz9_0
          try clear hfz9_1
          try clear hfz9_2
          try clear hx448_0
          try clear p2
          try clear p4
          try clear p448
          try clear q4
          try clear q448
          obtain ⟨x16_2, x70_2, rfl, HA, HK2, HO_7, HO_14, HO_16, HO_68, BK439, BK440, HB⟩ := hrel
          cases gk with
          | zero => exact absurd HA.out (by simp [juntolaw07_TwiceOne.l0])
          | succ k2 =>
            have H := HA.out
            clear HA
            simp only [juntolaw07_TwiceOne.l0] at H
            by_cases c32 : x70_2 < (t441.length : Int)
            · rw [if_pos c32] at H
              have c32b0 : decide (x70_2 < (t441.length : Int)) = true := decide_eq_true c32
              clear c32
              by_cases c33 : 0 ≤ x70_2
              · rw [if_pos c33] at H
                have c33b0 : decide (0 ≤ x70_2) = true := decide_eq_true c33
                clear c33
                by_cases c34 : x70_2 < (t441.length : Int)
                · rw [if_pos c34] at H
                  have c34b0 : decide (x70_2 < (t441.length : Int)) = true := decide_eq_true c34
                  clear c34
                  by_cases c35 : 0 < (l2_0.length : Int)
                  · rw [if_pos c35] at H
                    have c35b0 : decide (0 < (l2_0.length : Int)) = true := decide_eq_true c35
                    have c35b1 : decide (0 < l2_0.length) = true := decide_eq_true (by omega)
                    clear c35
                    replace H := Option.bind_eq_some_iff.mp H
                    obtain ⟨t460, A360, H⟩ := H
                    replace H : (if x16_2.length < 17592186044416 then (juntolaw07_TwiceOne.l0 k2 a1 t441 t450 t452 t454 (x16_2 ++ [t460]) t441 (t441.length : Int) (wrap64 (x70_2 + 1)) a0_0 a0_1 a0_2 l2_0 l2_1) else (none)) = some r := H
                    have A36 := Aside0.mk A360
                    clear A360
                    by_cases c37 : x16_2.length < 17592186044416
                    · rw [if_pos c37] at H
                      have LMc37 := Aside0.mk c37
                      clear c37
                      obtain ⟨y461, hy461⟩ : ∃ y_ : List Int, y_ = (x16_2 ++ [t460]) := ⟨_, rfl⟩
                      replace H : (juntolaw07_TwiceOne.l0 k2 a1 t441 t450 t452 t454 y461 t441 (t441.length : Int) (wrap64 (x70_2 + 1)) a0_0 a0_1 a0_2 l2_0 l2_1) = some r := by first | (rw [hy461]; with_reducible exact H) | (have H2_ := (Option.bind_some _ _).symm.trans H; rw [hy461]; with_reducible exact H2_) | (have H2_ := (Option.bind_some _ _).symm.trans H; with_reducible exact H2_) | with_reducible exact H | (rw [hy461]; exact H) | exact H
                      have Ny461 := Aside0.mk hy461
                      clear hy461
                      have H' := Aside0.mk H
                      clear H
                      have p458 : 0 ≤ (x70_2 : Int) := of_decide_eq_true (by first | (with_reducible assumption) | assumption)
                      have q458 : x70_2 < (t441.length : Int) := of_decide_eq_true (by first | (with_reducible assumption) | assumption)
                      obtain ⟨ad458, A458_0, c458_0, e458, hx458_0, hl458_0, hi458_0⟩ := at_L3 (Kd.N_reads' HO_68.out).2.2 x70_2 p458 q458
                      cases e458
                      obtain ⟨ce458, hce458, hMe458, hcc458⟩ := Kd.N_get HO_68.out [] x70_2 p458 (by first | exact q458 | exact of_decide_eq_true (by first | (with_reducible assumption) | assumption) | (have e_ := (Kd.N_reads' HO_68.out).1; omega))
                      obtain ⟨ua458_0, uc458_0, rfl, ul458_0, ge458_0⟩ := Kd.FK_slice_open hMe458
                      have hv458_0 := hcc458 0 _ rfl
                      rw [Nat.add_zero, show ((Kd.slice 22 (Kd.int .u64))).sz = 1 from rfl, Nat.mul_one] at hv458_0
                      replace hv458_0 := Option.some.inj (hv458_0.symm.trans hx458_0)
                      injection hv458_0 with hva_ hvn_ hvc_
                      rw [hva_] at ge458_0
                      rw [hvc_] at ul458_0
                      have HL458_0 := Aside0.mk (show Kd.V (Kd.int .u64) 22 _ w.heap.size _ _ (rd_L3 t441 x70_2) from Kd.V_mk ul458_0 ge458_0)
                      clear hva_ hvn_ hvc_ ge458_0 ul458_0
                      clear hcc458 hce458
                      have HR458_0 := Aside0.mk hi458_0
                      have HC458_0 := Aside0.mk hl458_0
                      clear hi458_0 hl458_0
                      replace p458 := eq_true p458
                      replace q458 := eq_true q458
                      try go_wp2
                      have n0_ := Aside0.mk (Kd.N_drew HO_7.out)
                      have n1_ := Aside0.mk (Kd.R_drew HO_14.out)
                      have n2_ := Aside0.mk (Kd.R_drew HO_16.out)
                      have n3_ := Aside0.mk (Kd.N_drew HO_68.out)
                      have n4_ := Aside0.mk (Kd.V_drew HL458_0.out)
                      have n5_ := Aside0.mk (blk_drew BK439.out)
                      have n6_ := Aside0.mk (blk_drew BK440.out)
                      have n7_ := Aside0.mk (Kd.C_drew HR458_0.out)
                      have n8_ := Aside0.mk (below_drew1 HB.out)
                      clear HO_7
                      clear HO_14
                      clear HO_16
                      clear HO_68
                      clear HL458_0
                      clear BK439
                      clear BK440
                      clear HR458_0
                      clear HB
                      have HO_7 := n0_
                      have HO_14 := n1_
                      have HO_16 := n2_
                      have HO_68 := n3_
                      have HL458_0 := n4_
                      have BK439 := n5_
                      have BK440 := n6_
                      have HR458_0 := n7_
                      have HB := n8_
                      clear n0_ n1_ n2_ n3_ n4_ n5_ n6_ n7_ n8_
                      have p459 : 0 ≤ (0 : Int) := (by omega)
                      have q459 : 0 < (l2_0.length : Int) := of_decide_eq_true (by first | (with_reducible assumption) | assumption)
                      obtain ⟨ad459, e459, hx459_0⟩ := Kd.at_int HR2_0.out 0 p459 q459
                      have hw459_0 := hx459_0
                      (try rw [show ((0 : Int)).toNat = 0 from rfl] at hw459_0)
                      (try rw [show 0 * 1 = 0 from rfl] at hw459_0)
                      (try rw [Addr.add_zero'] at hw459_0)
                      cases e459
                      have qi459 : (0 < l2_0.length) = True := eq_true (by omega)
                      (try rw [show ((0 : Int)).toNat = 0 from rfl] at hx459_0)
                      (try rw [Addr.add_zero'] at hx459_0)
                      replace hx459_0 := (HB.out.cell (World.block_lt_of_cell? w _ hx459_0)).trans hx459_0
                      replace p459 := eq_true p459
                      replace q459 := eq_true q459
                      refine start_ (n := 12) (S := fun w' => w'.cell? ⟨gb439, 0, none⟩ = some (.int .u64 a0_0) ∧ w'.cell? ⟨gb439, 1, none⟩ = some (.int .i64 a0_1) ∧ w'.cell? ⟨gb439, 2, none⟩ = some (.int .i64 a0_2) ∧ w'.cell? ⟨gb440, 0, none⟩ = some (.slice (some ad459) l2_0.length c2_0) ∧ w'.cell? ⟨gb440, 1, none⟩ = some (.slice A2_1 l2_1.length c2_1) ∧ w'.cell? ad459 = some (.int .u64 (rd l2_0 0))) (ds := []) #[false, false, false, false, false, false, false, false, false, false, false, false] (by kernel_rfl) rfl rfl ⟨(blk_cell BK439.out 0).trans rfl, (blk_cell BK439.out 1).trans rfl, (blk_cell BK439.out 2).trans rfl, (blk_cell BK440.out 0).trans rfl, (blk_cell BK440.out 1).trans rfl, ((HB.out.cell (World.block_lt_of_cell? w _ hw459_0)).trans hw459_0)⟩ (fun hHeld => ?_); refine with_tabW juntolaw07_TwiceOne.tab11 juntolaw07_TwiceOne.bits11 (fun HT_ HW_ => ?_)
                      generalize wr.drew = w38 at HO_7 HO_14 HO_16 HO_68 HL458_0 BK439 BK440 HR458_0 HB hx459_0 hHeld ⊢
                      refine pure_ (i := 0) (N := some 74) (v := ?_) (a' := ?_) #[true, false, false, false, false, false, false, false, false, false, false, false] rfl rfl (any_of HT_.out (by kernel_rfl)) (fun _ _ _ h => h) (Or.inl ⟨by rfl, ?_⟩) ?_ ?_
                      rotate_left
                      · intro w'
                        go_simp
                        with_reducible rfl
                      rotate_left
                      · simp only [Act.put, List.setIfInBounds_toArray, List.set_cons_zero, List.set_cons_succ, i64_w, i32_w]
                        rfl
                      refine pure_ (i := 1) (N := some 75) (v := ?_) (a' := ?_) #[true, true, false, false, false, false, false, false, false, false, false, false] rfl rfl (any_of HT_.out (by kernel_rfl)) (fun _ _ _ h => h) (Or.inl ⟨by rfl, ?_⟩) ?_ ?_
                      rotate_left
                      · intro w'
                        go_simp
                        with_reducible rfl
                      rotate_left
                      · simp only [Act.put, List.setIfInBounds_toArray, List.set_cons_zero, List.set_cons_succ, i64_w, i32_w]
                        rfl
                      refine pure_ (i := 3) (N := some 77) (v := ?_) (a' := ?_) #[true, true, false, true, false, false, false, false, false, false, false, false] rfl rfl (any_of HT_.out (by kernel_rfl)) (fun _ _ _ h => h) (Or.inl ⟨by rfl, ?_⟩) ?_ ?_
                      rotate_left
                      · intro w'
                        go_simp
                        with_reducible rfl
                      rotate_left
                      · simp only [Act.put, List.setIfInBounds_toArray, List.set_cons_zero, List.set_cons_succ, i64_w, i32_w]
                        rfl
                      refine pure_ (i := 4) (N := some 78) (v := ?_) (a' := ?_) #[true, true, false, true, true, false, false, false, false, false, false, false] rfl rfl (any_of HT_.out (by kernel_rfl)) (fun _ _ _ h => h) (Or.inl ⟨by rfl, ?_⟩) ?_ ?_
                      rotate_left
                      · intro w'
                        go_simp
                        with_reducible rfl
                      rotate_left
                      · simp only [Act.put, List.setIfInBounds_toArray, List.set_cons_zero, List.set_cons_succ, i64_w, i32_w]
                        rfl
                      refine take_ (i := 2) (N := some 76) (v := ?_) (a' := ?_) #[true, true, true, true, true, false, false, false, false, false, false, false] rfl rfl (take_ofW HT_.out HW_.out (by kernel_rfl)) (fun _ _ _ h => h) (Or.inl ⟨by rfl, ?_⟩) hHeld ?_ ?_
                      rotate_left
                      · rintro w' ⟨s0, s1, s2, s3, s4, s5⟩
                        go_simp
                        with_reducible rfl
                      rotate_left
                      · simp only [Act.put, List.setIfInBounds_toArray, List.set_cons_zero, List.set_cons_succ, i64_w, i32_w]
                        rfl
                      refine take_ (i := 5) (N := some 79) (v := ?_) (a' := ?_) #[true, true, true, true, true, true, false, false, false, false, false, false] rfl rfl (take_ofW HT_.out HW_.out (by kernel_rfl)) (fun _ _ _ h => h) (Or.inl ⟨by rfl, ?_⟩) hHeld ?_ ?_
                      rotate_left
                      · rintro w' ⟨s0, s1, s2, s3, s4, s5⟩
                        go_simp
                        with_reducible rfl
                      rotate_left
                      · simp only [Act.put, List.setIfInBounds_toArray, List.set_cons_zero, List.set_cons_succ, i64_w, i32_w]
                        rfl
                      refine pure_ (i := 6) (N := some 80) (v := ?_) (a' := ?_) #[true, true, true, true, true, true, true, false, false, false, false, false] rfl rfl (any_of HT_.out (by kernel_rfl)) (fun _ _ _ h => h) (Or.inl ⟨by rfl, ?_⟩) ?_ ?_
                      rotate_left
                      · intro w'
                        go_simp
                        with_reducible rfl
                      rotate_left
                      · simp only [Act.put, List.setIfInBounds_toArray, List.set_cons_zero, List.set_cons_succ, i64_w, i32_w]
                        rfl
                      refine take_ (i := 7) (N := some 81) (v := ?_) (a' := ?_) #[true, true, true, true, true, true, true, true, false, false, false, false] rfl rfl (take_ofW HT_.out HW_.out (by kernel_rfl)) (fun _ _ _ h => h) (Or.inl ⟨by rfl, ?_⟩) hHeld ?_ ?_
                      rotate_left
                      · rintro w' ⟨s0, s1, s2, s3, s4, s5⟩
                        go_simp
                        with_reducible rfl
                      rotate_left
                      · simp only [Act.put, List.setIfInBounds_toArray, List.set_cons_zero, List.set_cons_succ, i64_w, i32_w]
                        rfl
                      refine one_ (i := 8) (N := some 82) #[true, true, true, true, true, true, true, true, true, false, false, false] rfl rfl (one_of HT_.out (by kernel_rfl)) (by decide) (fun K hK => ?_)
                      refine goes_ Try.func58 (by kernel_rfl) rfl #[.int .u64 a0_0, .slice A458_0 (rd_L3 t441 x70_2).length c458_0, .int .u64 (rd l2_0 0)] (by rfl) rfl rfl (by (try simp only [List.map_toArray, List.map_cons, List.map_nil]); first | done | rfl | (simp only [List.length_drop, List.length_take]; rfl)) ?_
                      with_reducible refine (juntoref02_Eval.calls k2 a0_0 _ _ (rd_L3 t441 x70_2) (rd l2_0 0) t460 _ ?side1 ?side2 A36.out).mono ?_
                      (case side1 => repeat (first | exact (by repeat (first | (with_reducible exact HR458_0.out) | (with_reducible refine Kd.C_alloc ?_ _) | (with_reducible refine Kd.C_drewN ?_ _) | (with_reducible refine Kd.C_drew ?_) | exact HR458_0.out)) | (with_reducible refine Kd.C_alloc ?_ _) | (with_reducible refine Kd.C_drewN ?_ _) | (with_reducible refine Kd.C_drew ?_)))
                      (case side2 => exact HC458_0.out)
                      rintro e w' ⟨rfl, ⟨nd, rfl⟩⟩
                      refine ⟨_, rfl, ?_⟩
                      refine hK.out _ _ ⟨(blk_cell BK439.out 0).trans rfl, (blk_cell BK439.out 1).trans rfl, (blk_cell BK439.out 2).trans rfl, (blk_cell BK440.out 0).trans rfl, (blk_cell BK440.out 1).trans rfl, ((HB.out.cell (World.block_lt_of_cell? w _ hw459_0)).trans hw459_0)⟩ (fun hHeld => ?_)
                      clear hK K
                      refine norm_ (a' := ?_) ?_ ?_
                      rotate_left
                      · show Act.put _ (some 82) _ = _
                        simp only [Act.put, List.setIfInBounds_toArray, List.set_cons_zero, List.set_cons_succ, i64_w, i32_w]
                        rfl
                      refine one_ (i := 9) (N := some 83) #[true, true, true, true, true, true, true, true, true, true, false, false] rfl rfl (one_of HT_.out (by kernel_rfl)) (by decide) (fun K hK => ?_)
                      refine value_ (w1 := ?_) (v := ?_) (by rfl) rfl ?_ ?_
                      rotate_left 2
                      · go_simp
                        constructor
                        · rfl
                        · rfl
                      refine hK.out _ _ ⟨(blk_cell (blk_alloc BK439.out _) 0).trans rfl, (blk_cell (blk_alloc BK439.out _) 1).trans rfl, (blk_cell (blk_alloc BK439.out _) 2).trans rfl, (blk_cell (blk_alloc BK440.out _) 0).trans rfl, (blk_cell (blk_alloc BK440.out _) 1).trans rfl, (World.cell?_alloc_lt _ _ _ (World.block_lt_of_cell? _ _ (((HB.out.cell (World.block_lt_of_cell? w _ hw459_0)).trans hw459_0)))).trans (((HB.out.cell (World.block_lt_of_cell? w _ hw459_0)).trans hw459_0))⟩ (fun hHeld => ?_)
                      clear hK K
                      refine norm_ (a' := ?_) ?_ ?_
                      rotate_left
                      · show Act.put _ (some 83) _ = _
                        simp only [Act.put, List.setIfInBounds_toArray, List.set_cons_zero, List.set_cons_succ, i64_w, i32_w]
                        rfl
                      refine one_ (i := 10) (N := some 84) #[true, true, true, true, true, true, true, true, true, true, true, false] rfl rfl (one_of HT_.out (by kernel_rfl)) (by decide) (fun K hK => ?_)
                      refine Kd.R_append_step (Kd.int .u64) (w0 := w) w.heap.size (by rfl) (.tmp 74) (.tmp 83) 31 22 (.int .u64 0) 8 rfl Try.underlying31 info22 rfl (by decide) (by omega) u16 x16_2 t460 [.int .u64 t460] (fun k_ => some k_ ≠ (v455 : Value).ownBlock) (fun _ => False) rfl rfl ?aP (fun _ hk => hk.elim) ?aF ?aO ?aB ?aS ?aL ?_
                      (case aP => exact rfl)
                      (case aB => exact (by repeat (first | (with_reducible first | exact HB.out | apply below_alloc | apply pw_below_drewN | apply below_drew1 | refine below_set ?_ GE439.out | refine below_set ?_ GE440.out) | exact HB.out)))
                      (case aF => exact (fun k_ hk => Kd.fresh' (Kd.R_lt (by (with_reducible repeat (first | apply Kd.R_alloc | apply Kd.R_drewN | apply Kd.R_drew)); exact HO_14.out)) k_ hk))
                      (case aO => exact (by (with_reducible repeat (first | apply Kd.R_alloc | apply Kd.R_drewN | apply Kd.R_drew)); exact HO_16.out))
                      (case aS => exact (below_size (by repeat (first | (with_reducible first | exact HB.out | apply below_alloc | apply pw_below_drewN | apply below_drew1 | refine below_set ?_ GE439.out | refine below_set ?_ GE440.out) | exact HB.out))))
                      (case aL => have := LMc37.out; omega)
                      intro v462 w39 ho hb hg hat
                      rw [← Ny461.out] at ho
                      have n0_ := Aside0.mk (Kd.N_afterv (ok := (fun k_ => some k_ ≠ (v455 : Value).ownBlock ∧ k_ ≠ gb439 ∧ k_ ≠ gb440)) (by (with_reducible repeat (first | apply Kd.N_alloc | apply Kd.N_drewN | apply Kd.N_drew)); exact Kd.N_mono HO_7.out (fun _ hk => ⟨⟨hk.1, ⟨hk.2.2.1, hk.2.2.2⟩⟩, hk.2.1⟩)) hg hat)
                      have n1_ := Aside0.mk (Kd.R_after (ok := (fun _ => True)) (by (with_reducible repeat (first | apply Kd.R_alloc | apply Kd.R_drewN | apply Kd.R_drew)); exact Kd.R_mono HO_14.out (fun _ hk => ⟨trivial, hk⟩)) hg hat)
                      have n2_ := Aside0.mk (Kd.N_afterv (ok := (fun k_ => some k_ ≠ (v455 : Value).ownBlock ∧ k_ ≠ gb439 ∧ k_ ≠ gb440)) (by (with_reducible repeat (first | apply Kd.N_alloc | apply Kd.N_drewN | apply Kd.N_drew)); exact Kd.N_mono HO_68.out (fun _ hk => ⟨⟨hk.1, ⟨hk.2.2.1, hk.2.2.2⟩⟩, hk.2.1⟩)) hg hat)
                      have n3_ := Aside0.mk (blk_grown (g := gb439) (o := .cells #[.int .u64 a0_0, .int .i64 a0_1, .int .i64 a0_2] 24 (0, 0)) (by (with_reducible repeat (first | refine blk_drewN ?_ _ | refine blk_drew ?_ | refine blk_alloc ?_ _)); exact BK439.out) hg (Kd.R_ne HO_16.out BK439.out (by decide)))
                      have n4_ := Aside0.mk (blk_grown (g := gb440) (o := .cells #[.slice (some ad459) l2_0.length c2_0, .slice A2_1 l2_1.length c2_1] 50 (0, 0)) (by (with_reducible repeat (first | refine blk_drewN ?_ _ | refine blk_drew ?_ | refine blk_alloc ?_ _)); exact BK440.out) hg (Kd.R_ne HO_16.out BK440.out (by decide)))
                      have n5_ := Aside0.mk (Kd.V_afterv (ok := (fun k_ => some k_ ≠ (v455 : Value).ownBlock ∧ some k_ ≠ (.slice (some ad458) t441.length co26 : Value).ownBlock ∧ k_ ≠ gb439 ∧ k_ ≠ gb440)) (by (with_reducible repeat (first | apply Kd.V_alloc | apply Kd.V_drewN | apply Kd.V_drew)); exact Kd.V_mono HL458_0.out (fun _ hk => ⟨⟨hk.1.1, ⟨hk.2, ⟨hk.1.2.2.1, hk.1.2.2.2⟩⟩⟩, hk.1.2.1⟩)) hg hat)
                      have n6_ := Aside0.mk (hb)
                      have n7_ := Aside0.mk (ho)
                      clear HO_7
                      clear HO_14
                      clear HO_68
                      clear BK439
                      clear BK440
                      clear HL458_0
                      clear HB
                      clear HO_16
                      have HO_7 := n0_
                      have HO_14 := n1_
                      have HO_68 := n2_
                      have BK439 := n3_
                      have BK440 := n4_
                      have HL458_0 := n5_
                      have HB := n6_
                      have HO463 := n7_
                      clear n0_ n1_ n2_ n3_ n4_ n5_ n6_ n7_
                      clear ho hb hg hat
                      refine hK.out _ _ ⟨(blk_cell BK439.out 0).trans rfl, (blk_cell BK439.out 1).trans rfl, (blk_cell BK439.out 2).trans rfl, (blk_cell BK440.out 0).trans rfl, (blk_cell BK440.out 1).trans rfl, ((HB.out.cell (World.block_lt_of_cell? w _ hw459_0)).trans hw459_0)⟩ (fun hHeld => ?_)
                      clear hK K
                      refine norm_ (a' := ?_) ?_ ?_
                      rotate_left
                      · show Act.put _ (some 84) _ = _
                        simp only [Act.put, List.setIfInBounds_toArray, List.set_cons_zero, List.set_cons_succ, i64_w, i32_w]
                        rfl
                      refine pure_ (i := 11) (N := some 16) (v := ?_) (a' := ?_) #[true, true, true, true, true, true, true, true, true, true, true, true] rfl rfl (any_of HT_.out (by kernel_rfl)) (fun _ _ _ h => h) (Or.inl ⟨by rfl, ?_⟩) ?_ ?_
                      rotate_left
                      · intro w'
                        go_simp
                        with_reducible rfl
                      rotate_left
                      · simp only [Act.put, List.setIfInBounds_toArray, List.set_cons_zero, List.set_cons_succ, i64_w, i32_w]
                        rfl
                      refine done_ (done_of HT_.out (by kernel_rfl)) ?_
                      try go_wp2
                      go_roundg k2
                      case measure => have := HJ4.out; have := HK2.out; omega
                      case rel => exact ⟨(y461), (wrap64 (x70_2 + 1)), (by first | rfl | (simp; done) | (simp [*]; done)), H', ⟨by have := HJ4.out; have := HK2.out; omega⟩, ⟨by (with_reducible repeat (first | apply Kd.N_alloc | apply Kd.N_drewN | apply Kd.N_drew)); exact Kd.N_mono HO_7.out (fun _ hk => ⟨hk.1.1, ⟨hk.2, ⟨hk.1.2.1, hk.1.2.2⟩⟩⟩)⟩, ⟨by (with_reducible repeat (first | apply Kd.R_alloc | apply Kd.R_drewN | apply Kd.R_drew)); exact Kd.R_mono HO_14.out (fun _ hk => hk.2)⟩, ⟨by (with_reducible repeat (first | apply Kd.R_alloc | apply Kd.R_drewN | apply Kd.R_drew)); exact HO463.out⟩, ⟨by (with_reducible repeat (first | apply Kd.N_alloc | apply Kd.N_drewN | apply Kd.N_drew)); exact Kd.N_mono HO_68.out (fun _ hk => ⟨hk.1.1, ⟨hk.2, ⟨hk.1.2.1, hk.1.2.2⟩⟩⟩)⟩, ⟨by (with_reducible repeat (first | refine blk_drewN ?_ _ | refine blk_drew ?_ | refine blk_alloc ?_ _)); exact BK439.out⟩, ⟨by (with_reducible repeat (first | refine blk_drewN ?_ _ | refine blk_drew ?_ | refine blk_alloc ?_ _)); exact BK440.out⟩, ⟨by repeat (first | (with_reducible first | exact HB.out | apply below_alloc | apply pw_below_drewN | apply below_drew1 | refine below_set ?_ GE439.out | refine below_set ?_ GE440.out) | exact HB.out)⟩⟩
                    · rw [if_neg c37] at H
                      exact absurd H (by simp)
                  · rw [if_neg c35] at H
                    exact absurd H (by simp)
                · rw [if_neg c34] at H
                  exact absurd H (by simp)
              · rw [if_neg c33] at H
                exact absurd H (by simp)
            · rw [if_neg c32] at H
              have c32b0 : decide (x70_2 < (t441.length : Int)) = false := decide_eq_false c32
              clear c32
              by_cases c40 : 0 < (l2_0.length : Int)
              · rw [if_pos c40] at H
                have c40b0 : decide (0 < (l2_0.length : Int)) = true := decide_eq_true c40
                have c40b1 : decide (0 < l2_0.length) = true := decide_eq_true (by omega)
                clear c40
                replace H := Option.bind_eq_some_iff.mp H
                obtain ⟨⟨t465, t466⟩, A410, H⟩ := H
                replace H : ((twice_High.f k2 a0_0 a0_1 a0_2 t441 (rd l2_0 0)).bind fun bt468 => (if t450 = a1 then (if t452 = a1 then (if (t454.length : Int) ≤ (wrap64 ((wrap64 (2 * a0_2)) + 1)) then (if t466 = 0 then (if t465 = bt468.1 then ((juntoref02_Eval.f k2 a0_0 t454 (rd l2_0 0)).bind fun t471 => (if t465 = t471 then ((juntolaw07_alive.f k2).bind fun t472 => (some t472)) else (some false))) else (some false)) else (some false)) else (some false)) else (some false)) else (some false))) = some r := H
                have A41 := Aside0.mk A410
                clear A410
                replace H := Option.bind_eq_some_iff.mp H
                obtain ⟨⟨t468, t469⟩, A420, H⟩ := H
                replace H : (if t450 = a1 then (if t452 = a1 then (if (t454.length : Int) ≤ (wrap64 ((wrap64 (2 * a0_2)) + 1)) then (if t466 = 0 then (if t465 = t468 then ((juntoref02_Eval.f k2 a0_0 t454 (rd l2_0 0)).bind fun t471 => (if t465 = t471 then ((juntolaw07_alive.f k2).bind fun t472 => (some t472)) else (some false))) else (some false)) else (some false)) else (some false)) else (some false)) else (some false)) = some r := H
                have A42 := Aside0.mk A420
                clear A420
                by_cases c43 : t450 = a1
                · rw [if_pos c43] at H
                  have c43b0 : (t450 == a1) = true := beq_iff_eq.mpr c43
                  have c43b1 : (t450 != a1) = false := bne_eq_false_iff_eq.mpr c43
                  clear c43
                  by_cases c44 : t452 = a1
                  · rw [if_pos c44] at H
                    have c44b0 : (t452 == a1) = true := beq_iff_eq.mpr c44
                    have c44b1 : (t452 != a1) = false := bne_eq_false_iff_eq.mpr c44
                    clear c44
                    by_cases c45 : (t454.length : Int) ≤ (wrap64 ((wrap64 (2 * a0_2)) + 1))
                    · rw [if_pos c45] at H
                      have c45b0 : decide ((t454.length : Int) ≤ (wrap64 ((wrap64 (2 * a0_2)) + 1))) = true := decide_eq_true c45
                      clear c45
                      by_cases c46 : t466 = 0
                      · rw [if_pos c46] at H
                        have c46b0 : (t466 == 0) = true := beq_iff_eq.mpr c46
                        have c46b1 : (t466 != 0) = false := bne_eq_false_iff_eq.mpr c46
                        clear c46
                        by_cases c47 : t465 = t468
                        · rw [if_pos c47] at H
                          have c47b0 : (t465 == t468) = true := beq_iff_eq.mpr c47
                          have c47b1 : (t465 != t468) = false := bne_eq_false_iff_eq.mpr c47
                          clear c47
                          replace H := Option.bind_eq_some_iff.mp H
                          obtain ⟨t471, A480, H⟩ := H
                          replace H : (if t465 = t471 then ((juntolaw07_alive.f k2).bind fun t472 => (some t472)) else (some false)) = some r := H
                          have A48 := Aside0.mk A480
                          clear A480
                          by_cases c49 : t465 = t471
                          · rw [if_pos c49] at H
                            have c49b0 : (t465 == t471) = true := beq_iff_eq.mpr c49
                            have c49b1 : (t465 != t471) = false := bne_eq_false_iff_eq.mpr c49
                            clear c49
                            replace H := Option.bind_eq_some_iff.mp H
                            obtain ⟨t472, A500, H⟩ := H
                            replace H : (some t472) = some r := H
                            have A50 := Aside0.mk A500
                            clear A500
                            obtain rfl := Option.some.inj H
                            try go_wp2
                            have n0_ := Aside0.mk (Kd.N_drew HO_7.out)
                            have n1_ := Aside0.mk (Kd.R_drew HO_14.out)
                            have n2_ := Aside0.mk (Kd.R_drew HO_16.out)
                            have n3_ := Aside0.mk (Kd.N_drew HO_68.out)
                            have n4_ := Aside0.mk (blk_drew BK439.out)
                            have n5_ := Aside0.mk (blk_drew BK440.out)
                            have n6_ := Aside0.mk (below_drew1 HB.out)
                            clear HO_7
                            clear HO_14
                            clear HO_16
                            clear HO_68
                            clear BK439
                            clear BK440
                            clear HB
                            have HO_7 := n0_
                            have HO_14 := n1_
                            have HO_16 := n2_
                            have HO_68 := n3_
                            have BK439 := n4_
                            have BK440 := n5_
                            have HB := n6_
                            clear n0_ n1_ n2_ n3_ n4_ n5_ n6_
                            have p464 : 0 ≤ (0 : Int) := (by omega)
                            have q464 : 0 < (l2_0.length : Int) := of_decide_eq_true (by first | (with_reducible assumption) | assumption)
                            obtain ⟨ad464, e464, hx464_0⟩ := Kd.at_int HR2_0.out 0 p464 q464
                            have hw464_0 := hx464_0
                            (try rw [show ((0 : Int)).toNat = 0 from rfl] at hw464_0)
                            (try rw [show 0 * 1 = 0 from rfl] at hw464_0)
                            (try rw [Addr.add_zero'] at hw464_0)
                            cases e464
                            have qi464 : (0 < l2_0.length) = True := eq_true (by omega)
                            (try rw [show ((0 : Int)).toNat = 0 from rfl] at hx464_0)
                            (try rw [Addr.add_zero'] at hx464_0)
                            replace hx464_0 := (HB.out.cell (World.block_lt_of_cell? w _ hx464_0)).trans hx464_0
                            replace p464 := eq_true p464
                            replace q464 := eq_true q464
                            obtain ⟨Ao52, co52, eo52⟩ := Kd.R_slice HO_16.out
                            (first | subst eo52 | (injection eo52 with f1_ f2_ f3_; have f4_ := f1_.symm; have f5_ := f3_.symm; clear f1_ f2_ f3_; subst f4_; subst f5_))
                            refine start_ (n := 12) (S := fun w' => w'.cell? ⟨gb439, 0, none⟩ = some (.int .u64 a0_0) ∧ w'.cell? ⟨gb439, 1, none⟩ = some (.int .i64 a0_1) ∧ w'.cell? ⟨gb439, 2, none⟩ = some (.int .i64 a0_2) ∧ w'.cell? ⟨gb440, 0, none⟩ = some (.slice (some ad464) l2_0.length c2_0) ∧ w'.cell? ⟨gb440, 1, none⟩ = some (.slice A2_1 l2_1.length c2_1) ∧ w'.cell? ad464 = some (.int .u64 (rd l2_0 0))) (ds := []) #[false, false, false, false, false, false, false, false, false, false, false, false] (by kernel_rfl) rfl rfl ⟨(blk_cell BK439.out 0).trans rfl, (blk_cell BK439.out 1).trans rfl, (blk_cell BK439.out 2).trans rfl, (blk_cell BK440.out 0).trans rfl, (blk_cell BK440.out 1).trans rfl, ((HB.out.cell (World.block_lt_of_cell? w _ hw464_0)).trans hw464_0)⟩ (fun hHeld => ?_); refine with_tabW juntolaw07_TwiceOne.tab13 juntolaw07_TwiceOne.bits13 (fun HT_ HW_ => ?_)
                            generalize wr.drew = w51 at HO_7 HO_14 HO_16 HO_68 BK439 BK440 HB hx464_0 hHeld ⊢
                            refine pure_ (i := 1) (N := some 88) (v := ?_) (a' := ?_) #[false, true, false, false, false, false, false, false, false, false, false, false] rfl rfl (any_of HT_.out (by kernel_rfl)) (fun _ _ _ h => h) (Or.inl ⟨by rfl, ?_⟩) ?_ ?_
                            rotate_left
                            · intro w'
                              go_simp
                              with_reducible rfl
                            rotate_left
                            · simp only [Act.put, List.setIfInBounds_toArray, List.set_cons_zero, List.set_cons_succ, i64_w, i32_w]
                              rfl
                            refine pure_ (i := 2) (N := some 89) (v := ?_) (a' := ?_) #[false, true, true, false, false, false, false, false, false, false, false, false] rfl rfl (any_of HT_.out (by kernel_rfl)) (fun _ _ _ h => h) (Or.inl ⟨by rfl, ?_⟩) ?_ ?_
                            rotate_left
                            · intro w'
                              go_simp
                              with_reducible rfl
                            rotate_left
                            · simp only [Act.put, List.setIfInBounds_toArray, List.set_cons_zero, List.set_cons_succ, i64_w, i32_w]
                              rfl
                            refine take_ (i := 0) (N := some 87) (v := ?_) (a' := ?_) #[true, true, true, false, false, false, false, false, false, false, false, false] rfl rfl (take_ofW HT_.out HW_.out (by kernel_rfl)) (fun _ _ _ h => h) (Or.inl ⟨by rfl, ?_⟩) hHeld ?_ ?_
                            rotate_left
                            · rintro w' ⟨s0, s1, s2, s3, s4, s5⟩
                              go_simp
                              with_reducible rfl
                            rotate_left
                            · simp only [Act.put, List.setIfInBounds_toArray, List.set_cons_zero, List.set_cons_succ, i64_w, i32_w]
                              rfl
                            refine take_ (i := 3) (N := some 90) (v := ?_) (a' := ?_) #[true, true, true, true, false, false, false, false, false, false, false, false] rfl rfl (take_ofW HT_.out HW_.out (by kernel_rfl)) (fun _ _ _ h => h) (Or.inl ⟨by rfl, ?_⟩) hHeld ?_ ?_
                            rotate_left
                            · rintro w' ⟨s0, s1, s2, s3, s4, s5⟩
                              go_simp
                              with_reducible rfl
                            rotate_left
                            · simp only [Act.put, List.setIfInBounds_toArray, List.set_cons_zero, List.set_cons_succ, i64_w, i32_w]
                              rfl
                            refine pure_ (i := 4) (N := some 91) (v := ?_) (a' := ?_) #[true, true, true, true, true, false, false, false, false, false, false, false] rfl rfl (any_of HT_.out (by kernel_rfl)) (fun _ _ _ h => h) (Or.inl ⟨by rfl, ?_⟩) ?_ ?_
                            rotate_left
                            · intro w'
                              go_simp
                              with_reducible rfl
                            rotate_left
                            · simp only [Act.put, List.setIfInBounds_toArray, List.set_cons_zero, List.set_cons_succ, i64_w, i32_w]
                              rfl
                            refine take_ (i := 5) (N := some 92) (v := ?_) (a' := ?_) #[true, true, true, true, true, true, false, false, false, false, false, false] rfl rfl (take_ofW HT_.out HW_.out (by kernel_rfl)) (fun _ _ _ h => h) (Or.inl ⟨by rfl, ?_⟩) hHeld ?_ ?_
                            rotate_left
                            · rintro w' ⟨s0, s1, s2, s3, s4, s5⟩
                              go_simp
                              with_reducible rfl
                            rotate_left
                            · simp only [Act.put, List.setIfInBounds_toArray, List.set_cons_zero, List.set_cons_succ, i64_w, i32_w]
                              rfl
                            refine one_ (i := 6) (N := some 93) #[true, true, true, true, true, true, true, false, false, false, false, false] rfl rfl (one_of HT_.out (by kernel_rfl)) (by decide) (fun K hK => ?_)
                            refine goes_ Try.func61 (by kernel_rfl) rfl #[.agg #[.int .u64 a0_0, .int .i64 a0_1, .int .i64 a0_2], .slice Ao52 x16_2.length co52, .int .u64 (rd l2_0 0)] (by rfl) rfl rfl (by (try simp only [List.map_toArray, List.map_cons, List.map_nil]); first | done | rfl | (simp only [List.length_drop, List.length_take]; rfl)) ?_
                            with_reducible refine (twice_Join.calls k2 a0_0 a0_1 a0_2 _ _ x16_2 (rd l2_0 0) t465 t466 _ ?side1 ?side2 A41.out).mono ?_
                            (case side1 => repeat (first | exact (Kd.R_reads' HO_16.out).2.2 | (with_reducible refine Kd.C_alloc ?_ _) | (with_reducible refine Kd.C_drewN ?_ _) | (with_reducible refine Kd.C_drew ?_)))
                            (case side2 => exact (Kd.R_reads' HO_16.out).2.1)
                            rintro e w53 ⟨rfl, hb⟩
                            refine ⟨_, rfl, ?_⟩
                            have n0_ := Aside0.mk (Kd.N_below (by (with_reducible repeat (first | apply Kd.N_alloc | apply Kd.N_drewN | apply Kd.N_drew)); exact HO_7.out) hb)
                            have n1_ := Aside0.mk (Kd.R_below (by (with_reducible repeat (first | apply Kd.R_alloc | apply Kd.R_drewN | apply Kd.R_drew)); exact HO_14.out) hb)
                            have n2_ := Aside0.mk (Kd.R_below (by (with_reducible repeat (first | apply Kd.R_alloc | apply Kd.R_drewN | apply Kd.R_drew)); exact HO_16.out) hb)
                            have n3_ := Aside0.mk (Kd.N_below (by (with_reducible repeat (first | apply Kd.N_alloc | apply Kd.N_drewN | apply Kd.N_drew)); exact HO_68.out) hb)
                            have n4_ := Aside0.mk (blk_below (g := gb439) (o := .cells #[.int .u64 a0_0, .int .i64 a0_1, .int .i64 a0_2] 24 (0, 0)) (by (with_reducible repeat (first | refine blk_drewN ?_ _ | refine blk_drew ?_ | refine blk_alloc ?_ _)); exact BK439.out) hb)
                            have n5_ := Aside0.mk (blk_below (g := gb440) (o := .cells #[.slice (some ad464) l2_0.length c2_0, .slice A2_1 l2_1.length c2_1] 50 (0, 0)) (by (with_reducible repeat (first | refine blk_drewN ?_ _ | refine blk_drew ?_ | refine blk_alloc ?_ _)); exact BK440.out) hb)
                            have n6_ := Aside0.mk (below_step (by repeat (first | (with_reducible first | exact HB.out | apply below_alloc | apply pw_below_drewN | apply below_drew1 | refine below_set ?_ GE439.out | refine below_set ?_ GE440.out) | exact HB.out)) hb)
                            clear HO_7
                            clear HO_14
                            clear HO_16
                            clear HO_68
                            clear BK439
                            clear BK440
                            clear HB
                            have HO_7 := n0_
                            have HO_14 := n1_
                            have HO_16 := n2_
                            have HO_68 := n3_
                            have BK439 := n4_
                            have BK440 := n5_
                            have HB := n6_
                            clear n0_ n1_ n2_ n3_ n4_ n5_ n6_
                            (try clear hb)
                            (try clear hb2)
                            (try clear hk)
                            (try clear hi)
                            refine hK.out _ _ ⟨(blk_cell BK439.out 0).trans rfl, (blk_cell BK439.out 1).trans rfl, (blk_cell BK439.out 2).trans rfl, (blk_cell BK440.out 0).trans rfl, (blk_cell BK440.out 1).trans rfl, ((HB.out.cell (World.block_lt_of_cell? w _ hw464_0)).trans hw464_0)⟩ (fun hHeld => ?_)
                            clear hK K
                            refine norm_ (a' := ?_) ?_ ?_
                            rotate_left
                            · show Act.put _ (some 93) _ = _
                              simp only [Act.put, List.setIfInBounds_toArray, List.set_cons_zero, List.set_cons_succ, i64_w, i32_w]
                              rfl
                            refine pure_ (i := 7) (N := some 86) (v := ?_) (a' := ?_) #[true, true, true, true, true, true, true, true, false, false, false, false] rfl rfl (any_of HT_.out (by kernel_rfl)) (fun _ _ _ h => h) (Or.inl ⟨by rfl, ?_⟩) ?_ ?_
                            rotate_left
                            · intro w'
                              go_simp
                              with_reducible rfl
                            rotate_left
                            · simp only [Act.put, List.setIfInBounds_toArray, List.set_cons_zero, List.set_cons_succ, i64_w, i32_w]
                              rfl
                            refine pure_ (i := 8) (N := some 94) (v := ?_) (a' := ?_) #[true, true, true, true, true, true, true, true, true, false, false, false] rfl rfl (any_of HT_.out (by kernel_rfl)) (fun _ _ _ h => h) (Or.inl ⟨by rfl, ?_⟩) ?_ ?_
                            rotate_left
                            · intro w'
                              go_simp
                              with_reducible rfl
                            rotate_left
                            · simp only [Act.put, List.setIfInBounds_toArray, List.set_cons_zero, List.set_cons_succ, i64_w, i32_w]
                              rfl
                            refine pure_ (i := 9) (N := some 95) (v := ?_) (a' := ?_) #[true, true, true, true, true, true, true, true, true, true, false, false] rfl rfl (any_of HT_.out (by kernel_rfl)) (fun _ _ _ h => h) (Or.inl ⟨by rfl, ?_⟩) ?_ ?_
                            rotate_left
                            · intro w'
                              go_simp
                              with_reducible rfl
                            rotate_left
                            · simp only [Act.put, List.setIfInBounds_toArray, List.set_cons_zero, List.set_cons_succ, i64_w, i32_w]
                              rfl
                            refine pure_ (i := 10) (N := some 19) (v := ?_) (a' := ?_) #[true, true, true, true, true, true, true, true, true, true, true, false] rfl rfl (any_of HT_.out (by kernel_rfl)) (fun _ _ _ h => h) (Or.inl ⟨by rfl, ?_⟩) ?_ ?_
                            rotate_left
                            · intro w'
                              go_simp
                              with_reducible rfl
                            rotate_left
                            · simp only [Act.put, List.setIfInBounds_toArray, List.set_cons_zero, List.set_cons_succ, i64_w, i32_w]
                              rfl
                            refine pure_ (i := 11) (N := some 20) (v := ?_) (a' := ?_) #[true, true, true, true, true, true, true, true, true, true, true, true] rfl rfl (any_of HT_.out (by kernel_rfl)) (fun _ _ _ h => h) (Or.inl ⟨by rfl, ?_⟩) ?_ ?_
                            rotate_left
                            · intro w'
                              go_simp
                              with_reducible rfl
                            rotate_left
                            · simp only [Act.put, List.setIfInBounds_toArray, List.set_cons_zero, List.set_cons_succ, i64_w, i32_w]
                              rfl
                            refine done_ (done_of HT_.out (by kernel_rfl)) ?_
                            try go_wp2
                            have n0_ := Aside0.mk (Kd.N_drew HO_7.out)
                            have n1_ := Aside0.mk (Kd.R_drew HO_14.out)
                            have n2_ := Aside0.mk (Kd.R_drew HO_16.out)
                            have n3_ := Aside0.mk (Kd.N_drew HO_68.out)
                            have n4_ := Aside0.mk (blk_drew BK439.out)
                            have n5_ := Aside0.mk (blk_drew BK440.out)
                            have n6_ := Aside0.mk (below_drew1 HB.out)
                            clear HO_7
                            clear HO_14
                            clear HO_16
                            clear HO_68
                            clear BK439
                            clear BK440
                            clear HB
                            have HO_7 := n0_
                            have HO_14 := n1_
                            have HO_16 := n2_
                            have HO_68 := n3_
                            have BK439 := n4_
                            have BK440 := n5_
                            have HB := n6_
                            clear n0_ n1_ n2_ n3_ n4_ n5_ n6_
                            have p467 : 0 ≤ (0 : Int) := (by omega)
                            have q467 : 0 < (l2_0.length : Int) := of_decide_eq_true (by first | (with_reducible assumption) | assumption)
                            obtain ⟨ad467, e467, hx467_0⟩ := Kd.at_int HR2_0.out 0 p467 q467
                            have hw467_0 := hx467_0
                            (try rw [show ((0 : Int)).toNat = 0 from rfl] at hw467_0)
                            (try rw [show 0 * 1 = 0 from rfl] at hw467_0)
                            (try rw [Addr.add_zero'] at hw467_0)
                            obtain rfl : ad464 = ad467 := (by injection e467)
                            have qi467 : (0 < l2_0.length) = True := eq_true (by omega)
                            (try rw [show ((0 : Int)).toNat = 0 from rfl] at hx467_0)
                            (try rw [Addr.add_zero'] at hx467_0)
                            replace hx467_0 := (HB.out.cell (World.block_lt_of_cell? w _ hx467_0)).trans hx467_0
                            replace p467 := eq_true p467
                            replace q467 := eq_true q467
                            refine start_ (n := 12) (S := fun w' => w'.cell? ⟨gb439, 0, none⟩ = some (.int .u64 a0_0) ∧ w'.cell? ⟨gb439, 1, none⟩ = some (.int .i64 a0_1) ∧ w'.cell? ⟨gb439, 2, none⟩ = some (.int .i64 a0_2) ∧ w'.cell? ⟨gb440, 0, none⟩ = some (.slice (some ad464) l2_0.length c2_0) ∧ w'.cell? ⟨gb440, 1, none⟩ = some (.slice A2_1 l2_1.length c2_1) ∧ w'.cell? ad464 = some (.int .u64 (rd l2_0 0))) (ds := []) #[false, false, false, false, false, false, false, false, false, false, false, false] (by kernel_rfl) rfl rfl ⟨(blk_cell BK439.out 0).trans rfl, (blk_cell BK439.out 1).trans rfl, (blk_cell BK439.out 2).trans rfl, (blk_cell BK440.out 0).trans rfl, (blk_cell BK440.out 1).trans rfl, ((HB.out.cell (World.block_lt_of_cell? w _ hw467_0)).trans hw467_0)⟩ (fun hHeld => ?_); refine with_tabW juntolaw07_TwiceOne.tab14 juntolaw07_TwiceOne.bits14 (fun HT_ HW_ => ?_)
                            generalize w53.drew = w54 at HO_7 HO_14 HO_16 HO_68 BK439 BK440 HB hx467_0 hHeld ⊢
                            refine pure_ (i := 1) (N := some 98) (v := ?_) (a' := ?_) #[false, true, false, false, false, false, false, false, false, false, false, false] rfl rfl (any_of HT_.out (by kernel_rfl)) (fun _ _ _ h => h) (Or.inl ⟨by rfl, ?_⟩) ?_ ?_
                            rotate_left
                            · intro w'
                              go_simp
                              with_reducible rfl
                            rotate_left
                            · simp only [Act.put, List.setIfInBounds_toArray, List.set_cons_zero, List.set_cons_succ, i64_w, i32_w]
                              rfl
                            refine pure_ (i := 2) (N := some 99) (v := ?_) (a' := ?_) #[false, true, true, false, false, false, false, false, false, false, false, false] rfl rfl (any_of HT_.out (by kernel_rfl)) (fun _ _ _ h => h) (Or.inl ⟨by rfl, ?_⟩) ?_ ?_
                            rotate_left
                            · intro w'
                              go_simp
                              with_reducible rfl
                            rotate_left
                            · simp only [Act.put, List.setIfInBounds_toArray, List.set_cons_zero, List.set_cons_succ, i64_w, i32_w]
                              rfl
                            refine take_ (i := 0) (N := some 97) (v := ?_) (a' := ?_) #[true, true, true, false, false, false, false, false, false, false, false, false] rfl rfl (take_ofW HT_.out HW_.out (by kernel_rfl)) (fun _ _ _ h => h) (Or.inl ⟨by rfl, ?_⟩) hHeld ?_ ?_
                            rotate_left
                            · rintro w' ⟨s0, s1, s2, s3, s4, s5⟩
                              go_simp
                              with_reducible rfl
                            rotate_left
                            · simp only [Act.put, List.setIfInBounds_toArray, List.set_cons_zero, List.set_cons_succ, i64_w, i32_w]
                              rfl
                            refine take_ (i := 3) (N := some 100) (v := ?_) (a' := ?_) #[true, true, true, true, false, false, false, false, false, false, false, false] rfl rfl (take_ofW HT_.out HW_.out (by kernel_rfl)) (fun _ _ _ h => h) (Or.inl ⟨by rfl, ?_⟩) hHeld ?_ ?_
                            rotate_left
                            · rintro w' ⟨s0, s1, s2, s3, s4, s5⟩
                              go_simp
                              with_reducible rfl
                            rotate_left
                            · simp only [Act.put, List.setIfInBounds_toArray, List.set_cons_zero, List.set_cons_succ, i64_w, i32_w]
                              rfl
                            refine pure_ (i := 4) (N := some 101) (v := ?_) (a' := ?_) #[true, true, true, true, true, false, false, false, false, false, false, false] rfl rfl (any_of HT_.out (by kernel_rfl)) (fun _ _ _ h => h) (Or.inl ⟨by rfl, ?_⟩) ?_ ?_
                            rotate_left
                            · intro w'
                              go_simp
                              with_reducible rfl
                            rotate_left
                            · simp only [Act.put, List.setIfInBounds_toArray, List.set_cons_zero, List.set_cons_succ, i64_w, i32_w]
                              rfl
                            refine take_ (i := 5) (N := some 102) (v := ?_) (a' := ?_) #[true, true, true, true, true, true, false, false, false, false, false, false] rfl rfl (take_ofW HT_.out HW_.out (by kernel_rfl)) (fun _ _ _ h => h) (Or.inl ⟨by rfl, ?_⟩) hHeld ?_ ?_
                            rotate_left
                            · rintro w' ⟨s0, s1, s2, s3, s4, s5⟩
                              go_simp
                              with_reducible rfl
                            rotate_left
                            · simp only [Act.put, List.setIfInBounds_toArray, List.set_cons_zero, List.set_cons_succ, i64_w, i32_w]
                              rfl
                            refine one_ (i := 6) (N := some 103) #[true, true, true, true, true, true, true, false, false, false, false, false] rfl rfl (one_of HT_.out (by kernel_rfl)) (by decide) (fun K hK => ?_)
                            refine goes_ Try.func47 (by kernel_rfl) rfl #[.agg #[.int .u64 a0_0, .int .i64 a0_1, .int .i64 a0_2], .slice Ao26 t441.length co26, .int .u64 (rd l2_0 0)] (by rfl) rfl rfl (by (try simp only [List.map_toArray, List.map_cons, List.map_nil]); first | done | rfl | (simp only [List.length_drop, List.length_take]; rfl)) ?_
                            with_reducible refine (twice_High.calls k2 a0_0 a0_1 a0_2 _ _ t441 (rd l2_0 0) t468 t469 _ ?side1 ?side2 A42.out).mono ?_
                            (case side1 => repeat (first | exact (Kd.N_reads' HO_7.out).2.2 | (with_reducible refine Kd.C_alloc ?_ _) | (with_reducible refine Kd.C_drewN ?_ _) | (with_reducible refine Kd.C_drew ?_)))
                            (case side2 => exact (Kd.N_reads' HO_7.out).2.1)
                            rintro e w55 ⟨rfl, hb⟩
                            refine ⟨_, rfl, ?_⟩
                            have n0_ := Aside0.mk (Kd.N_below (by (with_reducible repeat (first | apply Kd.N_alloc | apply Kd.N_drewN | apply Kd.N_drew)); exact HO_7.out) hb)
                            have n1_ := Aside0.mk (Kd.R_below (by (with_reducible repeat (first | apply Kd.R_alloc | apply Kd.R_drewN | apply Kd.R_drew)); exact HO_14.out) hb)
                            have n2_ := Aside0.mk (Kd.R_below (by (with_reducible repeat (first | apply Kd.R_alloc | apply Kd.R_drewN | apply Kd.R_drew)); exact HO_16.out) hb)
                            have n3_ := Aside0.mk (Kd.N_below (by (with_reducible repeat (first | apply Kd.N_alloc | apply Kd.N_drewN | apply Kd.N_drew)); exact HO_68.out) hb)
                            have n4_ := Aside0.mk (blk_below (g := gb439) (o := .cells #[.int .u64 a0_0, .int .i64 a0_1, .int .i64 a0_2] 24 (0, 0)) (by (with_reducible repeat (first | refine blk_drewN ?_ _ | refine blk_drew ?_ | refine blk_alloc ?_ _)); exact BK439.out) hb)
                            have n5_ := Aside0.mk (blk_below (g := gb440) (o := .cells #[.slice (some ad464) l2_0.length c2_0, .slice A2_1 l2_1.length c2_1] 50 (0, 0)) (by (with_reducible repeat (first | refine blk_drewN ?_ _ | refine blk_drew ?_ | refine blk_alloc ?_ _)); exact BK440.out) hb)
                            have n6_ := Aside0.mk (below_step (by repeat (first | (with_reducible first | exact HB.out | apply below_alloc | apply pw_below_drewN | apply below_drew1 | refine below_set ?_ GE439.out | refine below_set ?_ GE440.out) | exact HB.out)) hb)
                            clear HO_7
                            clear HO_14
                            clear HO_16
                            clear HO_68
                            clear BK439
                            clear BK440
                            clear HB
                            have HO_7 := n0_
                            have HO_14 := n1_
                            have HO_16 := n2_
                            have HO_68 := n3_
                            have BK439 := n4_
                            have BK440 := n5_
                            have HB := n6_
                            clear n0_ n1_ n2_ n3_ n4_ n5_ n6_
                            (try clear hb)
                            (try clear hb2)
                            (try clear hk)
                            (try clear hi)
                            refine hK.out _ _ ⟨(blk_cell BK439.out 0).trans rfl, (blk_cell BK439.out 1).trans rfl, (blk_cell BK439.out 2).trans rfl, (blk_cell BK440.out 0).trans rfl, (blk_cell BK440.out 1).trans rfl, ((HB.out.cell (World.block_lt_of_cell? w _ hw467_0)).trans hw467_0)⟩ (fun hHeld => ?_)
                            clear hK K
                            refine norm_ (a' := ?_) ?_ ?_
                            rotate_left
                            · show Act.put _ (some 103) _ = _
                              simp only [Act.put, List.setIfInBounds_toArray, List.set_cons_zero, List.set_cons_succ, i64_w, i32_w]
                              rfl
                            refine pure_ (i := 7) (N := some 96) (v := ?_) (a' := ?_) #[true, true, true, true, true, true, true, true, false, false, false, false] rfl rfl (any_of HT_.out (by kernel_rfl)) (fun _ _ _ h => h) (Or.inl ⟨by rfl, ?_⟩) ?_ ?_
                            rotate_left
                            · intro w'
                              go_simp
                              with_reducible rfl
                            rotate_left
                            · simp only [Act.put, List.setIfInBounds_toArray, List.set_cons_zero, List.set_cons_succ, i64_w, i32_w]
                              rfl
                            refine pure_ (i := 8) (N := some 104) (v := ?_) (a' := ?_) #[true, true, true, true, true, true, true, true, true, false, false, false] rfl rfl (any_of HT_.out (by kernel_rfl)) (fun _ _ _ h => h) (Or.inl ⟨by rfl, ?_⟩) ?_ ?_
                            rotate_left
                            · intro w'
                              go_simp
                              with_reducible rfl
                            rotate_left
                            · simp only [Act.put, List.setIfInBounds_toArray, List.set_cons_zero, List.set_cons_succ, i64_w, i32_w]
                              rfl
                            refine pure_ (i := 9) (N := some 105) (v := ?_) (a' := ?_) #[true, true, true, true, true, true, true, true, true, true, false, false] rfl rfl (any_of HT_.out (by kernel_rfl)) (fun _ _ _ h => h) (Or.inl ⟨by rfl, ?_⟩) ?_ ?_
                            rotate_left
                            · intro w'
                              go_simp
                              with_reducible rfl
                            rotate_left
                            · simp only [Act.put, List.setIfInBounds_toArray, List.set_cons_zero, List.set_cons_succ, i64_w, i32_w]
                              rfl
                            refine pure_ (i := 10) (N := some 21) (v := ?_) (a' := ?_) #[true, true, true, true, true, true, true, true, true, true, true, false] rfl rfl (any_of HT_.out (by kernel_rfl)) (fun _ _ _ h => h) (Or.inl ⟨by rfl, ?_⟩) ?_ ?_
                            rotate_left
                            · intro w'
                              go_simp
                              with_reducible rfl
                            rotate_left
                            · simp only [Act.put, List.setIfInBounds_toArray, List.set_cons_zero, List.set_cons_succ, i64_w, i32_w]
                              rfl
                            refine pure_ (i := 11) (N := some 22) (v := ?_) (a' := ?_) #[true, true, true, true, true, true, true, true, true, true, true, true] rfl rfl (any_of HT_.out (by kernel_rfl)) (fun _ _ _ h => h) (Or.inl ⟨by rfl, ?_⟩) ?_ ?_
                            rotate_left
                            · intro w'
                              go_simp
                              with_reducible rfl
                            rotate_left
                            · simp only [Act.put, List.setIfInBounds_toArray, List.set_cons_zero, List.set_cons_succ, i64_w, i32_w]
                              rfl
                            refine done_ (done_of HT_.out (by kernel_rfl)) ?_
                            try go_wp2
                            have n0_ := Aside0.mk (Kd.N_drew HO_7.out)
                            have n1_ := Aside0.mk (Kd.R_drew HO_14.out)
                            have n2_ := Aside0.mk (Kd.R_drew HO_16.out)
                            have n3_ := Aside0.mk (Kd.N_drew HO_68.out)
                            have n4_ := Aside0.mk (blk_drew BK439.out)
                            have n5_ := Aside0.mk (blk_drew BK440.out)
                            have n6_ := Aside0.mk (below_drew1 HB.out)
                            clear HO_7
                            clear HO_14
                            clear HO_16
                            clear HO_68
                            clear BK439
                            clear BK440
                            clear HB
                            have HO_7 := n0_
                            have HO_14 := n1_
                            have HO_16 := n2_
                            have HO_68 := n3_
                            have BK439 := n4_
                            have BK440 := n5_
                            have HB := n6_
                            clear n0_ n1_ n2_ n3_ n4_ n5_ n6_
                            obtain ⟨Ao57, co57, eo57⟩ := Kd.R_slice HO_14.out
                            (first | subst eo57 | (injection eo57 with f1_ f2_ f3_; have f4_ := f1_.symm; have f5_ := f3_.symm; clear f1_ f2_ f3_; subst f4_; subst f5_))
                            have p470 : 0 ≤ (0 : Int) := (by omega)
                            have q470 : 0 < (l2_0.length : Int) := of_decide_eq_true (by first | (with_reducible assumption) | assumption)
                            obtain ⟨ad470, e470, hx470_0⟩ := Kd.at_int HR2_0.out 0 p470 q470
                            have hw470_0 := hx470_0
                            (try rw [show ((0 : Int)).toNat = 0 from rfl] at hw470_0)
                            (try rw [show 0 * 1 = 0 from rfl] at hw470_0)
                            (try rw [Addr.add_zero'] at hw470_0)
                            obtain rfl : ad464 = ad470 := (by injection e470)
                            have qi470 : (0 < l2_0.length) = True := eq_true (by omega)
                            (try rw [show ((0 : Int)).toNat = 0 from rfl] at hx470_0)
                            (try rw [Addr.add_zero'] at hx470_0)
                            replace hx470_0 := (HB.out.cell (World.block_lt_of_cell? w _ hx470_0)).trans hx470_0
                            replace p470 := eq_true p470
                            replace q470 := eq_true q470
                            refine start_ (n := 42) (S := fun w' => w'.cell? ⟨gb439, 0, none⟩ = some (.int .u64 a0_0) ∧ w'.cell? ⟨gb439, 1, none⟩ = some (.int .i64 a0_1) ∧ w'.cell? ⟨gb439, 2, none⟩ = some (.int .i64 a0_2) ∧ w'.cell? ⟨gb440, 0, none⟩ = some (.slice (some ad464) l2_0.length c2_0) ∧ w'.cell? ⟨gb440, 1, none⟩ = some (.slice A2_1 l2_1.length c2_1) ∧ w'.cell? ad464 = some (.int .u64 (rd l2_0 0))) (ds := []) #[false, false, false, false, false, false, false, false, false, false, false, false, false, false, false, false, false, false, false, false, false, false, false, false, false, false, false, false, false, false, false, false, false, false, false, false, false, false, false, false, false, false] (by kernel_rfl) rfl rfl ⟨(blk_cell BK439.out 0).trans rfl, (blk_cell BK439.out 1).trans rfl, (blk_cell BK439.out 2).trans rfl, (blk_cell BK440.out 0).trans rfl, (blk_cell BK440.out 1).trans rfl, ((HB.out.cell (World.block_lt_of_cell? w _ hw470_0)).trans hw470_0)⟩ (fun hHeld => ?_); refine with_tabW juntolaw07_TwiceOne.tab15 juntolaw07_TwiceOne.bits15 (fun HT_ HW_ => ?_)
                            generalize w55.drew = w56 at HO_7 HO_14 HO_16 HO_68 BK439 BK440 HB hx470_0 hHeld ⊢
                            refine pure_ (i := 0) (N := some 106) (v := ?_) (a' := ?_) #[true, false, false, false, false, false, false, false, false, false, false, false, false, false, false, false, false, false, false, false, false, false, false, false, false, false, false, false, false, false, false, false, false, false, false, false, false, false, false, false, false, false] rfl rfl (any_of HT_.out (by kernel_rfl)) (fun _ _ _ h => h) (Or.inl ⟨by rfl, ?_⟩) ?_ ?_
                            rotate_left
                            · intro w'
                              go_simp
                              with_reducible rfl
                            rotate_left
                            · simp only [Act.put, List.setIfInBounds_toArray, List.set_cons_zero, List.set_cons_succ, i64_w, i32_w]
                              rfl
                            refine pure_ (i := 1) (N := some 107) (v := ?_) (a' := ?_) #[true, true, false, false, false, false, false, false, false, false, false, false, false, false, false, false, false, false, false, false, false, false, false, false, false, false, false, false, false, false, false, false, false, false, false, false, false, false, false, false, false, false] rfl rfl (any_of HT_.out (by kernel_rfl)) (fun _ _ _ h => h) (Or.inl ⟨by rfl, ?_⟩) ?_ ?_
                            rotate_left
                            · intro w'
                              go_simp
                              with_reducible rfl
                            rotate_left
                            · simp only [Act.put, List.setIfInBounds_toArray, List.set_cons_zero, List.set_cons_succ, i64_w, i32_w]
                              rfl
                            refine pure_ (i := 2) (N := some 108) (v := ?_) (a' := ?_) #[true, true, true, false, false, false, false, false, false, false, false, false, false, false, false, false, false, false, false, false, false, false, false, false, false, false, false, false, false, false, false, false, false, false, false, false, false, false, false, false, false, false] rfl rfl (any_of HT_.out (by kernel_rfl)) (fun _ _ _ h => h) (Or.inl ⟨by rfl, ?_⟩) ?_ ?_
                            rotate_left
                            · intro w'
                              go_simp
                              with_reducible rfl
                            rotate_left
                            · simp only [Act.put, List.setIfInBounds_toArray, List.set_cons_zero, List.set_cons_succ, i64_w, i32_w]
                              rfl
                            refine pure_ (i := 3) (N := some 109) (v := ?_) (a' := ?_) #[true, true, true, true, false, false, false, false, false, false, false, false, false, false, false, false, false, false, false, false, false, false, false, false, false, false, false, false, false, false, false, false, false, false, false, false, false, false, false, false, false, false] rfl rfl (any_of HT_.out (by kernel_rfl)) (fun _ _ _ h => h) (Or.inl ⟨by rfl, ?_⟩) ?_ ?_
                            rotate_left
                            · intro w'
                              go_simp
                              with_reducible rfl
                            rotate_left
                            · simp only [Act.put, List.setIfInBounds_toArray, List.set_cons_zero, List.set_cons_succ, i64_w, i32_w]
                              rfl
                            refine pure_ (i := 4) (N := some 110) (v := ?_) (a' := ?_) #[true, true, true, true, true, false, false, false, false, false, false, false, false, false, false, false, false, false, false, false, false, false, false, false, false, false, false, false, false, false, false, false, false, false, false, false, false, false, false, false, false, false] rfl rfl (any_of HT_.out (by kernel_rfl)) (fun _ _ _ h => h) (Or.inl ⟨by rfl, ?_⟩) ?_ ?_
                            rotate_left
                            · intro w'
                              go_simp
                              with_reducible rfl
                            rotate_left
                            · simp only [Act.put, List.setIfInBounds_toArray, List.set_cons_zero, List.set_cons_succ, i64_w, i32_w]
                              rfl
                            refine pure_ (i := 5) (N := some 111) (v := ?_) (a' := ?_) #[true, true, true, true, true, true, false, false, false, false, false, false, false, false, false, false, false, false, false, false, false, false, false, false, false, false, false, false, false, false, false, false, false, false, false, false, false, false, false, false, false, false] rfl rfl (any_of HT_.out (by kernel_rfl)) (fun _ _ _ h => h) (Or.inl ⟨by rfl, ?_⟩) ?_ ?_
                            rotate_left
                            · intro w'
                              go_simp
                              with_reducible rfl
                            rotate_left
                            · simp only [Act.put, List.setIfInBounds_toArray, List.set_cons_zero, List.set_cons_succ, i64_w, i32_w]
                              rfl
                            refine pure_ (i := 6) (N := some 112) (v := ?_) (a' := ?_) #[true, true, true, true, true, true, true, false, false, false, false, false, false, false, false, false, false, false, false, false, false, false, false, false, false, false, false, false, false, false, false, false, false, false, false, false, false, false, false, false, false, false] rfl rfl (any_of HT_.out (by kernel_rfl)) (fun _ _ _ h => h) (Or.inl ⟨by rfl, ?_⟩) ?_ ?_
                            rotate_left
                            · intro w'
                              go_simp
                              with_reducible rfl
                            rotate_left
                            · simp only [Act.put, List.setIfInBounds_toArray, List.set_cons_zero, List.set_cons_succ, i64_w, i32_w]
                              rfl
                            refine pure_ (i := 7) (N := some 113) (v := ?_) (a' := ?_) #[true, true, true, true, true, true, true, true, false, false, false, false, false, false, false, false, false, false, false, false, false, false, false, false, false, false, false, false, false, false, false, false, false, false, false, false, false, false, false, false, false, false] rfl rfl (any_of HT_.out (by kernel_rfl)) (fun _ _ _ h => h) (Or.inl ⟨by rfl, ?_⟩) ?_ ?_
                            rotate_left
                            · intro w'
                              go_simp
                              with_reducible rfl
                            rotate_left
                            · simp only [Act.put, List.setIfInBounds_toArray, List.set_cons_zero, List.set_cons_succ, i64_w, i32_w]
                              rfl
                            refine pure_ (i := 8) (N := some 114) (v := ?_) (a' := ?_) #[true, true, true, true, true, true, true, true, true, false, false, false, false, false, false, false, false, false, false, false, false, false, false, false, false, false, false, false, false, false, false, false, false, false, false, false, false, false, false, false, false, false] rfl rfl (any_of HT_.out (by kernel_rfl)) (fun _ _ _ h => h) (Or.inl ⟨by rfl, ?_⟩) ?_ ?_
                            rotate_left
                            · intro w'
                              go_simp
                              with_reducible rfl
                            rotate_left
                            · simp only [Act.put, List.setIfInBounds_toArray, List.set_cons_zero, List.set_cons_succ, i64_w, i32_w]
                              rfl
                            refine pure_ (i := 9) (N := some 115) (v := ?_) (a' := ?_) #[true, true, true, true, true, true, true, true, true, true, false, false, false, false, false, false, false, false, false, false, false, false, false, false, false, false, false, false, false, false, false, false, false, false, false, false, false, false, false, false, false, false] rfl rfl (any_of HT_.out (by kernel_rfl)) (fun _ _ _ h => h) (Or.inl ⟨by rfl, ?_⟩) ?_ ?_
                            rotate_left
                            · intro w'
                              go_simp
                              with_reducible rfl
                            rotate_left
                            · simp only [Act.put, List.setIfInBounds_toArray, List.set_cons_zero, List.set_cons_succ, i64_w, i32_w]
                              rfl
                            refine pure_ (i := 10) (N := some 116) (v := ?_) (a' := ?_) #[true, true, true, true, true, true, true, true, true, true, true, false, false, false, false, false, false, false, false, false, false, false, false, false, false, false, false, false, false, false, false, false, false, false, false, false, false, false, false, false, false, false] rfl rfl (any_of HT_.out (by kernel_rfl)) (fun _ _ _ h => h) (Or.inl ⟨by rfl, ?_⟩) ?_ ?_
                            rotate_left
                            · intro w'
                              go_simp
                              with_reducible rfl
                            rotate_left
                            · simp only [Act.put, List.setIfInBounds_toArray, List.set_cons_zero, List.set_cons_succ, i64_w, i32_w]
                              rfl
                            refine pure_ (i := 11) (N := some 117) (v := ?_) (a' := ?_) #[true, true, true, true, true, true, true, true, true, true, true, true, false, false, false, false, false, false, false, false, false, false, false, false, false, false, false, false, false, false, false, false, false, false, false, false, false, false, false, false, false, false] rfl rfl (any_of HT_.out (by kernel_rfl)) (fun _ _ _ h => h) (Or.inl ⟨by rfl, ?_⟩) ?_ ?_
                            rotate_left
                            · intro w'
                              go_simp
                              with_reducible rfl
                            rotate_left
                            · simp only [Act.put, List.setIfInBounds_toArray, List.set_cons_zero, List.set_cons_succ, i64_w, i32_w]
                              rfl
                            refine take_ (i := 12) (N := some 118) (v := ?_) (a' := ?_) #[true, true, true, true, true, true, true, true, true, true, true, true, true, false, false, false, false, false, false, false, false, false, false, false, false, false, false, false, false, false, false, false, false, false, false, false, false, false, false, false, false, false] rfl rfl (take_ofW HT_.out HW_.out (by kernel_rfl)) (fun _ _ _ h => h) (Or.inl ⟨by rfl, ?_⟩) hHeld ?_ ?_
                            rotate_left
                            · rintro w' ⟨s0, s1, s2, s3, s4, s5⟩
                              go_simp
                              with_reducible rfl
                            rotate_left
                            · simp only [Act.put, List.setIfInBounds_toArray, List.set_cons_zero, List.set_cons_succ, i64_w, i32_w]
                              rfl
                            refine pure_ (i := 13) (N := some 119) (v := ?_) (a' := ?_) #[true, true, true, true, true, true, true, true, true, true, true, true, true, true, false, false, false, false, false, false, false, false, false, false, false, false, false, false, false, false, false, false, false, false, false, false, false, false, false, false, false, false] rfl rfl (any_of HT_.out (by kernel_rfl)) (fun _ _ _ h => h) (Or.inl ⟨by rfl, ?_⟩) ?_ ?_
                            rotate_left
                            · intro w'
                              go_simp
                              with_reducible rfl
                            rotate_left
                            · simp only [Act.put, List.setIfInBounds_toArray, List.set_cons_zero, List.set_cons_succ, i64_w, i32_w]
                              rfl
                            refine pure_ (i := 14) (N := some 120) (v := ?_) (a' := ?_) #[true, true, true, true, true, true, true, true, true, true, true, true, true, true, true, false, false, false, false, false, false, false, false, false, false, false, false, false, false, false, false, false, false, false, false, false, false, false, false, false, false, false] rfl rfl (any_of HT_.out (by kernel_rfl)) (fun _ _ _ h => h) (Or.inl ⟨by rfl, ?_⟩) ?_ ?_
                            rotate_left
                            · intro w'
                              go_simp
                              with_reducible rfl
                            rotate_left
                            · simp only [Act.put, List.setIfInBounds_toArray, List.set_cons_zero, List.set_cons_succ, i64_w, i32_w]
                              rfl
                            refine pure_ (i := 15) (N := some 121) (v := ?_) (a' := ?_) #[true, true, true, true, true, true, true, true, true, true, true, true, true, true, true, true, false, false, false, false, false, false, false, false, false, false, false, false, false, false, false, false, false, false, false, false, false, false, false, false, false, false] rfl rfl (any_of HT_.out (by kernel_rfl)) (fun _ _ _ h => h) (Or.inl ⟨by rfl, ?_⟩) ?_ ?_
                            rotate_left
                            · intro w'
                              go_simp
                              with_reducible rfl
                            rotate_left
                            · simp only [Act.put, List.setIfInBounds_toArray, List.set_cons_zero, List.set_cons_succ, i64_w, i32_w]
                              rfl
                            refine pure_ (i := 16) (N := some 122) (v := ?_) (a' := ?_) #[true, true, true, true, true, true, true, true, true, true, true, true, true, true, true, true, true, false, false, false, false, false, false, false, false, false, false, false, false, false, false, false, false, false, false, false, false, false, false, false, false, false] rfl rfl (any_of HT_.out (by kernel_rfl)) (fun _ _ _ h => h) (Or.inl ⟨by rfl, ?_⟩) ?_ ?_
                            rotate_left
                            · intro w'
                              go_simp
                              with_reducible rfl
                            rotate_left
                            · simp only [Act.put, List.setIfInBounds_toArray, List.set_cons_zero, List.set_cons_succ, i64_w, i32_w]
                              rfl
                            refine pure_ (i := 17) (N := some 123) (v := ?_) (a' := ?_) #[true, true, true, true, true, true, true, true, true, true, true, true, true, true, true, true, true, true, false, false, false, false, false, false, false, false, false, false, false, false, false, false, false, false, false, false, false, false, false, false, false, false] rfl rfl (any_of HT_.out (by kernel_rfl)) (fun _ _ _ h => h) (Or.inl ⟨by rfl, ?_⟩) ?_ ?_
                            rotate_left
                            · intro w'
                              go_simp
                              with_reducible rfl
                            rotate_left
                            · simp only [Act.put, List.setIfInBounds_toArray, List.set_cons_zero, List.set_cons_succ, i64_w, i32_w]
                              rfl
                            refine pure_ (i := 18) (N := some 124) (v := ?_) (a' := ?_) #[true, true, true, true, true, true, true, true, true, true, true, true, true, true, true, true, true, true, true, false, false, false, false, false, false, false, false, false, false, false, false, false, false, false, false, false, false, false, false, false, false, false] rfl rfl (any_of HT_.out (by kernel_rfl)) (fun _ _ _ h => h) (Or.inl ⟨by rfl, ?_⟩) ?_ ?_
                            rotate_left
                            · intro w'
                              go_simp
                              with_reducible rfl
                            rotate_left
                            · simp only [Act.put, List.setIfInBounds_toArray, List.set_cons_zero, List.set_cons_succ, i64_w, i32_w]
                              rfl
                            refine pure_ (i := 19) (N := some 125) (v := ?_) (a' := ?_) #[true, true, true, true, true, true, true, true, true, true, true, true, true, true, true, true, true, true, true, true, false, false, false, false, false, false, false, false, false, false, false, false, false, false, false, false, false, false, false, false, false, false] rfl rfl (any_of HT_.out (by kernel_rfl)) (fun _ _ _ h => h) (Or.inl ⟨by rfl, ?_⟩) ?_ ?_
                            rotate_left
                            · intro w'
                              go_simp
                              with_reducible rfl
                            rotate_left
                            · simp only [Act.put, List.setIfInBounds_toArray, List.set_cons_zero, List.set_cons_succ, i64_w, i32_w]
                              rfl
                            refine pure_ (i := 20) (N := some 126) (v := ?_) (a' := ?_) #[true, true, true, true, true, true, true, true, true, true, true, true, true, true, true, true, true, true, true, true, true, false, false, false, false, false, false, false, false, false, false, false, false, false, false, false, false, false, false, false, false, false] rfl rfl (any_of HT_.out (by kernel_rfl)) (fun _ _ _ h => h) (Or.inl ⟨by rfl, ?_⟩) ?_ ?_
                            rotate_left
                            · intro w'
                              go_simp
                              with_reducible rfl
                            rotate_left
                            · simp only [Act.put, List.setIfInBounds_toArray, List.set_cons_zero, List.set_cons_succ, i64_w, i32_w]
                              rfl
                            refine pure_ (i := 21) (N := some 127) (v := ?_) (a' := ?_) #[true, true, true, true, true, true, true, true, true, true, true, true, true, true, true, true, true, true, true, true, true, true, false, false, false, false, false, false, false, false, false, false, false, false, false, false, false, false, false, false, false, false] rfl rfl (any_of HT_.out (by kernel_rfl)) (fun _ _ _ h => h) (Or.inl ⟨by rfl, ?_⟩) ?_ ?_
                            rotate_left
                            · intro w'
                              go_simp
                              with_reducible rfl
                            rotate_left
                            · simp only [Act.put, List.setIfInBounds_toArray, List.set_cons_zero, List.set_cons_succ, i64_w, i32_w]
                              rfl
                            refine pure_ (i := 22) (N := some 128) (v := ?_) (a' := ?_) #[true, true, true, true, true, true, true, true, true, true, true, true, true, true, true, true, true, true, true, true, true, true, true, false, false, false, false, false, false, false, false, false, false, false, false, false, false, false, false, false, false, false] rfl rfl (any_of HT_.out (by kernel_rfl)) (fun _ _ _ h => h) (Or.inl ⟨by rfl, ?_⟩) ?_ ?_
                            rotate_left
                            · intro w'
                              go_simp
                              with_reducible rfl
                            rotate_left
                            · simp only [Act.put, List.setIfInBounds_toArray, List.set_cons_zero, List.set_cons_succ, i64_w, i32_w]
                              rfl
                            refine pure_ (i := 23) (N := some 129) (v := ?_) (a' := ?_) #[true, true, true, true, true, true, true, true, true, true, true, true, true, true, true, true, true, true, true, true, true, true, true, true, false, false, false, false, false, false, false, false, false, false, false, false, false, false, false, false, false, false] rfl rfl (any_of HT_.out (by kernel_rfl)) (fun _ _ _ h => h) (Or.inl ⟨by rfl, ?_⟩) ?_ ?_
                            rotate_left
                            · intro w'
                              go_simp
                              with_reducible rfl
                            rotate_left
                            · simp only [Act.put, List.setIfInBounds_toArray, List.set_cons_zero, List.set_cons_succ, i64_w, i32_w]
                              rfl
                            refine pure_ (i := 24) (N := some 130) (v := ?_) (a' := ?_) #[true, true, true, true, true, true, true, true, true, true, true, true, true, true, true, true, true, true, true, true, true, true, true, true, true, false, false, false, false, false, false, false, false, false, false, false, false, false, false, false, false, false] rfl rfl (any_of HT_.out (by kernel_rfl)) (fun _ _ _ h => h) (Or.inl ⟨by rfl, ?_⟩) ?_ ?_
                            rotate_left
                            · intro w'
                              go_simp
                              with_reducible rfl
                            rotate_left
                            · simp only [Act.put, List.setIfInBounds_toArray, List.set_cons_zero, List.set_cons_succ, i64_w, i32_w]
                              rfl
                            refine pure_ (i := 25) (N := some 131) (v := ?_) (a' := ?_) #[true, true, true, true, true, true, true, true, true, true, true, true, true, true, true, true, true, true, true, true, true, true, true, true, true, true, false, false, false, false, false, false, false, false, false, false, false, false, false, false, false, false] rfl rfl (any_of HT_.out (by kernel_rfl)) (fun _ _ _ h => h) (Or.inl ⟨by rfl, ?_⟩) ?_ ?_
                            rotate_left
                            · intro w'
                              go_simp
                              with_reducible rfl
                            rotate_left
                            · simp only [Act.put, List.setIfInBounds_toArray, List.set_cons_zero, List.set_cons_succ, i64_w, i32_w]
                              rfl
                            refine pure_ (i := 26) (N := some 132) (v := ?_) (a' := ?_) #[true, true, true, true, true, true, true, true, true, true, true, true, true, true, true, true, true, true, true, true, true, true, true, true, true, true, true, false, false, false, false, false, false, false, false, false, false, false, false, false, false, false] rfl rfl (any_of HT_.out (by kernel_rfl)) (fun _ _ _ h => h) (Or.inl ⟨by rfl, ?_⟩) ?_ ?_
                            rotate_left
                            · intro w'
                              go_simp
                              with_reducible rfl
                            rotate_left
                            · simp only [Act.put, List.setIfInBounds_toArray, List.set_cons_zero, List.set_cons_succ, i64_w, i32_w]
                              rfl
                            refine pure_ (i := 27) (N := some 133) (v := ?_) (a' := ?_) #[true, true, true, true, true, true, true, true, true, true, true, true, true, true, true, true, true, true, true, true, true, true, true, true, true, true, true, true, false, false, false, false, false, false, false, false, false, false, false, false, false, false] rfl rfl (any_of HT_.out (by kernel_rfl)) (fun _ _ _ h => h) (Or.inl ⟨by rfl, ?_⟩) ?_ ?_
                            rotate_left
                            · intro w'
                              go_simp
                              with_reducible rfl
                            rotate_left
                            · simp only [Act.put, List.setIfInBounds_toArray, List.set_cons_zero, List.set_cons_succ, i64_w, i32_w]
                              rfl
                            refine pure_ (i := 28) (N := some 134) (v := ?_) (a' := ?_) #[true, true, true, true, true, true, true, true, true, true, true, true, true, true, true, true, true, true, true, true, true, true, true, true, true, true, true, true, true, false, false, false, false, false, false, false, false, false, false, false, false, false] rfl rfl (any_of HT_.out (by kernel_rfl)) (fun _ _ _ h => h) (Or.inl ⟨by rfl, ?_⟩) ?_ ?_
                            rotate_left
                            · intro w'
                              go_simp
                              with_reducible rfl
                            rotate_left
                            · simp only [Act.put, List.setIfInBounds_toArray, List.set_cons_zero, List.set_cons_succ, i64_w, i32_w]
                              rfl
                            refine pure_ (i := 30) (N := some 136) (v := ?_) (a' := ?_) #[true, true, true, true, true, true, true, true, true, true, true, true, true, true, true, true, true, true, true, true, true, true, true, true, true, true, true, true, true, false, true, false, false, false, false, false, false, false, false, false, false, false] rfl rfl (any_of HT_.out (by kernel_rfl)) (fun _ _ _ h => h) (Or.inl ⟨by rfl, ?_⟩) ?_ ?_
                            rotate_left
                            · intro w'
                              go_simp
                              with_reducible rfl
                            rotate_left
                            · simp only [Act.put, List.setIfInBounds_toArray, List.set_cons_zero, List.set_cons_succ, i64_w, i32_w]
                              rfl
                            refine pure_ (i := 31) (N := some 137) (v := ?_) (a' := ?_) #[true, true, true, true, true, true, true, true, true, true, true, true, true, true, true, true, true, true, true, true, true, true, true, true, true, true, true, true, true, false, true, true, false, false, false, false, false, false, false, false, false, false] rfl rfl (any_of HT_.out (by kernel_rfl)) (fun _ _ _ h => h) (Or.inl ⟨by rfl, ?_⟩) ?_ ?_
                            rotate_left
                            · intro w'
                              go_simp
                              with_reducible rfl
                            rotate_left
                            · simp only [Act.put, List.setIfInBounds_toArray, List.set_cons_zero, List.set_cons_succ, i64_w, i32_w]
                              rfl
                            refine take_ (i := 29) (N := some 135) (v := ?_) (a' := ?_) #[true, true, true, true, true, true, true, true, true, true, true, true, true, true, true, true, true, true, true, true, true, true, true, true, true, true, true, true, true, true, true, true, false, false, false, false, false, false, false, false, false, false] rfl rfl (take_ofW HT_.out HW_.out (by kernel_rfl)) (fun _ _ _ h => h) (Or.inl ⟨by rfl, ?_⟩) hHeld ?_ ?_
                            rotate_left
                            · rintro w' ⟨s0, s1, s2, s3, s4, s5⟩
                              go_simp
                              with_reducible rfl
                            rotate_left
                            · simp only [Act.put, List.setIfInBounds_toArray, List.set_cons_zero, List.set_cons_succ, i64_w, i32_w]
                              rfl
                            refine take_ (i := 32) (N := some 138) (v := ?_) (a' := ?_) #[true, true, true, true, true, true, true, true, true, true, true, true, true, true, true, true, true, true, true, true, true, true, true, true, true, true, true, true, true, true, true, true, true, false, false, false, false, false, false, false, false, false] rfl rfl (take_ofW HT_.out HW_.out (by kernel_rfl)) (fun _ _ _ h => h) (Or.inl ⟨by rfl, ?_⟩) hHeld ?_ ?_
                            rotate_left
                            · rintro w' ⟨s0, s1, s2, s3, s4, s5⟩
                              go_simp
                              with_reducible rfl
                            rotate_left
                            · simp only [Act.put, List.setIfInBounds_toArray, List.set_cons_zero, List.set_cons_succ, i64_w, i32_w]
                              rfl
                            refine pure_ (i := 33) (N := some 139) (v := ?_) (a' := ?_) #[true, true, true, true, true, true, true, true, true, true, true, true, true, true, true, true, true, true, true, true, true, true, true, true, true, true, true, true, true, true, true, true, true, true, false, false, false, false, false, false, false, false] rfl rfl (any_of HT_.out (by kernel_rfl)) (fun _ _ _ h => h) (Or.inl ⟨by rfl, ?_⟩) ?_ ?_
                            rotate_left
                            · intro w'
                              go_simp
                              with_reducible rfl
                            rotate_left
                            · simp only [Act.put, List.setIfInBounds_toArray, List.set_cons_zero, List.set_cons_succ, i64_w, i32_w]
                              rfl
                            refine take_ (i := 34) (N := some 140) (v := ?_) (a' := ?_) #[true, true, true, true, true, true, true, true, true, true, true, true, true, true, true, true, true, true, true, true, true, true, true, true, true, true, true, true, true, true, true, true, true, true, true, false, false, false, false, false, false, false] rfl rfl (take_ofW HT_.out HW_.out (by kernel_rfl)) (fun _ _ _ h => h) (Or.inl ⟨by rfl, ?_⟩) hHeld ?_ ?_
                            rotate_left
                            · rintro w' ⟨s0, s1, s2, s3, s4, s5⟩
                              go_simp
                              with_reducible rfl
                            rotate_left
                            · simp only [Act.put, List.setIfInBounds_toArray, List.set_cons_zero, List.set_cons_succ, i64_w, i32_w]
                              rfl
                            refine one_ (i := 35) (N := some 141) #[true, true, true, true, true, true, true, true, true, true, true, true, true, true, true, true, true, true, true, true, true, true, true, true, true, true, true, true, true, true, true, true, true, true, true, true, false, false, false, false, false, false] rfl rfl (one_of HT_.out (by kernel_rfl)) (by decide) (fun K hK => ?_)
                            refine goes_ Try.func58 (by kernel_rfl) rfl #[.int .u64 a0_0, .slice Ao57 t454.length co57, .int .u64 (rd l2_0 0)] (by rfl) rfl rfl (by (try simp only [List.map_toArray, List.map_cons, List.map_nil]); first | done | rfl | (simp only [List.length_drop, List.length_take]; rfl)) ?_
                            with_reducible refine (juntoref02_Eval.calls k2 a0_0 _ _ t454 (rd l2_0 0) t471 _ ?side1 ?side2 A48.out).mono ?_
                            (case side1 => repeat (first | exact (Kd.R_reads' HO_14.out).2.2 | (with_reducible refine Kd.C_alloc ?_ _) | (with_reducible refine Kd.C_drewN ?_ _) | (with_reducible refine Kd.C_drew ?_)))
                            (case side2 => exact (Kd.R_reads' HO_14.out).2.1)
                            rintro e w' ⟨rfl, ⟨nd, rfl⟩⟩
                            refine ⟨_, rfl, ?_⟩
                            refine hK.out _ _ ⟨(blk_cell BK439.out 0).trans rfl, (blk_cell BK439.out 1).trans rfl, (blk_cell BK439.out 2).trans rfl, (blk_cell BK440.out 0).trans rfl, (blk_cell BK440.out 1).trans rfl, ((HB.out.cell (World.block_lt_of_cell? w _ hw470_0)).trans hw470_0)⟩ (fun hHeld => ?_)
                            clear hK K
                            refine norm_ (a' := ?_) ?_ ?_
                            rotate_left
                            · show Act.put _ (some 141) _ = _
                              simp only [Act.put, List.setIfInBounds_toArray, List.set_cons_zero, List.set_cons_succ, i64_w, i32_w]
                              rfl
                            refine pure_ (i := 36) (N := some 142) (v := ?_) (a' := ?_) #[true, true, true, true, true, true, true, true, true, true, true, true, true, true, true, true, true, true, true, true, true, true, true, true, true, true, true, true, true, true, true, true, true, true, true, true, true, false, false, false, false, false] rfl rfl (any_of HT_.out (by kernel_rfl)) (fun _ _ _ h => h) (Or.inl ⟨by rfl, ?_⟩) ?_ ?_
                            rotate_left
                            · intro w'
                              go_simp
                              with_reducible rfl
                            rotate_left
                            · simp only [Act.put, List.setIfInBounds_toArray, List.set_cons_zero, List.set_cons_succ, i64_w, i32_w]
                              rfl
                            refine pure_ (i := 37) (N := some 143) (v := ?_) (a' := ?_) #[true, true, true, true, true, true, true, true, true, true, true, true, true, true, true, true, true, true, true, true, true, true, true, true, true, true, true, true, true, true, true, true, true, true, true, true, true, true, false, false, false, false] rfl rfl (any_of HT_.out (by kernel_rfl)) (fun _ _ _ h => h) (Or.inl ⟨by rfl, ?_⟩) ?_ ?_
                            rotate_left
                            · intro w'
                              go_simp
                              with_reducible rfl
                            rotate_left
                            · simp only [Act.put, List.setIfInBounds_toArray, List.set_cons_zero, List.set_cons_succ, i64_w, i32_w]
                              rfl
                            refine pure_ (i := 38) (N := some 144) (v := ?_) (a' := ?_) #[true, true, true, true, true, true, true, true, true, true, true, true, true, true, true, true, true, true, true, true, true, true, true, true, true, true, true, true, true, true, true, true, true, true, true, true, true, true, true, false, false, false] rfl rfl (any_of HT_.out (by kernel_rfl)) (fun _ _ _ h => h) (Or.inl ⟨by rfl, ?_⟩) ?_ ?_
                            rotate_left
                            · intro w'
                              go_simp
                              with_reducible rfl
                            rotate_left
                            · simp only [Act.put, List.setIfInBounds_toArray, List.set_cons_zero, List.set_cons_succ, i64_w, i32_w]
                              rfl
                            refine one_ (i := 39) (N := some 145) #[true, true, true, true, true, true, true, true, true, true, true, true, true, true, true, true, true, true, true, true, true, true, true, true, true, true, true, true, true, true, true, true, true, true, true, true, true, true, true, true, false, false] rfl rfl (one_of HT_.out (by kernel_rfl)) (by decide) (fun K hK => ?_)
                            refine goes_ Try.func40 (by kernel_rfl) rfl #[] (by rfl) rfl rfl (by (try simp only [List.map_toArray, List.map_cons, List.map_nil]); first | done | rfl | (simp only [List.length_drop, List.length_take]; rfl)) ?_
                            with_reducible refine (juntolaw07_alive.calls k2  t472 _ A50.out (by first | rfl | exact HRT.out)).mono ?_
                            rintro e w58 ⟨rfl, hb⟩
                            refine ⟨_, rfl, ?_⟩
                            have n0_ := Aside0.mk (Kd.N_below (by (with_reducible repeat (first | apply Kd.N_alloc | apply Kd.N_drewN | apply Kd.N_drew)); exact HO_7.out) hb)
                            have n1_ := Aside0.mk (Kd.R_below (by (with_reducible repeat (first | apply Kd.R_alloc | apply Kd.R_drewN | apply Kd.R_drew)); exact HO_14.out) hb)
                            have n2_ := Aside0.mk (Kd.R_below (by (with_reducible repeat (first | apply Kd.R_alloc | apply Kd.R_drewN | apply Kd.R_drew)); exact HO_16.out) hb)
                            have n3_ := Aside0.mk (Kd.N_below (by (with_reducible repeat (first | apply Kd.N_alloc | apply Kd.N_drewN | apply Kd.N_drew)); exact HO_68.out) hb)
                            have n4_ := Aside0.mk (blk_below (g := gb439) (o := .cells #[.int .u64 a0_0, .int .i64 a0_1, .int .i64 a0_2] 24 (0, 0)) (by (with_reducible repeat (first | refine blk_drewN ?_ _ | refine blk_drew ?_ | refine blk_alloc ?_ _)); exact BK439.out) hb)
                            have n5_ := Aside0.mk (blk_below (g := gb440) (o := .cells #[.slice (some ad464) l2_0.length c2_0, .slice A2_1 l2_1.length c2_1] 50 (0, 0)) (by (with_reducible repeat (first | refine blk_drewN ?_ _ | refine blk_drew ?_ | refine blk_alloc ?_ _)); exact BK440.out) hb)
                            have n6_ := Aside0.mk (below_step (by repeat (first | (with_reducible first | exact HB.out | apply below_alloc | apply pw_below_drewN | apply below_drew1 | refine below_set ?_ GE439.out | refine below_set ?_ GE440.out) | exact HB.out)) hb)
                            clear HO_7
                            clear HO_14
                            clear HO_16
                            clear HO_68
                            clear BK439
                            clear BK440
                            clear HB
                            have HO_7 := n0_
                            have HO_14 := n1_
                            have HO_16 := n2_
                            have HO_68 := n3_
                            have BK439 := n4_
                            have BK440 := n5_
                            have HB := n6_
                            clear n0_ n1_ n2_ n3_ n4_ n5_ n6_
                            (try clear hb)
                            (try clear hb2)
                            (try clear hk)
                            (try clear hi)
                            refine hK.out _ _ ⟨(blk_cell BK439.out 0).trans rfl, (blk_cell BK439.out 1).trans rfl, (blk_cell BK439.out 2).trans rfl, (blk_cell BK440.out 0).trans rfl, (blk_cell BK440.out 1).trans rfl, ((HB.out.cell (World.block_lt_of_cell? w _ hw470_0)).trans hw470_0)⟩ (fun hHeld => ?_)
                            clear hK K
                            refine norm_ (a' := ?_) ?_ ?_
                            rotate_left
                            · show Act.put _ (some 145) _ = _
                              simp only [Act.put, List.setIfInBounds_toArray, List.set_cons_zero, List.set_cons_succ, i64_w, i32_w]
                              rfl
                            refine pure_ (i := 40) (N := some 146) (v := ?_) (a' := ?_) #[true, true, true, true, true, true, true, true, true, true, true, true, true, true, true, true, true, true, true, true, true, true, true, true, true, true, true, true, true, true, true, true, true, true, true, true, true, true, true, true, true, false] rfl rfl (any_of HT_.out (by kernel_rfl)) (fun _ _ _ h => h) (Or.inl ⟨by rfl, ?_⟩) ?_ ?_
                            rotate_left
                            · intro w'
                              go_simp
                              with_reducible rfl
                            rotate_left
                            · simp only [Act.put, List.setIfInBounds_toArray, List.set_cons_zero, List.set_cons_succ, i64_w, i32_w]
                              rfl
                            refine pure_ (i := 41) (N := some 6) (v := ?_) (a' := ?_) #[true, true, true, true, true, true, true, true, true, true, true, true, true, true, true, true, true, true, true, true, true, true, true, true, true, true, true, true, true, true, true, true, true, true, true, true, true, true, true, true, true, true] rfl rfl (any_of HT_.out (by kernel_rfl)) (fun _ _ _ h => h) (Or.inl ⟨by rfl, ?_⟩) ?_ ?_
                            rotate_left
                            · intro w'
                              go_simp
                              with_reducible rfl
                            rotate_left
                            · simp only [Act.put, List.setIfInBounds_toArray, List.set_cons_zero, List.set_cons_succ, i64_w, i32_w]
                              rfl
                            refine done_ (done_of HT_.out (by kernel_rfl)) ?_
                            try go_wp2
                            go_ret
                            exact ⟨by first | rfl | (simp [errW_none, errW_some] <;> rfl) | (simp [*, errW_none, errW_some] <;> rfl), by repeat (first | (with_reducible first | exact HB.out | apply below_alloc | apply pw_below_drewN | apply below_drew1 | refine below_set ?_ GE439.out | refine below_set ?_ GE440.out) | exact HB.out)⟩
                          · rw [if_neg c49] at H
                            have c49b0 : (t465 == t471) = false := beq_eq_false_iff_ne.mpr c49
                            have c49b1 : (t465 != t471) = true := bne_iff_ne.mpr c49
                            exact absurd ((Option.some.inj H).trans HRT.out) (by decide)
                        · rw [if_neg c47] at H
                          have c47b0 : (t465 == t468) = false := beq_eq_false_iff_ne.mpr c47
                          have c47b1 : (t465 != t468) = true := bne_iff_ne.mpr c47
                          exact absurd ((Option.some.inj H).trans HRT.out) (by decide)
                      · rw [if_neg c46] at H
                        have c46b0 : (t466 == 0) = false := beq_eq_false_iff_ne.mpr c46
                        have c46b1 : (t466 != 0) = true := bne_iff_ne.mpr c46
                        exact absurd ((Option.some.inj H).trans HRT.out) (by decide)
                    · rw [if_neg c45] at H
                      have c45b0 : decide ((t454.length : Int) ≤ (wrap64 ((wrap64 (2 * a0_2)) + 1))) = false := decide_eq_false c45
                      clear c45
                      exact absurd ((Option.some.inj H).trans HRT.out) (by decide)
                  · rw [if_neg c44] at H
                    have c44b0 : (t452 == a1) = false := beq_eq_false_iff_ne.mpr c44
                    have c44b1 : (t452 != a1) = true := bne_iff_ne.mpr c44
                    exact absurd ((Option.some.inj H).trans HRT.out) (by decide)
                · rw [if_neg c43] at H
                  have c43b0 : (t450 == a1) = false := beq_eq_false_iff_ne.mpr c43
                  have c43b1 : (t450 != a1) = true := bne_iff_ne.mpr c43
                  exact absurd ((Option.some.inj H).trans HRT.out) (by decide)
              · rw [if_neg c40] at H
                exact absurd H (by simp)

end Go.Proofs.Ytjjnfobeeflnhaa.J

/- What comes in laid out as a type says is a value of a kind, within the bounds that its weights leave: once for every type. -/
namespace Go.Proofs.Ytjjnfobeeflnhaa.Op
open Go.RowKit Go.Proofs.YtjjnfobeeflnhaaW.PrintWords Go.Proofs.YtjjnfobeeflnhaaW.PrintLast Go.Proofs.YtjjnfobeeflnhaaW.PrintMore

def Opens {α : Type} (P : Program) (d : Kd α) (t : TypeId) (wf : α → Prop) : Prop :=
  ∀ (H : Type) (enc : TypeId × Value → H) (w : World) (base fuel : Nat) (spare : Nat → Bool) (held : Bool) (cs : List Value) (x : DataW H × List MemPlace), cs.length = d.sz →
    DataW.trod enc P w base spare held fuel t cs = some x → (x.1.weights P t).all (· ≤ reachBytes) = true → ∃ a, d.K w a cs ∧ wf a

theorem op_int {P : Program} {t : TypeId} {k : IntKind} (ht : P.underlying t = some (.int k)) : Opens P (Kd.int k) t (fun n => (Lit.int k n).wf = true) := by
  intro H enc w base fuel spare held cs x _ h _
  obtain ⟨n, rfl, _, hw⟩ := DataW.trod_int ht h
  exact ⟨n, rfl, hw⟩

theorem op_bool {P : Program} {t : TypeId} (ht : P.underlying t = some .bool) : Opens P Kd.bool t (fun _ => True) := by
  intro H enc w base fuel spare held cs x _ h _
  obtain ⟨n, rfl, _⟩ := DataW.trod_bool ht h
  exact ⟨n, rfl, trivial⟩

theorem all_weights {H : Type} {P : Program} {e : TypeId} {p : Nat → Bool} : ∀ (ds : List (DataW H)), (DataW.weightsAll P e ds).all p = true → ∀ d ∈ ds, (d.weights P e).all p = true
  | [], _, d, hd => by simp at hd
  | a :: r, h, d, hd => by
    unfold DataW.weightsAll at h
    rw [List.all_append, Bool.and_eq_true] at h
    rcases List.mem_cons.1 hd with rfl | hd
    · exact h.1
    · exact all_weights r h.2 d hd

theorem add_add_ (a : Addr) (i j : Nat) : a.add (i + j) = (a.add i).add j := by
  cases a
  unfold Addr.add
  rcases Nat.eq_zero_or_pos i with hi | hi <;> rcases Nat.eq_zero_or_pos j with hj | hj
  · simp [hi, hj]
  · simp [hi, show j ≠ 0 by omega]
  · simp [hj, show i ≠ 0 by omega]
  · simp [show i ≠ 0 by omega, show j ≠ 0 by omega, Nat.add_assoc]

theorem pick {β : Type} {p : Nat → β → Prop} : ∀ n, (∀ i : Nat, i < n → ∃ q, p i q) → ∃ l : List β, l.length = n ∧ ∀ (i : Nat) (q : β), l[i]? = some q → p i q
  | 0, _ => ⟨[], rfl, fun i q h => by simp at h⟩
  | n + 1, h => by
    obtain ⟨l, hl, hp⟩ := pick n (fun i hi => h i (by omega))
    obtain ⟨q, hq⟩ := h n (by omega)
    refine ⟨l ++ [q], by simp [hl], fun i r hr => ?_⟩
    rcases Nat.lt_or_ge i l.length with hi | hi
    · rw [List.getElem?_append_left hi] at hr
      exact hp i r hr
    · rw [List.getElem?_append_right hi] at hr
      have h0 : i - l.length = 0 := by
        rcases Nat.eq_zero_or_pos (i - l.length) with h' | h'
        · exact h'
        · rw [List.getElem?_eq_none (by simp; omega)] at hr; cases hr
      rw [h0] at hr
      obtain rfl : q = r := by simpa using hr
      have : i = n := by omega
      rw [this]; exact hq

theorem weights_at {H : Type} {P : Program} {p : Nat → Bool} : ∀ (ts : List TypeId) (ds : List (DataW H)) (j : Nat) {t : TypeId} {d : DataW H}, (DataW.weightsEach P ts ds).all p = true → ts[j]? = some t → ds[j]? = some d → (d.weights P t).all p = true
  | [], _, _, _, _, _, ht, _ => by simp at ht
  | _ :: _, [], _, _, _, _, _, hd => by simp at hd
  | t :: ts, d :: ds, j, t', d', h, ht, hd => by
    unfold DataW.weightsEach at h
    rw [List.all_append, Bool.and_eq_true] at h
    match j, ht, hd with
    | 0, ht, hd =>
      obtain rfl : t = t' := by simpa using ht
      obtain rfl : d = d' := by simpa using hd
      exact h.1
    | j + 1, ht, hd => exact weights_at ts ds j h.2 (by simpa using ht) (by simpa using hd)

theorem op_slice {α : Type} {P : Program} {d : Kd α} {t e : TypeId} {B : Nat} {wf : α → Prop} (ht : P.underlying t = some (.slice e)) (hB : P.bytesOf e = B) (hsz : P.cellsOf e = d.sz) (he : Opens P d e wf) :
    Opens P (Kd.slice e d) t (fun l => l.length ≤ maxLen ∧ l.length * B ≤ 140737488351232 ∧ ∀ a ∈ l, wf a) := by
  intro H enc w base fuel spare held cs x _ h hw
  rcases Go.Deep.open_slice ht h with ⟨rfl, _⟩ | ⟨a, len, cap, m, n, D, Pl, rfl, hb, hl, hm, hmm, rfl, hx⟩
  · exact ⟨[], ⟨none, 0, rfl, Nat.le_refl _, rfl, Nat.zero_le _, fun h0 => absurd h0 (by simp)⟩, by simp, by simp, fun a ha => by simp at ha⟩
  · have hlm : len ≤ m := by rw [hmm]; split <;> omega
    simp only [DataW.weights, ht, List.all_cons, List.all_append, Bool.and_eq_true, List.length_map, List.length_range] at hw
    obtain ⟨hw0, hw1, _⟩ := hw
    have each : ∀ i : Nat, i < len → ∃ q : α, wf q ∧ ∃ c : List Value, c.length = d.sz ∧ d.K w q c ∧ ∀ j u, c[j]? = some u → w.cell? (a.add (i * d.sz + j)) = some u := by
      intro i hi
      obtain ⟨cs', h1, h2⟩ := hx i (by omega)
      rw [hsz] at h1
      obtain ⟨_, hlen, hcell⟩ := World.cells?_some h1
      obtain ⟨y, hK, hwf⟩ := he H enc w base n spare held cs' _ hlen h2 (all_weights _ hw1 _ (List.mem_map.2 ⟨i, List.mem_range.2 hi, rfl⟩))
      refine ⟨y, hwf, cs', hlen, hK, fun j u hu => ?_⟩
      have hj : j < d.sz := by
        rw [← hlen]
        rcases Nat.lt_or_ge j cs'.length with h' | h'
        · exact h'
        · rw [List.getElem?_eq_none h'] at hu; cases hu
      have := hcell j hj
      rw [hu] at this
      rw [show a.add (i * d.sz + j) = (a.add (i * d.sz)).add j from add_add_ _ _ _]
      exact this
    obtain ⟨l, rfl, hl2⟩ := pick len each
    refine ⟨l, ⟨some a, cap, rfl, hl, rfl, Nat.le_trans hl hm, fun _ => ⟨a, rfl, fun j p hj => (hl2 j p hj).2⟩⟩, Nat.le_trans hl hm, ?_, ?_⟩
    · have hw2 := of_decide_eq_true hw0
      rw [hB] at hw2
      exact Nat.le_trans (Nat.mul_le_mul_right _ (by omega)) hw2
    · intro y hy
      obtain ⟨j, hj⟩ := List.mem_iff_getElem?.1 hy
      exact (hl2 j y hj).1

/-- Fields in line, from the place o on. -/
def OpL {β : Type} (P : Program) (d : Kd β) (fs : List Field) (o : Nat) (wf : β → Prop) : Prop :=
  ∀ (H : Type) (enc : TypeId × Value → H) (w : World) (base n : Nat) (spare : Nat → Bool) (held : Bool) (cs : List Value) (xs : List (DataW H × List MemPlace)), cs.length = d.sz → xs.length = fs.length →
    (∀ (i : Nat) (f : Field), fs[i]? = some f → DataW.trod enc P w base spare held n f.type ((cs.drop (f.offset - o)).take (P.cellsOf f.type)) = xs[i]?) →
    (DataW.weightsEach P (fs.map (·.type)) (xs.map (·.1))).all (· ≤ reachBytes) = true → ∃ a, d.K w a cs ∧ wf a

theorem opL_one {β : Type} {P : Program} {d : Kd β} {f : Field} {o : Nat} {wf : β → Prop} (ho : f.offset = o) (hc : P.cellsOf f.type = d.sz) (h : Opens P d f.type wf) : OpL P d [f] o wf := by
  intro H enc w base n spare held cs xs hl hx hf hw
  match xs, hx with
  | [y], _ =>
    have h0 := hf 0 f rfl
    rw [ho, Nat.sub_self, List.drop_zero, hc, ← hl, List.take_length] at h0
    simp only [List.map_cons, List.map_nil, DataW.weightsEach, List.append_nil] at hw
    exact h H enc w base n spare held cs y hl h0 hw

theorem opL_cons {α β : Type} {P : Program} {d1 : Kd α} {d : Kd β} {f : Field} {fs : List Field} {o : Nat} {wf1 : α → Prop} {wf : β → Prop} (ho : f.offset = o) (hc : P.cellsOf f.type = d1.sz) (h1 : Opens P d1 f.type wf1)
    (hfs0 : (fs.all fun g => decide (o + d1.sz ≤ g.offset)) = true) (h : OpL P d fs (o + d1.sz) wf) : OpL P (Kd.pair d1 d) (f :: fs) o (fun x => wf1 x.1 ∧ wf x.2) := by
  have hfs : ∀ g ∈ fs, o + d1.sz ≤ g.offset := fun g hg => of_decide_eq_true (List.all_eq_true.1 hfs0 g hg)
  intro H enc w base n spare held cs xs hl hx hf hw
  have hl' : cs.length = d1.sz + d.sz := hl
  match xs, hx with
  | y :: ys, hx =>
    have h0 := hf 0 f rfl
    rw [ho, Nat.sub_self, List.drop_zero, hc] at h0
    simp only [List.map_cons, DataW.weightsEach, List.all_append, Bool.and_eq_true] at hw
    obtain ⟨a, ka, wa⟩ := h1 H enc w base n spare held (cs.take d1.sz) y (by rw [List.length_take]; omega) h0 hw.1
    obtain ⟨b, kb, wb⟩ := h H enc w base n spare held (cs.drop d1.sz) ys (by rw [List.length_drop]; omega) (by simpa using hx) (fun i g hg => by
      have := hf (i + 1) g (by simpa using hg)
      rw [List.drop_drop]
      have hg2 := hfs g (List.mem_of_getElem? hg)
      rw [show d1.sz + (g.offset - (o + d1.sz)) = g.offset - o by omega, this]
      simp) hw.2
    exact ⟨(a, b), ⟨cs.take d1.sz, cs.drop d1.sz, (List.take_append_drop _ _).symm, ka, kb⟩, wa, wb⟩

theorem op_struct {α β : Type} {P : Program} {d : Kd α} {t : TypeId} {fs : Array Field} {wf : α → Prop} {p : β → α} (g : α → β) (hg : ∀ a, p (g a) = a) (ht : P.underlying t = some (.struct fs)) (h : OpL P d fs.toList 0 wf) :
    Opens P (Kd.iso d p) t (fun b => wf (p b)) := by
  intro H enc w base fuel spare held cs x hl hx hw
  obtain ⟨xs, n, rfl, rfl, _, hxl, hf⟩ := DataW.trod_struct ht hx
  simp only [DataW.weights, ht] at hw
  obtain ⟨a, ka, wa⟩ := h H enc w base n spare held cs xs hl (by simpa using hxl) (fun i f hi => by
    rw [Nat.sub_zero]
    exact hf i f (by simpa using hi)) hw
  refine ⟨g a, ?_, ?_⟩
  · show d.K w (p (g a)) cs
    rw [hg]; exact ka
  · show wf (p (g a))
    rw [hg]; exact wa

theorem op_agg {α : Type} {P : Program} {d : Kd α} {t : TypeId} {fs : Array Field} {wf : α → Prop} (ht : P.underlying t = some (.struct fs)) (h : OpL P d fs.toList 0 wf) : Opens P d t wf :=
  op_struct (d := d) (p := fun a => a) (fun a => a) (fun _ => rfl) ht h

theorem okWide_agg {P : Program} {W : World} {r : Reach} {b0 : Nat} {t : TypeId} {fs : Array Field} {v : Value} (ht : P.underlying t = some (.struct fs)) (h : Value.okWide P W r b0 t v) : ∃ cs, v = .agg cs ∧ cs.size = P.cellsOf t := by
  simp only [Value.okWide, ht] at h
  obtain ⟨cs, h1, h2, _⟩ := h
  exact ⟨cs, h1, h2⟩

/-- One argument. -/
theorem arg {α H : Type} {enc : TypeId × Value → H} {P : Program} {d : Kd α} {t : TypeId} {wf : α → Prop} (h : Opens P d t wf) {w : World} {base : Nat} {spare : Nat → Bool} {held : Bool} {v : Value} {x : DataW H} {ps : List MemPlace}
    (hl : v.cells.toList.length = d.sz) (hv : DataW.Trod enc P w base spare held t v x ps) {ts : List TypeId} {ds : List (DataW H)} {j : Nat} (hsz : (DataW.weightsEach P ts ds).all (· ≤ reachBytes) = true) (ht : ts[j]? = some t) (hd : ds[j]? = some x) :
    ∃ a, d.K w a v.cells.toList ∧ wf a := by
  obtain ⟨fuel, hf⟩ := hv
  exact h H enc w base fuel spare held _ _ hl hf (weights_at ts ds j hsz ht hd)

end Go.Proofs.Ytjjnfobeeflnhaa.Op

/- Three closed facts over the whole program, with its header's words as numbers. -/
namespace Go.Proofs.Ytjjnfobeeflnhaa.Facts
theorem toList_of (s : String) (l : List Char) (h : s = String.ofList l) : s.toList = l := by rw [h, String.toList_ofList]
def glue : List (List Char) → List Char
  | [] => []
  | [w] => w
  | w :: v :: r => w ++ Char.ofNat 32 :: glue (v :: r)
theorem signs_space (r : List Char) : wordsSigns (Char.ofNat 32 :: r) = [] :: wordsSigns r := rfl
theorem signs_cons (c : Char) (r : List Char) (h : c ≠ Char.ofNat 32) (w : List Char) (ws : List (List Char)) (e : wordsSigns r = w :: ws) : wordsSigns (c :: r) = (c :: w) :: ws := by
  rw [wordsSigns]
  · rw [e]
  · exact h
theorem signs_one : ∀ (w : List Char), (∀ c ∈ w, c ≠ Char.ofNat 32) → wordsSigns w = [w]
  | [], _ => rfl
  | c :: w, h => signs_cons c w (h c (List.mem_cons_self ..)) _ _ (signs_one w (fun d hd => h d (List.mem_cons_of_mem _ hd)))
theorem signs_more (r : List Char) : ∀ (w : List Char), (∀ c ∈ w, c ≠ Char.ofNat 32) → wordsSigns (w ++ Char.ofNat 32 :: r) = w :: wordsSigns r
  | [], _ => signs_space r
  | c :: w, h => signs_cons c _ (h c (List.mem_cons_self ..)) _ _ (signs_more r w (fun d hd => h d (List.mem_cons_of_mem _ hd)))
theorem signs_glue : ∀ (ws : List (List Char)), ws ≠ [] → (∀ w ∈ ws, ∀ c ∈ w, c ≠ Char.ofNat 32) → wordsSigns (glue ws) = ws
  | [], h, _ => absurd rfl h
  | [w], _, h => signs_one w (h w (List.mem_cons_self ..))
  | w :: v :: r, _, h => by
    rw [glue, signs_more _ w (h w (List.mem_cons_self ..)), signs_glue (v :: r) (by simp) (fun u hu => h u (List.mem_cons_of_mem _ hu))]
def W : List (List Char) := (List.map (List.map Char.ofNat) [[104, 97, 114, 110, 101, 115, 115],
  [56, 98, 98, 99, 100, 53, 56, 100, 55, 50, 48, 97, 53, 56, 100, 57, 52, 98, 55, 57, 101, 52, 50, 101, 52, 51, 102, 99, 99, 49, 53, 53, 57, 54, 97, 50, 97, 48, 101, 99, 97, 98, 49, 48, 54, 55, 52, 48, 102, 55, 97, 48, 53, 52, 57, 55, 52, 100, 97, 52, 102, 54, 100, 56],
  [99, 117, 116],
  [97, 116],
  [106, 117, 110, 116, 111, 47, 106, 117, 110, 116, 111, 108, 97, 119, 48, 55, 46, 84, 119, 105, 99, 101, 67, 104, 101, 99, 107, 115],
  [106, 117, 110, 116, 111, 47, 106, 117, 110, 116, 111, 108, 97, 119, 48, 55, 46, 84, 119, 105, 99, 101, 77, 97, 107, 101, 115],
  [106, 117, 110, 116, 111, 47, 106, 117, 110, 116, 111, 108, 97, 119, 48, 55, 46, 84, 119, 105, 99, 101, 86, 97, 108, 117, 101, 115],
  [106, 117, 110, 116, 111, 47, 106, 117, 110, 116, 111, 108, 97, 119, 48, 55, 46, 84, 119, 105, 99, 101, 80, 114, 111, 100, 117, 99, 116],
  [106, 117, 110, 116, 111, 47, 106, 117, 110, 116, 111, 108, 97, 119, 48, 55, 46, 84, 119, 105, 99, 101, 74, 111, 105, 110, 115],
  [106, 117, 110, 116, 111, 47, 106, 117, 110, 116, 111, 108, 97, 119, 48, 55, 46, 84, 119, 105, 99, 101, 79, 110, 101],
  [106, 117, 110, 116, 111, 47, 106, 117, 110, 116, 111, 108, 97, 119, 48, 55, 46, 84, 119, 105, 99, 101, 77, 111, 118, 101, 115],
  [106, 117, 110, 116, 111, 47, 106, 117, 110, 116, 111, 108, 97, 119, 48, 52, 46, 83, 104, 97, 114, 101, 83, 101, 116, 117, 112, 115],
  [106, 117, 110, 116, 111, 47, 106, 117, 110, 116, 111, 108, 97, 119, 48, 52, 46, 83, 104, 97, 114, 101, 77, 97, 107, 101, 115],
  [106, 117, 110, 116, 111, 47, 106, 117, 110, 116, 111, 108, 97, 119, 48, 52, 46, 83, 104, 97, 114, 101, 86, 97, 108, 117, 101, 115],
  [106, 117, 110, 116, 111, 47, 106, 117, 110, 116, 111, 108, 97, 119, 48, 52, 46, 83, 104, 97, 114, 101, 77, 111, 118, 101, 115],
  [106, 117, 110, 116, 111, 47, 106, 117, 110, 116, 111, 108, 97, 119, 48, 52, 46, 83, 104, 97, 114, 101, 78, 111, 116, 104, 105, 110, 103],
  [106, 117, 110, 116, 111, 47, 106, 117, 110, 116, 111, 108, 97, 119, 48, 52, 46, 83, 104, 97, 114, 101, 79, 110, 108, 121],
  [106, 117, 110, 116, 111, 47, 106, 117, 110, 116, 111, 108, 97, 119, 48, 52, 46, 83, 104, 97, 114, 101, 84, 104, 101, 114, 101],
  [106, 117, 110, 116, 111, 47, 106, 117, 110, 116, 111, 108, 97, 119, 48, 52, 46, 83, 104, 97, 114, 101, 83, 117, 109, 115],
  [106, 117, 110, 116, 111, 47, 106, 117, 110, 116, 111, 108, 97, 119, 48, 52, 46, 83, 104, 97, 114, 101, 70, 105, 116, 115],
  [106, 117, 110, 116, 111, 47, 106, 117, 110, 116, 111, 108, 97, 119, 48, 55, 46, 84, 119, 105, 99, 101, 67, 117, 116, 115],
  [106, 117, 110, 116, 111, 47, 106, 117, 110, 116, 111, 108, 97, 119, 48, 55, 46, 84, 119, 105, 99, 101, 77, 111, 118, 101, 100],
  [106, 117, 110, 116, 111, 47, 106, 117, 110, 116, 111, 108, 97, 119, 48, 50, 46, 80, 111, 108, 121, 84, 104, 114, 111, 117, 103, 104],
  [106, 117, 110, 116, 111, 47, 106, 117, 110, 116, 111, 108, 97, 119, 48, 50, 46, 80, 111, 108, 121, 87, 101, 105, 103, 104, 116, 115],
  [106, 117, 110, 116, 111, 47, 106, 117, 110, 116, 111, 108, 97, 119, 48, 50, 46, 80, 111, 108, 121, 65, 119, 97, 121],
  [106, 117, 110, 116, 111, 47, 106, 117, 110, 116, 111, 108, 97, 119, 48, 50, 46, 80, 111, 108, 121, 83, 108, 111, 112, 101, 115],
  [106, 117, 110, 116, 111, 47, 106, 117, 110, 116, 111, 108, 97, 119, 48, 50, 46, 80, 111, 108, 121, 80, 114, 111, 100, 117, 99, 116, 115],
  [106, 117, 110, 116, 111, 47, 106, 117, 110, 116, 111, 108, 97, 119, 48, 50, 46, 80, 111, 108, 121, 83, 117, 109, 115],
  [106, 117, 110, 116, 111, 47, 106, 117, 110, 116, 111, 108, 97, 119, 48, 50, 46, 80, 111, 108, 121, 66, 97, 99, 107],
  [106, 117, 110, 116, 111, 47, 106, 117, 110, 116, 111, 108, 97, 119, 48, 50, 46, 80, 111, 108, 121, 86, 97, 108, 117, 101, 115],
  [106, 117, 110, 116, 111, 47, 106, 117, 110, 116, 111, 108, 97, 119, 48, 50, 46, 80, 111, 108, 121, 82, 111, 111, 116, 115],
  [106, 117, 110, 116, 111, 47, 106, 117, 110, 116, 111, 108, 97, 119, 48, 50, 46, 80, 111, 108, 121, 70, 101, 119],
  [106, 117, 110, 116, 111, 47, 106, 117, 110, 116, 111, 108, 97, 119, 48, 50, 46, 80, 111, 108, 121, 86, 97, 108, 117, 101, 100],
  [106, 117, 110, 116, 111, 47, 106, 117, 110, 116, 111, 108, 97, 119, 48, 50, 46, 80, 111, 108, 121, 81, 117, 111, 116, 105, 101, 110, 116, 115],
  [106, 117, 110, 116, 111, 47, 106, 117, 110, 116, 111, 108, 97, 119, 48, 50, 46, 80, 111, 108, 121, 65, 112, 97, 114, 116],
  [106, 117, 110, 116, 111, 47, 106, 117, 110, 116, 111, 108, 97, 119, 48, 52, 46, 83, 104, 97, 114, 101, 83, 101, 99, 114, 101, 116, 115],
  [106, 117, 110, 116, 111, 47, 106, 117, 110, 116, 111, 108, 97, 119, 48, 52, 46, 83, 104, 97, 114, 101, 66, 97, 99, 107]])
set_option maxRecDepth 100000 in
theorem head : Try.pinned.checked.prog.initOrder.toList = glue W := toList_of _ _ (by kernel_rfl)
theorem plain : (W.all fun w => w.all fun c => c.toNat != 32) = true := by kernel_rfl
theorem signs : wordsSigns Try.pinned.checked.prog.initOrder.toList = W := by
  rw [head]
  refine signs_glue W (by simp [W]) fun w hw c hc e => ?_
  have h := List.all_eq_true.1 (List.all_eq_true.1 plain w hw) c hc
  rw [e] at h
  cases h
theorem words : behindMainWord (wordsSigns Try.pinned.checked.prog.initOrder.toList) = W.drop 2 := by
  rw [signs]
  kernel_rfl
theorem lifts : Try.pinned.checked.prog.headLifts = [] := by
  unfold Program.headLifts
  rw [words]
  kernel_rfl
theorem final : Try.pinned.checked.prog.liftsFinal = false := by
  unfold Program.liftsFinal
  rw [words, lifts]
  kernel_rfl
theorem made_of (P : Program) (rest : List (List Char)) (h : behindMainWord (wordsSigns P.initOrder.toList) = [Char.ofNat 99, Char.ofNat 117, Char.ofNat 116] :: rest) : P.make = some .cut := by
  unfold Program.make
  rw [h]
  kernel_rfl
theorem enters_of (P : Program) (rest : List (List Char)) (h : behindMainWord (wordsSigns P.initOrder.toList) = [Char.ofNat 99, Char.ofNat 117, Char.ofNat 116] :: rest) (hl : P.laysLater = false) (hb : P.bearsReflect = false) (hd : P.doorFits [] = true)
    (hs : stripLifts liftWords ([Char.ofNat 99, Char.ofNat 117, Char.ofNat 116] :: rest) = ([], [Char.ofNat 99, Char.ofNat 117, Char.ofNat 116] :: rest)) : P.mayEnter = true := by
  unfold Program.mayEnter
  rw [h]
  simp only [hs, hl, hb, hd]
  kernel_rfl
theorem made : Try.pinned.checked.prog.make = some .cut := made_of _ (W.drop 3) (words.trans (by kernel_rfl))
theorem enters : Try.pinned.checked.prog.mayEnter = true := enters_of _ (W.drop 3) (words.trans (by kernel_rfl)) (by kernel_rfl) (by kernel_rfl) (by kernel_rfl) (by kernel_rfl)
end Go.Proofs.Ytjjnfobeeflnhaa.Facts

/- Both tests of a prime and both tests of a setup answer alike, and what they answer. -/
namespace Go.Proofs.Ytjjnfobeeflnhaa.L
open Go.RowKit Go.Proofs.YtjjnfobeeflnhaaW.PrintWords Go.Proofs.Ytjjnfobeeflnhaa.J
set_option linter.unusedVariables false
set_option linter.unusedSimpArgs false

theorem u64_small {n : Int} (h0 : 0 ≤ n) (h1 : n < 18446744073709551616) : IntKind.u64.wrap n = n := by
  simp [IntKind.wrap, IntKind.signed, IntKind.bits]
  omega
theorem w64_small {n : Int} (h0 : -9223372036854775808 ≤ n) (h1 : n < 9223372036854775808) : wrap64 n = n := by
  unfold wrap64
  omega

/-- No divisor from 2 on whose square is at most a. -/
def free (a : Int) : Prop := ∀ y : Fin 257, 2 ≤ y.val → ((y.val : Int) * (y.val : Int)) ≤ a → a % (y.val : Int) ≠ 0
def isP (a : Int) : Bool := decide (3 ≤ a ∧ a ≤ 65537 ∧ ∀ y : Fin 257, 2 ≤ y.val → ((y.val : Int) * (y.val : Int)) ≤ a → a % (y.val : Int) ≠ 0)
theorem free_of {a : Int} (h : a ≤ 65537) (hf : ∀ y : Fin 257, 2 ≤ y.val → ((y.val : Int) * (y.val : Int)) ≤ a → a % (y.val : Int) ≠ 0) (y : Int) (h2 : 2 ≤ y) (hy : y * y ≤ a) : a % y ≠ 0 := by
  have hb : y < 257 := by
    rcases Int.lt_or_le y 257 with h' | h'
    · exact h'
    · have : 257 * 257 ≤ y * y := Int.mul_le_mul h' h' (by omega) (by omega)
      omega
  have := hf ⟨y.toNat, by omega⟩ (show 2 ≤ y.toNat by omega)
  simp only at this
  rw [show ((y.toNat : Nat) : Int) = y by omega] at this
  exact this hy
theorem isP_iff (a : Int) : isP a = true ↔ 3 ≤ a ∧ a ≤ 65537 ∧ ∀ y : Int, 2 ≤ y → y * y ≤ a → a % y ≠ 0 := by
  unfold isP
  rw [decide_eq_true_iff]
  constructor
  · rintro ⟨h1, h2, h3⟩
    exact ⟨h1, h2, fun y hy => free_of h2 h3 y hy⟩
  · rintro ⟨h1, h2, h3⟩
    exact ⟨h1, h2, fun y hy hq => h3 y.val (by omega) hq⟩

theorem sq_small {x : Int} (h0 : 0 ≤ x) (h1 : x ≤ 300) : 0 ≤ x * x ∧ x * x ≤ 90000 :=
  ⟨Int.mul_nonneg h0 h0, Int.mul_le_mul h1 h1 h0 (by omega)⟩

theorem odd_loop (a : Int) (h3 : 3 ≤ a) (ha : a ≤ 65537) (hodd : a % 2 = 1) : ∀ (m : Nat) (x : Int), 3 ≤ x → x % 2 = 1 → x + 2 * m = 259 → (∀ y : Int, 2 ≤ y → y < x → y * y ≤ a → a % y ≠ 0) → Ev (fun k => field_Is.l0 k a x) (isP a)
  | 0, x, h2, hxo, hx, hy => by
    have hb : isP a = true := (isP_iff a).2 ⟨h3, ha, fun y y2 yq => hy y y2 (by
      rcases Int.lt_or_le y x with h' | h'
      · exact h'
      · have : 257 * 257 ≤ y * y := Int.mul_le_mul (by omega) (by omega) (by omega) (by omega)
        omega) yq⟩
    rw [hb]
    refine Ev.step (f := fun k => some true) (fun k => ?_) (Ev.now _)
    have hq := sq_small (x := x) (by omega) (by omega)
    have : ¬ (x * x ≤ a) := by
      have : 257 * 257 ≤ x * x := Int.mul_le_mul (by omega) (by omega) (by omega) (by omega)
      omega
    simp only [field_Is.l0]
    rw [u64_small hq.1 (by omega), if_neg this]
  | m + 1, x, h2, hxo, hx, hy => by
    have hq := sq_small (x := x) (by omega) (by omega)
    by_cases hle : x * x ≤ a
    · by_cases hd : a % x = 0
      · have hb : isP a = false := by
          rw [Bool.eq_false_iff]
          intro h'
          exact ((isP_iff a).1 h').2.2 x (by omega) hle hd
        rw [hb]
        refine Ev.step (f := fun k => some false) (fun k => ?_) (Ev.now _)
        simp only [field_Is.l0]
        rw [u64_small hq.1 (by omega), if_pos hle, if_neg (show ¬ x = 0 by omega), if_pos (by rw [Int.tmod_eq_emod_of_nonneg (by omega)]; exact hd)]
      · refine Ev.step (f := fun k => field_Is.l0 k a (x + 2)) (fun k => ?_) (odd_loop a h3 ha hodd m (x + 2) (by omega) (by omega) (by omega) fun y y2 yx yq => ?_)
        · conv => lhs; simp only [field_Is.l0]
          rw [u64_small hq.1 (by omega), if_pos hle, if_neg (show ¬ x = 0 by omega), if_neg (by rw [Int.tmod_eq_emod_of_nonneg (by omega)]; exact hd), u64_small (show 0 ≤ x + 2 by omega) (by omega)]
        · rcases Int.lt_or_le y x with h' | h'
          · exact hy y y2 h' yq
          · rcases Int.lt_or_le x y with h'' | h''
            · obtain rfl : y = x + 1 := by omega
              intro h0
              have h1 : (2 : Int) ∣ a := Int.dvd_trans (Int.dvd_of_emod_eq_zero (by omega)) (Int.dvd_of_emod_eq_zero h0)
              have := Int.emod_eq_zero_of_dvd h1
              omega
            · obtain rfl : y = x := by omega
              exact hd
    · have hb : isP a = true := (isP_iff a).2 ⟨h3, ha, fun y y2 yq => hy y y2 (by
        rcases Int.lt_or_le y x with h' | h'
        · exact h'
        · have : x * x ≤ y * y := Int.mul_le_mul h' h' (by omega) (by omega)
          omega) yq⟩
      rw [hb]
      refine Ev.step (f := fun k => some true) (fun k => ?_) (Ev.now _)
      simp only [field_Is.l0]
      rw [u64_small hq.1 (by omega), if_neg hle]

theorem not_isP {a : Int} (h : ¬ (3 ≤ a ∧ a ≤ 65537)) : isP a = false := by
  rw [Bool.eq_false_iff]
  intro h'
  have := (isP_iff a).1 h'
  exact h ⟨this.1, this.2.1⟩

theorem field_is (a : Int) : Ev (fun k => field_Is.f k a) (isP a) := by
  by_cases h3 : a < 3
  · rw [not_isP (by omega)]
    refine Ev.step (f := fun k => some false) (fun k => ?_) (Ev.now _)
    simp [field_Is.f, field_Is.j0, h3]
  · by_cases hb : a > 65537
    · rw [not_isP (by omega)]
      refine Ev.step (f := fun k => some false) (fun k => ?_) (Ev.now _)
      simp [field_Is.f, field_Is.j0, h3, hb]
    · by_cases ho : a % 2 = 0
      · have hp : isP a = false := by
          rw [Bool.eq_false_iff]
          intro h'
          exact ((isP_iff a).1 h').2.2 2 (by omega) (by omega) ho
        rw [hp]
        refine Ev.step (f := fun k => some false) (fun k => ?_) (Ev.now _)
        have ht : Int.tmod a 2 = 0 := by rw [Int.tmod_eq_emod_of_nonneg (by omega)]; exact ho
        simp [field_Is.f, field_Is.j0, h3, hb, ht]
      · refine Ev.step (f := fun k => field_Is.l0 k a 3) (fun k => ?_) (odd_loop a (by omega) (by omega) (by omega) 128 3 (by omega) (by omega) (by omega) fun y y2 yx yq => ?_)
        · have ht : ¬ Int.tmod a 2 = 0 := by rw [Int.tmod_eq_emod_of_nonneg (by omega)]; exact ho
          simp [field_Is.f, field_Is.j0, h3, hb, ht]
        · obtain rfl : y = 2 := by omega
          exact ho

/-- What both tests of a setup answer: 0 or 2. -/
def setupV (p n t : Int) : Int := if isP p = true ∧ 1 ≤ n ∧ n ≤ 13 ∧ 0 ≤ t ∧ 4 * t + 1 ≤ n ∧ n < p then 0 else 2

theorem setupV_ok {p n t : Int} (h : setupV p n t = 0) : isP p = true ∧ 1 ≤ n ∧ n ≤ 13 ∧ 0 ≤ t ∧ 4 * t + 1 ≤ n ∧ n < p := by
  unfold setupV at h
  split at h
  · assumption
  · cases h

theorem share_setup (p n t : Int) : Ev (fun k => share_Setup.f k p n t) (setupV p n t) := by
  unfold share_Setup.f
  refine Ev.bind (field_is p) ?_
  unfold setupV
  by_cases hp : isP p = true
  · have h3 := ((isP_iff p).1 hp)
    simp only [hp, if_true, true_and]
    by_cases h1 : n < 1
    · rw [if_pos h1, if_neg (by omega)]; exact Ev.now _
    rw [if_neg h1]
    by_cases h2 : n > 13
    · rw [if_pos h2, if_neg (by omega)]; exact Ev.now _
    rw [if_neg h2]
    by_cases h4 : t < 0
    · rw [if_pos h4, if_neg (by omega)]; exact Ev.now _
    rw [if_neg h4]
    by_cases h5 : t > n
    · rw [if_pos h5, if_neg (by omega)]; exact Ev.now _
    rw [if_neg h5, w64_small (n := 4 * t) (by omega) (by omega), w64_small (by omega) (by omega)]
    by_cases h6 : 4 * t + 1 > n
    · rw [if_pos h6, if_neg (by omega)]; exact Ev.now _
    rw [if_neg h6, u64_small (by omega) (by omega)]
    by_cases h7 : p ≤ n
    · rw [if_pos h7, if_neg (by omega)]; exact Ev.now _
    · rw [if_neg h7, if_pos (by omega)]; exact Ev.now _
  · rw [if_neg hp, if_neg (fun h => hp h.1)]
    exact Ev.now _

/-- What the tests of a row answer: 0 or 2. -/
def belowV (p : Int) (l : List Int) : Int := if ∀ x ∈ l, x < p then 0 else 2

theorem below_loop (p : Int) (l : List Int) (hl : l.length ≤ maxLen) : ∀ (m i : Nat), i + m = l.length → (∀ x ∈ l.take i, x < p) → Ev (fun k => field_Below.l0 k p l (l.length : Int) (i : Int)) (belowV p l)
  | 0, i, hi, hx => by
    have hv : belowV p l = 0 := by
      unfold belowV
      rw [if_pos]
      rw [List.take_of_length_le (by omega)] at hx
      exact hx
    rw [hv]
    refine Ev.step (f := fun k => some 0) (fun k => ?_) (Ev.now _)
    simp only [field_Below.l0]
    rw [if_neg (by omega)]
  | m + 1, i, hi, hx => by
    have hm : (l.length : Int) ≤ 9223372036854775807 := by simp only [maxLen] at hl; omega
    have hlt : i < l.length := by omega
    have hr : rd l (i : Int) = l[i] := by simp [rd, List.getD_eq_getElem?_getD, hlt]
    by_cases hge : l[i] ≥ p
    · have hv : belowV p l = 2 := by
        unfold belowV
        rw [if_neg]
        intro h'
        have := h' _ (List.getElem_mem hlt)
        omega
      rw [hv]
      refine Ev.step (f := fun k => some 2) (fun k => ?_) (Ev.now _)
      simp only [field_Below.l0]
      rw [if_pos (by omega), if_pos (by omega), if_pos (by omega), if_pos (by rw [hr]; exact hge)]
    · refine Ev.step (f := fun k => field_Below.l0 k p l (l.length : Int) ((i + 1 : Nat) : Int)) (fun k => ?_) (below_loop p l hl m (i + 1) (by omega) fun x hx' => ?_)
      · conv => lhs; simp only [field_Below.l0]
        rw [if_pos (by omega), if_pos (by omega), if_pos (by omega), if_neg (by rw [hr]; exact hge), w64_small (by omega) (by omega)]
        rfl
      · rw [List.take_add_one, List.mem_append] at hx'
        rcases hx' with h' | h'
        · exact hx x h'
        · rw [List.getElem?_eq_getElem hlt] at h'
          simp only [Option.toList_some, List.mem_singleton] at h'
          rw [h']; omega

theorem field_below (p : Int) (l : List Int) (hl : l.length ≤ maxLen) : Ev (fun k => field_Below.f k p l) (belowV p l) :=
  below_loop p l hl l.length 0 (by omega) (fun x hx => by simp at hx)

end Go.Proofs.Ytjjnfobeeflnhaa.L

/- Both ways to evaluate a polynomial answer alike, and what they answer. -/
namespace Go.Proofs.Ytjjnfobeeflnhaa.L
open Go.RowKit Go.Proofs.YtjjnfobeeflnhaaW.PrintWords Go.Proofs.Ytjjnfobeeflnhaa.J
set_option linter.unusedVariables false
set_option linter.unusedSimpArgs false

theorem mul_small {p a b : Int} (hp : p ≤ 65537) (ha : 0 ≤ a) (ha' : a < p) (hb : 0 ≤ b) (hb' : b < p) : 0 ≤ a * b ∧ a * b < 18446744073709551616 := by
  have h1 : a * b ≤ 65537 * 65537 := Int.mul_le_mul (by omega) (by omega) hb (by omega)
  exact ⟨Int.mul_nonneg ha hb, by omega⟩

theorem times_at {p a b : Int} (h0 : 0 < p) (hp : p ≤ 65537) (ha : 0 ≤ a) (ha' : a < p) (hb : 0 ≤ b) (hb' : b < p) : field_Times.f p a b = some (a * b % p) := by
  obtain ⟨h1, h2⟩ := mul_small hp ha ha' hb hb'
  unfold field_Times.f field_mul.f
  simp only [u64_small h1 h2, if_neg (show ¬ p = 0 by omega), Option.bind_some, Int.tmod_eq_emod_of_nonneg h1]

theorem ref_mul {p a b : Int} (h0 : 0 < p) (hp : p ≤ 65537) (ha : 0 ≤ a) (ha' : a < p) (hb : 0 ≤ b) (hb' : b < p) : juntoref01_Mul.f p a b = some (a * b % p) := by
  obtain ⟨h1, h2⟩ := mul_small hp ha ha' hb hb'
  unfold juntoref01_Mul.f
  rw [u64_small h1 h2, if_neg (show ¬ p = 0 by omega), Int.tmod_eq_emod_of_nonneg h1]

theorem ref_add {p a b : Int} (h0 : 0 < p) (hp : p ≤ 65537) (ha : 0 ≤ a) (ha' : a < p) (hb : 0 ≤ b) (hb' : b < p) : juntoref01_Add.f p a b = some ((a + b) % p) := by
  unfold juntoref01_Add.f
  rw [u64_small (by omega) (by omega), if_neg (show ¬ p = 0 by omega), Int.tmod_eq_emod_of_nonneg (by omega)]

theorem plus_at {p a b : Int} (h0 : 0 < p) (hp : p ≤ 65537) (ha : 0 ≤ a) (ha' : a < p) (hb : 0 ≤ b) (hb' : b < p) : field_Plus.f p a b = some ((a + b) % p) := by
  unfold field_Plus.f
  rw [u64_small (n := a + b) (by omega) (by omega)]
  by_cases h : a + b ≥ p
  · rw [if_pos h, u64_small (by omega) (by omega)]
    rw [show (a + b) % p = a + b - p by rw [← Int.sub_emod_right, Int.emod_eq_of_lt (by omega) (by omega)]]
  · rw [if_neg h, Int.emod_eq_of_lt (by omega) (by omega)]

/-- The value of a row of coefficients at x. -/
def valV (p x : Int) : List Int → Int
  | [] => 0
  | c :: cs => (valV p x cs * x % p + c) % p

theorem valV_range {p : Int} (h0 : 0 < p) (x : Int) : ∀ l, 0 ≤ valV p x l ∧ valV p x l < p
  | [] => ⟨Int.le_refl _, h0⟩
  | _ :: _ => ⟨Int.emod_nonneg _ (by omega), Int.emod_lt_of_pos _ h0⟩

theorem at_run {p x : Int} (h0 : 0 < p) (hp : p ≤ 65537) (hx : 0 ≤ x) (hx' : x < p) : ∀ (l : List Int), (∀ c ∈ l, 0 ≤ c ∧ c < p) → poly_At.run p x l.reverse (some 0) = some (valV p x l)
  | [], _ => rfl
  | c :: cs, h => by
    rw [List.reverse_cons, poly_At.run_snoc, at_run h0 hp hx hx' cs (fun d hd => h d (List.mem_cons_of_mem _ hd))]
    have hc := h c (List.mem_cons_self ..)
    have hv := valV_range h0 x cs
    show poly_At.step p x (valV p x cs) c = _
    unfold poly_At.step
    rw [times_at h0 hp hv.1 hv.2 hx hx']
    exact plus_at h0 hp (Int.emod_nonneg _ (by omega)) (Int.emod_lt_of_pos _ h0) hc.1 hc.2

theorem poly_at {p x : Int} (h0 : 0 < p) (hp : p ≤ 65537) (hx : 0 ≤ x) (hx' : x < p) (l : List Int) (h : ∀ c ∈ l, 0 ≤ c ∧ c < p) : poly_At.f p l x = some (valV p x l) := at_run h0 hp hx hx' l h

theorem drop_mod (a b z p : Int) : (a + b * (z % p)) % p = (a + b * z) % p := by
  rw [Int.emod_def z p, show a + b * (z - p * (z / p)) = a + b * z + p * (-(b * (z / p))) by generalize z / p = q; grind, Int.add_mul_emod_self_left]

theorem step_mod (acc pw v c x p : Int) : (acc + pw * ((v * x % p + c) % p)) % p = ((acc + c * pw % p) % p + pw * x % p * v) % p := by
  rw [drop_mod]
  have r1 : ((acc + c * pw % p) % p + pw * x % p * v) % p = (pw * x % p * v + 1 * ((acc + c * pw % p) % p)) % p := by
    generalize (acc + c * pw % p) % p = u
    rw [Int.one_mul, Int.add_comm]
  rw [r1, drop_mod]
  have r2 : pw * x % p * v + 1 * (acc + c * pw % p) = acc + v * (pw * x % p) + 1 * (c * pw % p) := by
    generalize pw * x % p = u
    generalize c * pw % p = z
    grind
  rw [r2, drop_mod]
  have r3 : acc + v * (pw * x % p) + 1 * (c * pw) = acc + c * pw + v * (pw * x % p) := by
    generalize pw * x % p = u
    grind
  rw [r3, drop_mod]
  have r4 : acc + pw * (v * x % p + c) = acc + pw * c + pw * (v * x % p) := by
    generalize v * x % p = u
    grind
  rw [r4, drop_mod]
  congr 1
  grind

theorem ref_eval_loop {p x : Int} (h0 : 0 < p) (hp : p ≤ 65537) (hx : 0 ≤ x) (hx' : x < p) (l : List Int) (hs : l.length ≤ maxLen) (h : ∀ c ∈ l, 0 ≤ c ∧ c < p) : ∀ (m i : Nat) (acc pw : Int), i + m = l.length → 0 ≤ acc → acc < p → 0 ≤ pw → pw < p →
    Ev (fun k => juntoref02_Eval.l0 k p x acc pw l (l.length : Int) (i : Int)) ((acc + pw * valV p x (l.drop i)) % p)
  | 0, i, acc, pw, hi, ha, ha', hw, hw' => by
    rw [List.drop_of_length_le (by omega)]
    have e : (acc + pw * valV p x []) % p = acc := by
      show (acc + pw * 0) % p = acc
      rw [Int.mul_zero, Int.add_zero, Int.emod_eq_of_lt ha ha']
    rw [e]
    refine Ev.step (f := fun k => some acc) (fun k => ?_) (Ev.now _)
    simp only [juntoref02_Eval.l0]
    rw [if_neg (by omega)]
  | m + 1, i, acc, pw, hi, ha, ha', hw, hw' => by
    have hm : (l.length : Int) ≤ 9223372036854775807 := by simp only [maxLen] at hs; omega
    have hlt : i < l.length := by omega
    have hr : rd l (i : Int) = l[i] := by simp [rd, List.getD_eq_getElem?_getD, hlt]
    have hc := h l[i] (List.getElem_mem hlt)
    rw [List.drop_eq_getElem_cons hlt]
    have m1 : 0 ≤ l[i] * pw % p ∧ l[i] * pw % p < p := ⟨Int.emod_nonneg _ (by omega), Int.emod_lt_of_pos _ h0⟩
    have m2 : 0 ≤ (acc + l[i] * pw % p) % p ∧ (acc + l[i] * pw % p) % p < p := ⟨Int.emod_nonneg _ (by omega), Int.emod_lt_of_pos _ h0⟩
    have m3 : 0 ≤ pw * x % p ∧ pw * x % p < p := ⟨Int.emod_nonneg _ (by omega), Int.emod_lt_of_pos _ h0⟩
    have e : (acc + pw * valV p x (l[i] :: l.drop (i + 1))) % p = ((acc + l[i] * pw % p) % p + pw * x % p * valV p x (l.drop (i + 1))) % p := by
      show (acc + pw * ((valV p x (l.drop (i + 1)) * x % p + l[i]) % p)) % p = _
      exact step_mod _ _ _ _ _ _
    rw [e]
    refine Ev.step (f := fun k => juntoref02_Eval.l0 k p x ((acc + l[i] * pw % p) % p) (pw * x % p) l (l.length : Int) ((i + 1 : Nat) : Int)) (fun k => ?_) (ref_eval_loop h0 hp hx hx' l hs h m (i + 1) _ _ (by omega) m2.1 m2.2 m3.1 m3.2)
    conv => lhs; simp only [juntoref02_Eval.l0]
    rw [if_pos (by omega), if_pos (by omega), if_pos (by omega), hr, ref_mul h0 hp hc.1 hc.2 hw hw', Option.bind_some, ref_add h0 hp ha ha' m1.1 m1.2, Option.bind_some, ref_mul h0 hp hw hw' hx hx', Option.bind_some, w64_small (by omega) (by omega)]
    rfl

theorem ref_eval {p x : Int} (h1 : 1 < p) (hp : p ≤ 65537) (hx : 0 ≤ x) (hx' : x < p) (l : List Int) (hs : l.length ≤ maxLen) (h : ∀ c ∈ l, 0 ≤ c ∧ c < p) : Ev (fun k => juntoref02_Eval.f k p l x) (valV p x l) := by
  have e := ref_eval_loop (by omega) hp hx hx' l hs h l.length 0 0 1 (by omega) (by omega) (by omega) (by omega) h1
  have hv := valV_range (p := p) (by omega) x l
  rw [List.drop_zero, Int.zero_add, Int.one_mul, Int.emod_eq_of_lt hv.1 hv.2] at e
  exact e

end Go.Proofs.Ytjjnfobeeflnhaa.L

/- Polynomials over the residues modulo a prime, as lists of coefficients: sums, products, values, trailing zeros, division, interpolation. Plain Lean, no program in sight. -/
namespace Go.Proofs.Ytjjnfobeeflnhaa.Fld
set_option linter.unusedVariables false
set_option linter.unusedSimpArgs false

section
variable {p : Nat} [NeZero p]

/-! ### sums -/
def sm : Nat → (Nat → Fin p) → Fin p
  | 0, _ => 0
  | n + 1, g => sm n g + g n
theorem sm_succ (n : Nat) (g : Nat → Fin p) : sm (n + 1) g = sm n g + g n := rfl
theorem sm_congr {n : Nat} {g h : Nat → Fin p} (e : ∀ i, i < n → g i = h i) : sm n g = sm n h := by
  induction n with
  | zero => rfl
  | succ n ih => rw [sm_succ, sm_succ, ih (fun i hi => e i (by omega)), e n (by omega)]
theorem sm_zero {n : Nat} {g : Nat → Fin p} (e : ∀ i, i < n → g i = 0) : sm n g = 0 := by
  induction n with
  | zero => rfl
  | succ n ih => rw [sm_succ, ih (fun i hi => e i (by omega)), e n (by omega)]; grind
theorem sm_add (n : Nat) (g h : Nat → Fin p) : sm n (fun i => g i + h i) = sm n g + sm n h := by
  induction n with
  | zero => show (0 : Fin p) = 0 + 0; grind
  | succ n ih => rw [sm_succ, sm_succ, sm_succ, ih]; grind
theorem sm_mul' (n : Nat) (c : Fin p) (g : Nat → Fin p) : sm n (fun i => g i * c) = sm n g * c := by
  induction n with
  | zero => show (0 : Fin p) = 0 * c; grind
  | succ n ih => rw [sm_succ, sm_succ, ih]; grind
theorem sm_front (n : Nat) (g : Nat → Fin p) : sm (n + 1) g = g 0 + sm n (fun i => g (i + 1)) := by
  induction n with
  | zero => show 0 + g 0 = g 0 + 0; grind
  | succ n ih => rw [sm_succ, ih, sm_succ]; grind
theorem sm_rev (n : Nat) (g : Nat → Fin p) : sm (n + 1) g = sm (n + 1) (fun i => g (n - i)) := by
  induction n generalizing g with
  | zero => rfl
  | succ n ih =>
    rw [sm_front, ih (fun i => g (i + 1)), sm_succ (n + 1) (fun i => g (n + 1 - i))]
    have : sm (n + 1) (fun i => g (n - i + 1)) = sm (n + 1) (fun i => g (n + 1 - i)) := sm_congr fun i hi => by congr 1; omega
    rw [this, show n + 1 - (n + 1) = 0 by omega]; grind
theorem sm_more {n m : Nat} {g : Nat → Fin p} (h : n ≤ m) (e : ∀ i, n ≤ i → i < m → g i = 0) : sm m g = sm n g := by
  induction m with
  | zero => rw [show n = 0 by omega]
  | succ m ih =>
    by_cases hn : n = m + 1
    · rw [hn]
    · rw [sm_succ, ih (by omega) (fun i h1 h2 => e i h1 (by omega)), e m (by omega) (by omega)]; grind
theorem sm_one {n k : Nat} {g : Nat → Fin p} (hk : k < n) (e : ∀ i, i < n → i ≠ k → g i = 0) : sm n g = g k := by
  induction n with
  | zero => omega
  | succ n ih =>
    rw [sm_succ]
    by_cases h : k = n
    · rw [h, sm_zero (fun i hi => e i (by omega) (by omega))]; grind
    · rw [ih (by omega) (fun i h1 h2 => e i (by omega) h2), e n (by omega) (by omega)]; grind

/-! ### coefficients, values -/
def co (f : List (Fin p)) (i : Nat) : Fin p := f.getD i 0
theorem co_nil (i : Nat) : co ([] : List (Fin p)) i = 0 := by simp [co]
theorem co_cons_zero (a : Fin p) (f : List (Fin p)) : co (a :: f) 0 = a := by simp [co]
theorem co_cons_succ (a : Fin p) (f : List (Fin p)) (i : Nat) : co (a :: f) (i + 1) = co f i := by simp [co]
theorem co_ge {f : List (Fin p)} {i : Nat} (h : f.length ≤ i) : co f i = 0 := by simp [co, List.getD_eq_getElem?_getD, List.getElem?_eq_none h]
theorem co_lt {f : List (Fin p)} {i : Nat} (h : i < f.length) : co f i = f[i] := by simp [co, List.getD_eq_getElem?_getD, h]
/-- The value at a place (Horner). -/
def ev (f : List (Fin p)) (x : Fin p) : Fin p := f.foldr (fun c v => v * x + c) 0
theorem ev_nil (x : Fin p) : ev [] x = 0 := rfl
theorem ev_cons (a : Fin p) (f : List (Fin p)) (x : Fin p) : ev (a :: f) x = ev f x * x + a := rfl
theorem ev_sm (f : List (Fin p)) (x : Fin p) : ∀ n, f.length ≤ n → ev f x = sm n (fun i => co f i * x ^ i) := by
  induction f with
  | nil => intro n _; rw [ev_nil, sm_zero]; intro i _; rw [co_nil]; grind
  | cons a f ih =>
    intro n hn
    obtain ⟨m, rfl⟩ : ∃ m, n = m + 1 := ⟨n - 1, by simp at hn; omega⟩
    rw [ev_cons, sm_front, ih m (by simp at hn; omega), co_cons_zero]
    have : sm m (fun i => co (a :: f) (i + 1) * x ^ (i + 1)) = sm m (fun i => co f i * x ^ i * x) := sm_congr fun i _ => by rw [co_cons_succ]; grind
    rw [this, sm_mul']; grind
/-- Equal as polynomials. -/
def Eqv (f g : List (Fin p)) : Prop := ∀ i, co f i = co g i
theorem Eqv.refl (f : List (Fin p)) : Eqv f f := fun _ => rfl
theorem Eqv.symm {f g : List (Fin p)} (h : Eqv f g) : Eqv g f := fun i => (h i).symm
theorem Eqv.trans {f g k : List (Fin p)} (h : Eqv f g) (h' : Eqv g k) : Eqv f k := fun i => (h i).trans (h' i)
theorem Eqv.ev {f g : List (Fin p)} (h : Eqv f g) (x : Fin p) : ev f x = ev g x := by
  rw [ev_sm f x (max f.length g.length) (by omega), ev_sm g x (max f.length g.length) (by omega)]
  exact sm_congr fun i _ => by rw [h i]

/-! ### trailing zeros -/
def trim (f : List (Fin p)) : List (Fin p) := f.foldr (fun c r => if r = [] ∧ c = 0 then [] else c :: r) []
theorem trim_nil : trim ([] : List (Fin p)) = [] := rfl
theorem trim_cons (a : Fin p) (f : List (Fin p)) : trim (a :: f) = if trim f = [] ∧ a = 0 then [] else a :: trim f := rfl
theorem trim_co (f : List (Fin p)) : Eqv (trim f) f := by
  induction f with
  | nil => exact Eqv.refl _
  | cons a f ih =>
    intro i
    rw [trim_cons]
    split
    · rename_i h
      obtain ⟨h1, rfl⟩ := h
      cases i with
      | zero => rw [co_nil, co_cons_zero]
      | succ i => rw [co_nil, co_cons_succ, ← ih i, h1, co_nil]
    · cases i with
      | zero => rw [co_cons_zero, co_cons_zero]
      | succ i => rw [co_cons_succ, co_cons_succ, ih i]
theorem trim_eq_nil {f : List (Fin p)} (h : ∀ i, co f i = 0) : trim f = [] := by
  induction f with
  | nil => rfl
  | cons a f ih =>
    rw [trim_cons, if_pos ⟨ih (fun i => by rw [← co_cons_succ a, h]), by rw [← co_cons_zero a f, h]⟩]
theorem trim_congr {f g : List (Fin p)} (h : Eqv f g) : trim f = trim g := by
  induction f generalizing g with
  | nil => rw [trim_nil, trim_eq_nil (fun i => by rw [← h i, co_nil])]
  | cons a f ih =>
    cases g with
    | nil => rw [trim_nil, trim_eq_nil (fun i => by rw [h i, co_nil])]
    | cons b g =>
      have h0 : a = b := by have := h 0; rwa [co_cons_zero, co_cons_zero] at this
      have h1 : Eqv f g := fun i => by have := h (i + 1); rwa [co_cons_succ, co_cons_succ] at this
      rw [trim_cons, trim_cons, ih h1, h0]
theorem trim_trim (f : List (Fin p)) : trim (trim f) = trim f := trim_congr (trim_co f)
theorem trim_length_le (f : List (Fin p)) : (trim f).length ≤ f.length := by
  induction f with
  | nil => simp [trim_nil]
  | cons a f ih => rw [trim_cons]; split <;> simp <;> omega
theorem trim_length_of {f : List (Fin p)} {n : Nat} (h : ∀ i, n ≤ i → co f i = 0) : (trim f).length ≤ n := by
  induction f generalizing n with
  | nil => simp [trim_nil]
  | cons a f ih =>
    rw [trim_cons]
    split
    · simp
    · rename_i hne
      cases n with
      | zero =>
        exfalso; apply hne
        exact ⟨trim_eq_nil fun i => by rw [← co_cons_succ a, h _ (by omega)], by rw [← co_cons_zero a f, h 0 (by omega)]⟩
      | succ n =>
        have := ih (n := n) (fun i hi => by rw [← co_cons_succ a, h _ (by omega)])
        simp; omega
theorem trim_last {f : List (Fin p)} (h : trim f ≠ []) : co f ((trim f).length - 1) ≠ 0 := by
  intro h0
  have hl : 0 < (trim f).length := List.length_pos_iff.2 h
  have := trim_length_of (f := f) (n := (trim f).length - 1) (fun i hi => by
    by_cases e : i = (trim f).length - 1
    · rw [e]; exact h0
    · rw [← trim_co f i]; exact co_ge (by omega))
  omega
/-- Nothing to trim. -/
def Tr (f : List (Fin p)) : Prop := trim f = f
theorem Tr.trim (f : List (Fin p)) : Tr (trim f) := trim_trim f
theorem Tr.ext {f g : List (Fin p)} (hf : Tr f) (hg : Tr g) (h : Eqv f g) : f = g := by rw [← hf, ← hg, trim_congr h]
theorem Tr.last {f : List (Fin p)} (hf : Tr f) (h : f ≠ []) : co f (f.length - 1) ≠ 0 := by
  have := trim_last (f := f) (by rw [hf]; exact h)
  rwa [hf] at this
/-! ### making a list out of its coefficients -/
def mk (n : Nat) (c : Nat → Fin p) : List (Fin p) := (List.range n).map c
end
section
variable {p : Nat}
theorem mk_length (n : Nat) (c : Nat → Fin p) : (mk n c).length = n := by simp [mk]
end
section
variable {p : Nat} [NeZero p]
theorem co_mk (n : Nat) (c : Nat → Fin p) (i : Nat) : co (mk n c) i = if i < n then c i else 0 := by
  by_cases h : i < n
  · rw [co_lt (by rw [mk_length]; exact h), if_pos h]; simp [mk]
  · rw [co_ge (by rw [mk_length]; omega), if_neg h]

/-! ### sums, products -/
def add (f g : List (Fin p)) : List (Fin p) := mk (max f.length g.length) (fun i => co f i + co g i)
def sub (f g : List (Fin p)) : List (Fin p) := mk (max f.length g.length) (fun i => co f i - co g i)
def smul (c : Fin p) (f : List (Fin p)) : List (Fin p) := f.map (c * ·)
theorem co_add (f g : List (Fin p)) (i : Nat) : co (add f g) i = co f i + co g i := by
  unfold add; rw [co_mk]; split
  · rfl
  · rw [co_ge (f := f) (by omega), co_ge (f := g) (by omega)]; grind
theorem co_sub (f g : List (Fin p)) (i : Nat) : co (sub f g) i = co f i - co g i := by
  unfold sub; rw [co_mk]; split
  · rfl
  · rw [co_ge (f := f) (by omega), co_ge (f := g) (by omega)]; grind
theorem co_smul (c : Fin p) (f : List (Fin p)) (i : Nat) : co (smul c f) i = c * co f i := by
  unfold smul
  by_cases h : i < f.length
  · rw [co_lt (by simpa using h), co_lt h]; simp
  · rw [co_ge (by simp; omega), co_ge (by omega)]; grind
end
section
variable {p : Nat} [NeZero p]
theorem add_length (f g : List (Fin p)) : (add f g).length = max f.length g.length := mk_length _ _
theorem ev_add (f g : List (Fin p)) (x : Fin p) : ev (add f g) x = ev f x + ev g x := by
  rw [ev_sm (add f g) x (max f.length g.length) (by rw [add_length]; omega), ev_sm f x (max f.length g.length) (by omega), ev_sm g x (max f.length g.length) (by omega), ← sm_add]
  exact sm_congr fun i _ => by rw [co_add]; grind
/-- A product of coefficients. -/
def cv (c d : Nat → Fin p) (n : Nat) : Fin p := sm (n + 1) (fun i => c i * d (n - i))
theorem cv_congr {c c' d d' : Nat → Fin p} (h : ∀ i, c i = c' i) (h' : ∀ i, d i = d' i) (n : Nat) : cv c d n = cv c' d' n := sm_congr fun i _ => by rw [h, h']
theorem cv_comm (c d : Nat → Fin p) (n : Nat) : cv c d n = cv d c n := by
  unfold cv
  rw [sm_rev]
  exact sm_congr fun i hi => by rw [show n - (n - i) = i by omega]; grind
theorem cv_add (c d d' : Nat → Fin p) (n : Nat) : cv c (fun i => d i + d' i) n = cv c d n + cv c d' n := by
  unfold cv; rw [← sm_add]; exact sm_congr fun i _ => by grind
theorem cv_add' (c c' d : Nat → Fin p) (n : Nat) : cv (fun i => c i + c' i) d n = cv c d n + cv c' d n := by
  unfold cv; rw [← sm_add]; exact sm_congr fun i _ => by grind
/-- A product. -/
def mul : List (Fin p) → List (Fin p) → List (Fin p)
  | [], _ => []
  | a :: f, g => add (smul a g) (0 :: mul f g)
theorem co_mul (f g : List (Fin p)) (n : Nat) : co (mul f g) n = cv (co f) (co g) n := by
  induction f generalizing n with
  | nil => rw [mul, co_nil]; unfold cv; rw [sm_zero]; intro i _; rw [co_nil]; grind
  | cons a f ih =>
    rw [mul, co_add, co_smul]
    unfold cv
    rw [sm_front, co_cons_zero]
    cases n with
    | zero => rw [co_cons_zero]; show a * co g 0 + 0 = a * co g 0 + 0; rfl
    | succ n =>
      rw [co_cons_succ, ih n]
      unfold cv
      congr 1
      exact sm_congr fun i _ => by rw [co_cons_succ, show n + 1 - (i + 1) = n - i by omega]
/-! ### equations between polynomials -/
theorem Eqv.add {f f' g g' : List (Fin p)} (h : Eqv f f') (h' : Eqv g g') : Eqv (add f g) (add f' g') := fun i => by rw [co_add, co_add, h i, h' i]
theorem Eqv.sub {f f' g g' : List (Fin p)} (h : Eqv f f') (h' : Eqv g g') : Eqv (sub f g) (sub f' g') := fun i => by rw [co_sub, co_sub, h i, h' i]
theorem Eqv.mul {f f' g g' : List (Fin p)} (h : Eqv f f') (h' : Eqv g g') : Eqv (mul f g) (mul f' g') := fun i => by rw [co_mul, co_mul, cv_congr h h']
theorem Eqv.smul {f f' : List (Fin p)} (c : Fin p) (h : Eqv f f') : Eqv (smul c f) (smul c f') := fun i => by rw [co_smul, co_smul, h i]
theorem mul_comm (f g : List (Fin p)) : Eqv (mul f g) (mul g f) := fun i => by rw [co_mul, co_mul, cv_comm]
theorem mul_add (f g k : List (Fin p)) : Eqv (mul f (Fld.add g k)) (Fld.add (mul f g) (mul f k)) := fun i => by
  rw [co_mul, co_add, co_mul, co_mul, cv_congr (fun _ => rfl) (co_add g k), cv_add]
theorem add_mul (f g k : List (Fin p)) : Eqv (mul (Fld.add f g) k) (Fld.add (mul f k) (mul g k)) := fun i => by
  rw [co_mul, co_add, co_mul, co_mul, cv_congr (co_add f g) (fun _ => rfl), cv_add']
theorem mul_sub (f g k : List (Fin p)) : Eqv (mul f (Fld.sub g k)) (Fld.sub (mul f g) (mul f k)) := fun i => by
  have h : Eqv (Fld.add (Fld.sub g k) k) g := fun i => by rw [co_add, co_sub]; grind
  have h1 := (mul_add f (Fld.sub g k) k).symm.trans ((Eqv.refl f).mul h) i
  rw [co_add] at h1
  rw [co_sub, ← h1]; grind
theorem sub_mul (f g k : List (Fin p)) : Eqv (mul (Fld.sub f g) k) (Fld.sub (mul f k) (mul g k)) :=
  (mul_comm _ _).trans ((mul_sub k f g).trans ((mul_comm _ _).sub (mul_comm _ _)))
theorem mul_one (f : List (Fin p)) : Eqv (mul f [1]) f := fun i => by
  rw [co_mul, cv_comm]; unfold cv
  rw [sm_one (k := 0) (by omega)]
  · rw [co_cons_zero]; show 1 * co f i = co f i; grind
  · intro j _ hj
    obtain ⟨m, rfl⟩ : ∃ m, j = m + 1 := ⟨j - 1, by omega⟩
    rw [co_cons_succ, co_nil]; grind

/-! ### degrees of products, roots -/
end
end Go.Proofs.Ytjjnfobeeflnhaa.Fld

/- The program's words over the residues modulo a number: numbers, rows of coefficients, sums, products, values. -/
namespace Go.Proofs.Ytjjnfobeeflnhaa.L
open Go.RowKit Go.Proofs.YtjjnfobeeflnhaaW.PrintWords Go.Proofs.Ytjjnfobeeflnhaa.J
set_option linter.unusedVariables false
set_option linter.unusedSimpArgs false

section
variable {q : Nat} [NeZero q]
/-- The number that a residue is. -/
def nI (a : Fin q) : Int := (a.val : Int)
/-- A row of residues as numbers. -/
def oI (f : List (Fin q)) : List Int := f.map nI

theorem q_pos : 0 < q := Nat.pos_of_ne_zero (NeZero.ne q)
end
section
variable {q : Nat}
theorem nI_range (a : Fin q) : 0 ≤ nI a ∧ nI a < (q : Int) := by
  have := a.isLt
  unfold nI; omega
theorem nI_inj {a b : Fin q} (h : nI a = nI b) : a = b := Fin.ext (by unfold nI at h; omega)
end
section
variable {q : Nat} [NeZero q]
theorem nI_zero : nI (0 : Fin q) = 0 := by simp [nI]
theorem nI_eq_zero {a : Fin q} : nI a = 0 ↔ a = 0 := ⟨fun h => nI_inj (h.trans nI_zero.symm), fun h => by rw [h, nI_zero]⟩
end
section
variable {q : Nat}
theorem nI_of {x : Int} (h0 : 0 ≤ x) (h1 : x < (q : Int)) : ∃ a : Fin q, nI a = x := ⟨⟨x.toNat, by omega⟩, by show ((x.toNat : Nat) : Int) = x; omega⟩
theorem nI_mul (a b : Fin q) : nI (a * b) = nI a * nI b % (q : Int) := by
  unfold nI; rw [Fin.val_mul]; simp
theorem nI_add (a b : Fin q) : nI (a + b) = (nI a + nI b) % (q : Int) := by
  unfold nI; rw [Fin.val_add]; simp
theorem oI_nil : oI ([] : List (Fin q)) = [] := rfl
theorem oI_cons (a : Fin q) (f : List (Fin q)) : oI (a :: f) = nI a :: oI f := rfl
theorem oI_append (f g : List (Fin q)) : oI (f ++ g) = oI f ++ oI g := by simp [oI]
theorem oI_length (f : List (Fin q)) : (oI f).length = f.length := by simp [oI]
theorem oI_inj : ∀ {f g : List (Fin q)}, oI f = oI g → f = g
  | [], [], _ => rfl
  | [], _ :: _, h => by cases h
  | _ :: _, [], h => by cases h
  | a :: f, b :: g, h => by
    rw [oI_cons, oI_cons] at h
    injection h with h1 h2
    rw [nI_inj h1, oI_inj h2]
theorem oI_range (f : List (Fin q)) : ∀ c ∈ oI f, 0 ≤ c ∧ c < (q : Int) := by
  intro c hc
  obtain ⟨a, _, rfl⟩ := List.mem_map.1 hc
  exact nI_range a
end
section
variable {q : Nat} [NeZero q]
theorem oI_getD (f : List (Fin q)) (i : Nat) : (oI f).getD i 0 = nI (Fld.co f i) := by
  by_cases h : i < f.length
  · rw [Fld.co_lt h]; simp [oI, List.getD_eq_getElem?_getD, h]
  · rw [Fld.co_ge (by omega), nI_zero]; simp [oI, List.getD_eq_getElem?_getD, List.getElem?_eq_none (show f.length ≤ i by omega)]
end
section
variable {q : Nat}
theorem oI_set (f : List (Fin q)) (i : Nat) (a : Fin q) : (oI f).set i (nI a) = oI (f.set i a) := by simp [oI, List.map_set]
end
section
variable {q : Nat} [NeZero q]
theorem oI_zeros (n : Nat) : List.replicate n (0 : Int) = oI (List.replicate n (0 : Fin q)) := by simp [oI, nI_zero]
theorem short_oI (f : List (Fin q)) : shortI (oI f) = oI (Fld.trim f) := by
  induction f with
  | nil => rfl
  | cons a f ih =>
    have e : shortI (oI (a :: f)) = if shortI (oI f) = [] ∧ nI a = 0 then [] else nI a :: shortI (oI f) := rfl
    rw [e, ih, Fld.trim_cons]
    by_cases h : Fld.trim f = [] ∧ a = 0
    · rw [if_pos h, if_pos (by rw [h.1, h.2]; exact ⟨rfl, nI_zero⟩)]; rfl
    · rw [if_neg h, if_neg (fun h' => h ⟨oI_inj (h'.1.trans oI_nil.symm), nI_eq_zero.1 h'.2⟩)]; rfl

theorem co_set (f : List (Fin q)) (i : Nat) (a : Fin q) (hi : i < f.length) (s : Nat) : Fld.co (f.set i a) s = if s = i then a else Fld.co f s := by
  unfold Fld.co
  rw [List.getD_eq_getElem?_getD, List.getD_eq_getElem?_getD]
  by_cases h : s = i
  · subst h; rw [if_pos rfl, List.getElem?_set_self hi]; rfl
  · rw [if_neg h, List.getElem?_set_ne (by omega)]
/-! what the field's words tell -/
section
variable (hq : q ≤ 65537)
include hq
theorem plus_fp (a b : Fin q) : field_Plus.f (q : Int) (nI a) (nI b) = some (nI (a + b)) := by
  have hp := q_pos (q := q)
  rw [plus_at (by omega) (by omega) (nI_range a).1 (nI_range a).2 (nI_range b).1 (nI_range b).2, nI_add]
end

/-! rows -/
theorem short_fp (f : List (Fin q)) (hl : f.length ≤ 1000000000) : Ev (fun k => poly_Short.f k (oI f)) (oI (Fld.trim f)) := by
  rw [← short_oI]
  exact ⟨f.length + 1, fun k hk => short_spec (oI f) (by rw [oI_length]; omega) k (by rw [oI_length]; omega)⟩
theorem zip_fp (D : Int → Int → Int) (O : Fin q → Fin q → Fin q) (h : ∀ a b : Fin q, D (nI a) (nI b) = nI (O a b)) (f g : List (Fin q)) : zipI D (oI f) (oI g) = oI (Fld.trim (Fld.mk (max f.length g.length) (fun i => O (Fld.co f i) (Fld.co g i)))) := by
  unfold zipI
  rw [← short_oI, oI_length, oI_length]
  unfold Fld.mk oI
  rw [List.map_map]
  congr 1
  apply List.map_congr_left
  intro i _
  show D ((oI f).getD i 0) ((oI g).getD i 0) = nI (O (Fld.co f i) (Fld.co g i))
  rw [oI_getD, oI_getD, h]
theorem plusI_fp (hq : q ≤ 65537) (f g : List (Fin q)) : plusI (q : Int) (oI f) (oI g) = oI (Fld.trim (Fld.add f g)) :=
  zip_fp _ (· + ·) (fun a b => by rw [plus_fp hq]; rfl) f g
theorem at_fp (hq : q ≤ 65537) (f : List (Fin q)) (x : Fin q) : valV (q : Int) (nI x) (oI f) = nI (Fld.ev f x) := by
  induction f with
  | nil => exact nI_zero.symm
  | cons a f ih =>
    rw [Fld.ev_cons, nI_add, nI_mul, ← ih]; rfl
theorem at_rows (hq : q ≤ 65537) (f : List (Fin q)) (x : Fin q) : poly_At.f (q : Int) (oI f) (nI x) = some (nI (Fld.ev f x)) := by
  have hp := q_pos (q := q)
  rw [poly_at (by omega) (by omega) (nI_range x).1 (nI_range x).2 (oI f) (oI_range f), at_fp hq]
theorem eval_rows (h1 : 1 < q) (hq : q ≤ 65537) (f : List (Fin q)) (x : Fin q) (hf : f.length ≤ 1000000000) : Ev (fun k => juntoref02_Eval.f k (q : Int) (oI f) (nI x)) (nI (Fld.ev f x)) := by
  have := ref_eval (p := (q : Int)) (x := nI x) (by omega) (by omega) (nI_range x).1 (nI_range x).2 (oI f) (by rw [oI_length]; simp only [maxLen]; omega) (oI_range f)
  rwa [at_fp hq] at this

/-- A row that is filled from the front on. -/
def fill (n j : Nat) (F : Nat → Fin q) : List (Fin q) := Fld.mk n (fun i => if i < j then F i else 0)
theorem fill_zero (n : Nat) (F : Nat → Fin q) : fill n 0 F = List.replicate n 0 := by
  apply List.ext_getElem (by simp [fill, Fld.mk])
  intro i h1 h2
  simp [fill, Fld.mk]
theorem fill_length (n j : Nat) (F : Nat → Fin q) : (fill n j F).length = n := Fld.mk_length _ _
theorem fill_set (n j : Nat) (F : Nat → Fin q) : (fill n j F).set j (F j) = fill n (j + 1) F := by
  apply List.ext_getElem (by simp [fill, Fld.mk])
  intro i h1 h2
  simp only [fill, Fld.mk, List.getElem_set, List.getElem_map, List.getElem_range]
  by_cases h : j = i
  · rw [if_pos h, if_pos (by omega), h]
  · rw [if_neg h]
    by_cases h' : i < j
    · rw [if_pos h', if_pos (by omega)]
    · rw [if_neg h', if_neg (by omega)]
theorem fill_all (n : Nat) (F : Nat → Fin q) : fill n n F = Fld.mk n F := by
  apply List.ext_getElem (by simp [fill, Fld.mk])
  intro i h1 h2
  have : i < n := by simpa [fill, Fld.mk] using h1
  simp [fill, Fld.mk, this]

/-! products -/
/-- What the first i rows of a product come to. -/
def part (f g : List (Fin q)) (i s : Nat) : Fin q := Fld.sm i (fun j => if j ≤ s then Fld.co f j * Fld.co g (s - j) else 0)
theorem part_all (f g : List (Fin q)) (n s : Nat) (h : f.length ≤ n) : part f g n s = Fld.co (Fld.mul f g) s := by
  rw [Fld.co_mul]
  unfold part Fld.cv
  have e : Fld.sm (max n (s + 1)) (fun j => if j ≤ s then Fld.co f j * Fld.co g (s - j) else 0) = Fld.sm n (fun j => if j ≤ s then Fld.co f j * Fld.co g (s - j) else 0) := Fld.sm_more (by omega) fun i h1 h2 => by
    rw [Fld.co_ge (f := f) (by omega)]; split <;> grind
  have e' : Fld.sm (max n (s + 1)) (fun j => if j ≤ s then Fld.co f j * Fld.co g (s - j) else 0) = Fld.sm (s + 1) (fun j => if j ≤ s then Fld.co f j * Fld.co g (s - j) else 0) := Fld.sm_more (by omega) fun i h1 h2 => by
    rw [if_neg (by omega)]
  rw [← e, e']
  exact Fld.sm_congr fun i hi => by rw [if_pos (by omega)]

/-- The row h stands at factor i, k of a product. -/
def At2 (f g h : List (Fin q)) (i k : Nat) : Prop := ∀ s, Fld.co h s = part f g i s + (if i ≤ s ∧ s < i + k then Fld.co f i * Fld.co g (s - i) else 0)
theorem At2.next {f g h : List (Fin q)} {i k : Nat} (H : At2 f g h i k) (hk : i + k < h.length) : At2 f g (h.set (i + k) (Fld.co h (i + k) + Fld.co f i * Fld.co g k)) i (k + 1) := fun s => by
  rw [co_set _ _ _ hk]
  by_cases e : s = i + k
  · subst e
    rw [if_pos rfl, H (i + k), if_neg (by omega), if_pos (by omega), show i + k - i = k by omega]; grind
  · rw [if_neg e, H s]
    by_cases e' : i ≤ s ∧ s < i + k
    · rw [if_pos e', if_pos (by omega)]
    · rw [if_neg e', if_neg (by omega)]
theorem At2.round {f g h : List (Fin q)} {i k : Nat} (H : At2 f g h i k) (hk : g.length ≤ k) : At2 f g h (i + 1) 0 := fun s => by
  rw [H s, if_neg (by omega : ¬ (i + 1 ≤ s ∧ s < i + 1 + 0))]
  have e : part f g (i + 1) s = part f g i s + (if i ≤ s then Fld.co f i * Fld.co g (s - i) else 0) := rfl
  rw [e]
  by_cases h1 : i ≤ s
  · by_cases h2 : s < i + k
    · rw [if_pos ⟨h1, h2⟩, if_pos h1]; grind
    · rw [if_neg (by omega), if_pos h1, Fld.co_ge (f := g) (by omega)]; grind
  · rw [if_neg (by omega), if_neg h1]; grind
theorem At2.last {f g h : List (Fin q)} {i : Nat} (H : At2 f g h i 0) (hi : f.length ≤ i) : Fld.trim h = Fld.trim (Fld.mul f g) := Fld.trim_congr fun s => by
  rw [H s, if_neg (by omega), part_all f g i s hi]; grind

/-! inverses -/
end

end Go.Proofs.Ytjjnfobeeflnhaa.L

/- Rows drawn from a tape, rows without noughts at the end, rows compared: what the words tell. -/
namespace Go.Proofs.Ytjjnfobeeflnhaa.L
open Go.RowKit Go.Proofs.YtjjnfobeeflnhaaW.PrintWords Go.Proofs.Ytjjnfobeeflnhaa.J
set_option linter.unusedVariables false
set_option linter.unusedSimpArgs false

/-! rows compared -/
theorem rd_getD (l : List Int) (i : Nat) : rd l (i : Int) = l.getD i 0 := by simp [rd]
/-! rows without noughts at the end -/
section
variable {q : Nat} [NeZero q]
/-! rows drawn from a tape -/
/-- The residue of a number. -/
def resid (q : Nat) [NeZero q] (x : Int) : Fin q := Fin.ofNat q (x % (q : Int)).toNat
theorem nI_resid (x : Int) : nI (resid q x) = x % (q : Int) := by
  have hp := q_pos (q := q)
  have h0 : 0 ≤ x % (q : Int) := Int.emod_nonneg _ (by omega)
  have h1 : x % (q : Int) < (q : Int) := Int.emod_lt_of_pos _ (by omega)
  unfold nI resid
  simp only [Fin.ofNat]
  rw [Nat.mod_eq_of_lt (by omega)]
  omega
theorem resid_zero : resid q 0 = 0 := nI_inj (by rw [nI_resid, nI_zero]; simp)
/-- The first n numbers of a tape. -/
def drawn (q : Nat) [NeZero q] (tape : List Int) (n : Nat) : List (Fin q) := Fld.mk n (fun i => resid q (tape.getD i 0))
theorem fill_skip {n j : Nat} {F : Nat → Fin q} (h : F j = 0) : fill n j F = fill n (j + 1) F := by
  unfold fill Fld.mk
  apply List.map_congr_left
  intro i _
  by_cases e : i = j
  · subst e; rw [if_neg (by omega), if_pos (by omega), h]
  · by_cases e' : i < j
    · rw [if_pos e', if_pos (by omega)]
    · rw [if_neg e', if_neg (by omega)]
theorem take_loop (hq : q ≤ 65537) (tape : List Int) (hs : tape.length ≤ 17592186044415) (hu : ∀ c ∈ tape, 0 ≤ c) (n : Nat) (hn : n ≤ 1000000000) : ∀ (m i : Nat), i + m = n →
    Ev (fun k => field_Take.l0 k (q : Int) tape (n : Int) (oI (fill n i fun j => resid q (tape.getD j 0))) (n : Int) (i : Int)) (oI (drawn q tape n), tape.drop n)
  | 0, i, hi => by
    obtain rfl : i = n := by omega
    have hp := q_pos (q := q)
    have e : fill i i (fun j => resid q (tape.getD j 0)) = drawn q tape i := fill_all _ _
    rw [e]
    refine Ev.step (f := fun k => some (oI (drawn q tape i), tape.drop i)) (fun k => ?_) (Ev.now _)
    have hd : tape.drop (mn (i : Int) (tape.length : Int)).toNat = tape.drop i := by
      by_cases h : i ≤ tape.length
      · have : (mn (i : Int) (tape.length : Int)).toNat = i := by unfold mn; split <;> omega
        rw [this]
      · have : (mn (i : Int) (tape.length : Int)).toNat = tape.length := by unfold mn; split <;> omega
        rw [this, List.drop_of_length_le (Nat.le_refl _), List.drop_of_length_le (by omega)]
    have h0 : 0 ≤ mn (i : Int) (tape.length : Int) := by unfold mn; split <;> omega
    have h1 : mn (i : Int) (tape.length : Int) ≤ (tape.length : Int) := by unfold mn; split <;> omega
    simp only [field_Take.l0]
    rw [if_neg (by omega), Option.bind_some, if_pos h0, if_pos h1, hd, if_pos (by simp; omega)]
    rfl
  | m + 1, i, hi => by
    have hp := q_pos (q := q)
    refine Ev.step (f := fun k => field_Take.l0 k (q : Int) tape (n : Int) (oI (fill n (i + 1) fun j => resid q (tape.getD j 0))) (n : Int) ((i + 1 : Nat) : Int)) (fun k => ?_) (take_loop hq tape hs hu n hn m (i + 1) (by omega))
    conv => lhs; simp only [field_Take.l0]
    rw [if_pos (by omega), w64_small (n := (i : Int) + 1) (by omega) (by omega)]
    by_cases h : i < tape.length
    · have h0 : 0 ≤ tape.getD i 0 := by
        rw [List.getD_eq_getElem?_getD, List.getElem?_eq_getElem h]; exact hu _ (List.getElem_mem h)
      rw [if_pos (by omega), if_pos (by omega), if_neg (by omega), if_pos (by rw [oI_length, fill_length]; omega), rd_getD, Int.tmod_eq_emod_of_nonneg h0, ← nI_resid, Int.toNat_natCast, oI_set, fill_set n i (fun j => resid q (tape.getD j 0))]
      rfl
    · have e : resid q (tape.getD i 0) = 0 := by
        rw [List.getD_eq_getElem?_getD, List.getElem?_eq_none (by omega)]; exact resid_zero
      rw [if_neg (by omega), fill_skip (F := fun j => resid q (tape.getD j 0)) e]
      rfl
theorem take_fp (hq : q ≤ 65537) (tape : List Int) (hs : tape.length ≤ 17592186044415) (hu : ∀ c ∈ tape, 0 ≤ c) (n : Nat) (hn : n ≤ 1000000000) : Ev (fun k => field_Take.f k (q : Int) tape (n : Int)) (oI (drawn q tape n), tape.drop n) := by
  have h := take_loop hq tape hs hu n hn n 0 (by omega)
  rw [fill_zero, ← oI_zeros] at h
  refine Ev.congr (fun k => ?_) h
  unfold field_Take.f
  rw [if_pos (by omega), Int.toNat_natCast, if_pos (by omega), Option.bind_some]
  simp
end

end Go.Proofs.Ytjjnfobeeflnhaa.L

/- Both checks of a mask answer alike, and what they answer. -/
namespace Go.Proofs.Ytjjnfobeeflnhaa.L
open Go.RowKit Go.Proofs.YtjjnfobeeflnhaaW.PrintWords Go.Proofs.Ytjjnfobeeflnhaa.J
set_option linter.unusedVariables false
set_option linter.unusedSimpArgs false

def rowsV (p : Int) : List (List Int) → Int
  | [] => 0
  | f :: fs => if belowV p f = 0 then rowsV p fs else belowV p f

/-- What both checks answer: 0, 2 or 4. -/
def checkV (p n t : Int) (l : List (List Int)) : Int :=
  if setupV p n t = 0 then (if (l.length : Int) = t + 1 ∧ ∀ f ∈ l, (f.length : Int) ≤ t + 1 then rowsV p l else 4) else setupV p n t

theorem checks_go (p : Int) : ∀ (l : List (List Int)), (∀ f ∈ l, f.length ≤ maxLen) → Ev (fun k => twice_Check.go k p l) (rowsV p l)
  | [], _ => Ev.now _
  | f :: fs, h => by
    unfold twice_Check.go rowsV
    refine Ev.bind (field_below p f (h f (List.mem_cons_self ..))) ?_
    by_cases h0 : belowV p f = 0
    · rw [if_pos h0]
      simp only [h0, if_true]
      exact checks_go p fs (fun g hg => h g (List.mem_cons_of_mem _ hg))
    · rw [if_neg h0]
      simp only [h0, if_false]
      exact Ev.now _

theorem twice_check (p n t : Int) (l : List (List Int)) (hl : ∀ f ∈ l, f.length ≤ maxLen) : Ev (fun k => twice_Check.f k p n t l) (checkV p n t l) := by
  unfold twice_Check.f checkV
  refine Ev.bind (share_setup p n t) ?_
  by_cases h0 : setupV p n t = 0
  · obtain ⟨_, _, _, h4, h5, _⟩ := setupV_ok h0
    simp only [h0, if_true]
    rw [w64_small (by omega) (by omega)]
    by_cases h1 : (l.length : Int) = t + 1
    · simp only [h1, if_true, true_and]
      by_cases h2 : ∀ f ∈ l, (f.length : Int) ≤ t + 1
      · have ha : (l.any fun f => decide (t + 1 < (f.length : Int))) = false := by
          rw [List.any_eq_false]
          intro f hf
          have := h2 f hf
          simp only [decide_eq_true_eq]
          omega
        rw [if_pos h2]
        simp only [ha, Bool.false_eq_true, if_false]
        exact checks_go p l hl
      · have ha : (l.any fun f => decide (t + 1 < (f.length : Int))) = true := by
          rw [List.any_eq_true]
          apply Classical.byContradiction
          intro hc
          refine h2 fun f hf => ?_
          rcases Int.lt_or_le (t + 1) (f.length : Int) with h' | h'
          · exact absurd ⟨f, hf, by simpa using h'⟩ hc
          · exact h'
        rw [if_neg h2]
        simp only [ha, if_true]
        exact Ev.now _
    · simp only [h1, if_false, false_and]
      exact Ev.now _
  · simp only [h0, if_false]
    exact Ev.now _

end Go.Proofs.Ytjjnfobeeflnhaa.L

/- Small facts about numbers that came in, setups and rows. -/
namespace Go.Proofs.Ytjjnfobeeflnhaa.L
open Go.RowKit Go.Proofs.YtjjnfobeeflnhaaW.PrintWords Go.Proofs.Ytjjnfobeeflnhaa.J

theorem u64_wf {n : Int} (h : (Lit.int .u64 n).wf = true) : 0 ≤ n ∧ n < 18446744073709551616 := by
  simp [Lit.wf, IntKind.min, IntKind.max, IntKind.signed, IntKind.bits] at h
  omega

theorem setupV_two {p n t : Int} (h : setupV p n t ≠ 0) : setupV p n t = 2 := by
  unfold setupV at h ⊢
  split
  · rename_i h'
    rw [if_pos h'] at h
    exact absurd rfl h
  · rfl

theorem belowV_zero {p : Int} {l : List Int} (h : belowV p l = 0) : ∀ x ∈ l, x < p := by
  unfold belowV at h
  split at h
  · assumption
  · cases h

/-- A setup that is one: its numbers. -/
theorem setupV_small {p n t : Int} (h : setupV p n t = 0) : 3 ≤ p ∧ p ≤ 65537 ∧ 1 ≤ n ∧ n ≤ 13 ∧ 0 ≤ t ∧ t ≤ 3 ∧ 4 * t + 1 ≤ n ∧ n < p := by
  obtain ⟨hp, h1, h2, h4, h5, h6⟩ := setupV_ok h
  have hp2 := (isP_iff p).1 hp
  omega

end Go.Proofs.Ytjjnfobeeflnhaa.L

/- The polynomial of high values: both ways to make it answer alike; the values that a mask gives. -/
namespace Go.Proofs.Ytjjnfobeeflnhaa.L
open Go.RowKit Go.Proofs.YtjjnfobeeflnhaaW.PrintWords Go.Proofs.Ytjjnfobeeflnhaa.J
set_option linter.unusedVariables false
set_option linter.unusedSimpArgs false

section
variable {q : Nat} [NeZero q]
/-- The polynomial of high values. -/
def wholeF : List (List (Fin q)) → List (Fin q)
  | [] => []
  | f :: fs => Fld.trim (Fld.add f (0 :: wholeF fs))
theorem whole_length (w : Nat) (hw : 1 ≤ w) : ∀ (l : List (List (Fin q))), (∀ f ∈ l, f.length ≤ w) → (wholeF l).length ≤ w + l.length - 1
  | [], _ => by rw [wholeF]; exact Nat.zero_le _
  | f :: fs, h => by
    have h1 := whole_length w hw fs (fun g hg => h g (by simp [hg]))
    have h2 := Fld.trim_length_le (Fld.add f (0 :: wholeF fs))
    have h3 := h f (by simp)
    rw [Fld.add_length, List.length_cons] at h2
    rw [wholeF, List.length_cons]
    omega
theorem allI_fp (hq : q ≤ 65537) : ∀ l : List (List (Fin q)), allI (q : Int) (l.map oI) = oI (wholeF l)
  | [] => rfl
  | f :: fs => by
    have e : allI (q : Int) ((f :: fs).map oI) = plusI (q : Int) (oI f) (0 :: allI (q : Int) (fs.map oI)) := rfl
    have e0 : (0 : Int) :: oI (wholeF fs) = oI (0 :: wholeF fs) := by rw [oI_cons, nI_zero]
    rw [e, allI_fp hq fs, e0, plusI_fp hq, wholeF]
theorem twice_all (hq : q ≤ 65537) (l : List (List (Fin q))) (h1 : l.length ≤ 1000) (h2 : ∀ f ∈ l, f.length ≤ 1000) : twice_All.f (q : Int) (l.map oI) = some (oI (wholeF l)) := by
  unfold twice_All.f
  rw [if_pos, allI_fp hq]
  refine ⟨by rw [List.length_map]; exact h1, ?_⟩
  rw [List.all_eq_true]
  intro f hf
  obtain ⟨g, hg, rfl⟩ := List.mem_map.1 hf
  rw [oI_length]
  exact decide_eq_true (h2 g hg)
theorem co_whole (f : List (Fin q)) (fs : List (List (Fin q))) (s : Nat) : Fld.co (wholeF (f :: fs)) s = Fld.co f s + (if 1 ≤ s then Fld.co (wholeF fs) (s - 1) else 0) := by
  rw [wholeF, Fld.trim_co _ s, Fld.co_add]
  cases s with
  | zero => rw [Fld.co_cons_zero, if_neg (by omega)]
  | succ s => rw [Fld.co_cons_succ, if_pos (by omega), Nat.add_sub_cancel]
/-! what a mask's words tell -/
theorem at_ok (hq : q ≤ 65537) (n t : Int) (l : List (List Int)) (hl : ∀ f ∈ l, f.length ≤ maxLen) (h : checkV (q : Int) n t l = 0) (x : Fin q) (f : List (Fin q)) : Ev (fun k => twice_at.f k (q : Int) n t l (nI x) (some (oI f))) (nI (Fld.ev f x), 0) := by
  unfold twice_at.f
  refine Ev.bind (twice_check _ _ _ _ hl) ?_
  have hx := nI_range x
  simp only [h, if_true, show ¬ ((q : Int) ≤ nI x) by omega, if_false]
  refine Ev.bind (Ev.now _) ?_
  rw [at_rows hq]
  exact Ev.bind (Ev.now _) (Ev.now _)
theorem low_ok (hq : q ≤ 65537) (n t : Int) (f : List (Fin q)) (fs : List (List (Fin q))) (hl : ∀ g ∈ (f :: fs).map oI, g.length ≤ maxLen) (h : checkV (q : Int) n t ((f :: fs).map oI) = 0) (x : Fin q) : Ev (fun k => twice_Low.f k (q : Int) n t ((f :: fs).map oI) (nI x)) (nI (Fld.ev f x), 0) := by
  have := at_ok hq n t _ hl h x f
  refine Ev.congr (fun k => ?_) this
  unfold twice_Low.f
  rw [if_pos (by simp)]
  rfl
theorem high_ok (hq : q ≤ 65537) (n t : Int) (l : List (List (Fin q))) (h1 : l.length ≤ 1000) (h2 : ∀ f ∈ l, f.length ≤ 1000) (hl : ∀ g ∈ l.map oI, g.length ≤ maxLen) (h : checkV (q : Int) n t (l.map oI) = 0) (x : Fin q) : Ev (fun k => twice_High.f k (q : Int) n t (l.map oI) (nI x)) (nI (Fld.ev (wholeF l) x), 0) := by
  unfold twice_High.f
  rw [twice_all hq l h1 h2]
  exact at_ok hq n t _ hl h x _
theorem whole_ok (hq : q ≤ 65537) (n t : Int) (l : List (List (Fin q))) (h1 : l.length ≤ 1000) (h2 : ∀ f ∈ l, f.length ≤ 1000) (hl : ∀ g ∈ l.map oI, g.length ≤ maxLen) (h : checkV (q : Int) n t (l.map oI) = 0) : Ev (fun k => twice_Whole.f k (q : Int) n t (l.map oI)) (oI (wholeF l), 0) := by
  unfold twice_Whole.f
  refine Ev.bind (twice_check _ _ _ _ hl) ?_
  simp only [h, if_true]
  rw [twice_all hq l h1 h2]
  exact Ev.bind (Ev.now _) (Ev.now _)
end
end Go.Proofs.Ytjjnfobeeflnhaa.L

/- Both ways to draw a sharing polynomial answer alike, and what they answer. -/
namespace Go.Proofs.Ytjjnfobeeflnhaa.L
open Go.RowKit Go.Proofs.YtjjnfobeeflnhaaW.PrintWords Go.Proofs.Ytjjnfobeeflnhaa.J
set_option linter.unusedVariables false
set_option linter.unusedSimpArgs false

section
variable {q : Nat} [NeZero q]
theorem drawn_length (tape : List Int) (n : Nat) : (drawn q tape n).length = n := Fld.mk_length _ _
theorem share_draw (hq : q ≤ 65537) (s : Fin q) (d : Nat) (hd : d ≤ 1000) (tape : List Int) (hs : tape.length ≤ 17592186044415) (hu : ∀ c ∈ tape, 0 ≤ c) : Ev (fun k => share_Draw.f k (q : Int) (nI s) (d : Int) tape) (oI (Fld.trim (s :: drawn q tape d)), tape.drop d) := by
  unfold share_Draw.f
  refine Ev.bind (take_fp hq tape hs hu d (by omega)) (Ev.bind (Ev.now _) ?_)
  refine Ev.congr (fun k => if_pos ?_) ?_
  · rw [oI_length, drawn_length]; show 1 + d < _; omega
  · exact Ev.bind (short_fp (s :: drawn q tape d) (by rw [List.length_cons, drawn_length]; omega)) (Ev.now _)
end
end Go.Proofs.Ytjjnfobeeflnhaa.L

/- Both ways to draw a mask answer alike, and what they answer. -/
namespace Go.Proofs.Ytjjnfobeeflnhaa.L
open Go.RowKit Go.Proofs.YtjjnfobeeflnhaaW.PrintWords Go.Proofs.Ytjjnfobeeflnhaa.J
set_option linter.unusedVariables false
set_option linter.unusedSimpArgs false

section
variable {q : Nat} [NeZero q]
/-- The rows drawn from a tape, w numbers each. -/
def more (q : Nat) [NeZero q] (w : Nat) : Nat → List Int → List (List (Fin q))
  | 0, _ => []
  | m + 1, tape => Fld.trim (drawn q tape w) :: more q w m (tape.drop w)
/-- What is left of the tape. -/
def past (w : Nat) : Nat → List Int → List Int
  | 0, tape => tape
  | m + 1, tape => past w m (tape.drop w)
theorem more_length (w m : Nat) : ∀ tape, (more q w m tape).length = m := by
  induction m with
  | zero => intro _; rfl
  | succ m ih => intro tape; rw [more, List.length_cons, ih]
theorem more_rows (w m : Nat) : ∀ tape, ∀ f ∈ more q w m tape, f.length ≤ w := by
  induction m with
  | zero => intro _ f hf; cases hf
  | succ m ih =>
    intro tape f hf
    rw [more] at hf
    rcases List.mem_cons.1 hf with rfl | h
    · have := Fld.trim_length_le (drawn q tape w)
      rwa [drawn_length] at this
    · exact ih _ f h
theorem make_loop (hq : q ≤ 65537) (n : Int) (t : Nat) (ht : t ≤ 3) (m : Nat) : ∀ (i : Nat) (tape : List Int) (out : List (List Int)), i + m = t → out.length = i + 1 → tape.length ≤ 17592186044415 → (∀ c ∈ tape, 0 ≤ c) →
    Ev (fun k => twice_Make.l0 k tape out (t : Int) (i : Int) (q : Int) n (t : Int)) (out ++ (more q (t + 1) m tape).map oI, past (t + 1) m tape, 0) := by
  induction m with
  | zero =>
    intro i tape out hi ho hs hu
    rw [more, past, List.map_nil, List.append_nil]
    refine Ev.step (f := fun k => some (out, tape, 0)) (fun k => ?_) (Ev.now _)
    simp only [twice_Make.l0]
    rw [if_neg (by omega)]
  | succ m ih =>
    intro i tape out hi ho hs hu
    have hw : wrap64 ((i : Int) + 1) = ((i + 1 : Nat) : Int) := by rw [w64_small (by omega) (by omega)]; omega
    have hw2 : wrap64 ((t : Int) + 1) = ((t + 1 : Nat) : Int) := by rw [w64_small (by omega) (by omega)]; omega
    rw [more, past, List.map_cons, ← List.singleton_append, ← List.append_assoc]
    refine Ev.step (f := fun k => (field_Take.f k (q : Int) tape ((t + 1 : Nat) : Int)).bind fun bt159 => ((poly_Short.f k bt159.1).bind fun t165 => (if out.length < 5864062014805 then (twice_Make.l0 k bt159.2 (out ++ [t165]) (t : Int) ((i + 1 : Nat) : Int) (q : Int) n (t : Int)) else (none)))) (fun k => ?_) (Ev.bind (take_fp hq tape hs hu (t + 1) (by omega)) (Ev.bind (short_fp _ (by rw [drawn_length]; omega)) ?_))
    · conv => lhs; simp only [twice_Make.l0]
      rw [if_pos (by omega), hw2, hw]
    · refine Ev.congr (fun k => if_pos (by omega)) (ih (i + 1) (tape.drop (t + 1)) _ (by omega) (by rw [List.length_append, ho]; rfl) (by rw [List.length_drop]; omega) (fun c hc => hu c (List.mem_of_mem_drop hc)))
/-- The mask that a secret and a tape determine. -/
def maskF (q : Nat) [NeZero q] (s : Fin q) (t : Nat) (tape : List Int) : List (List (Fin q)) := Fld.trim (s :: drawn q tape t) :: more q (t + 1) t (tape.drop t)
theorem mask_length (s : Fin q) (t : Nat) (tape : List Int) : (maskF q s t tape).length = t + 1 := by rw [maskF, List.length_cons, more_length]
theorem mask_rows (s : Fin q) (t : Nat) (tape : List Int) : ∀ f ∈ maskF q s t tape, f.length ≤ t + 1 := by
  intro f hf
  rcases List.mem_cons.1 hf with rfl | h
  · have := Fld.trim_length_le (s :: drawn q tape t)
    rwa [List.length_cons, drawn_length] at this
  · exact more_rows _ _ _ f h
theorem twice_make_ok (hq : q ≤ 65537) (n : Int) (t : Nat) (h0 : setupV (q : Int) n (t : Int) = 0) (s : Fin q) (tape : List Int) (hs : tape.length ≤ 17592186044415) (hu : ∀ c ∈ tape, 0 ≤ c) : Ev (fun k => twice_Make.f k (q : Int) n (t : Int) (nI s) tape) ((maskF q s t tape).map oI, past (t + 1) t (tape.drop t), 0) := by
  have hh := setupV_small h0
  have hr := nI_range s
  unfold twice_Make.f
  refine Ev.bind (share_setup _ n _) ?_
  simp only [h0, if_true]
  simp only [show ¬ (nI s ≥ (q : Int)) by omega, if_false]
  refine Ev.bind (share_draw hq s t (by omega) tape hs hu) ?_
  exact make_loop hq n t (by omega) t 0 (tape.drop t) [oI (Fld.trim (s :: drawn q tape t))] (by omega) rfl (by rw [List.length_drop]; omega) (fun c hc => hu c (List.mem_of_mem_drop hc))
end
theorem twice_make_bad (p n t v : Int) (tape : List Int) (h : setupV p n t ≠ 0 ∨ v ≥ p) : Ev (fun k => twice_Make.f k p n t v tape) ([], [], 2) := by
  unfold twice_Make.f
  refine Ev.bind (share_setup p n t) ?_
  by_cases h0 : setupV p n t = 0
  · simp only [h0, if_true]
    have h1 : v ≥ p := by rcases h with h | h <;> first | exact absurd h0 h | omega
    simp only [h1, if_true]
    exact Ev.now _
  · simp only [h0, if_false]
    rw [setupV_two h0]
    exact Ev.now _

end Go.Proofs.Ytjjnfobeeflnhaa.L

/- The chapter's example holds; a number or an error as the law asks it. -/
namespace Go.Proofs.Ytjjnfobeeflnhaa.L
open Go.RowKit Go.Proofs.YtjjnfobeeflnhaaW.PrintWords Go.Proofs.Ytjjnfobeeflnhaa.J

theorem alive07 : Ev (fun k => juntolaw07_alive.f k) true := Ev.of juntolaw07_alive.mono (k := 40) (by decide +kernel)

end Go.Proofs.Ytjjnfobeeflnhaa.L

/- The statement TwiceJoins as plain Lean. -/
namespace Go.Proofs.Ytjjnfobeeflnhaa.L
open Go.RowKit Go.Proofs.YtjjnfobeeflnhaaW.PrintWords Go.Proofs.Ytjjnfobeeflnhaa.J
set_option linter.unusedVariables false
set_option linter.unusedSimpArgs false

def joinBad (p n t : Int) (l : List Int) (x : Int) : Int := if setupV p n t = 0 then (if (l.length : Int) = t + 1 ∧ belowV p l = 0 ∧ x < p then 0 else 2) else 2

theorem twice_join (p n t x : Int) (l : List Int) (hl : l.length ≤ maxLen) (hx : 0 ≤ x) (hu : ∀ c ∈ l, 0 ≤ c) : Ev (fun k => twice_Join.f k p n t l x) (if joinBad p n t l x = 0 then valV p x l else 0, joinBad p n t l x) := by
  unfold twice_Join.f
  refine Ev.bind (share_setup p n t) ?_
  unfold joinBad
  by_cases h0 : setupV p n t = 0
  · obtain ⟨hp, h1, h2, h4, h5, h6⟩ := setupV_ok h0
    have hp2 := (isP_iff p).1 hp
    simp only [h0, if_true]
    rw [w64_small (n := t + 1) (by omega) (by omega)]
    by_cases hn : (l.length : Int) = t + 1
    · refine Ev.congr (fun k => if_pos hn) (Ev.bind (field_below p l hl) ?_)
      by_cases hb : belowV p l = 0
      · simp only [hb, if_true]
        by_cases hg : x ≥ p
        · rw [if_neg (show ¬ ((l.length : Int) = t + 1 ∧ True ∧ x < p) by omega)]
          simp only [hg, if_true]
          exact Ev.now _
        · rw [if_pos (show ((l.length : Int) = t + 1 ∧ True ∧ x < p) from ⟨hn, trivial, by omega⟩)]
          simp only [hg, if_false, if_true]
          rw [poly_at (by omega) (by omega) hx (by omega) l (fun c hc => ⟨hu c hc, belowV_zero hb c hc⟩)]
          exact Ev.now _
      · rw [if_neg (show ¬ ((l.length : Int) = t + 1 ∧ belowV p l = 0 ∧ x < p) from fun h => hb h.2.1)]
        simp only [hb, if_false]
        exact Ev.now _
    · refine Ev.congr (fun k => if_neg hn) ?_
      rw [if_neg (show ¬ ((l.length : Int) = t + 1 ∧ belowV p l = 0 ∧ x < p) from fun h => hn h.1)]
      exact Ev.now _
  · simp only [h0, if_false]
    rw [setupV_two h0]
    exact Ev.now _

end Go.Proofs.Ytjjnfobeeflnhaa.L

/- The statement TwiceProduct as plain Lean. -/
namespace Go.Proofs.Ytjjnfobeeflnhaa.L
open Go.RowKit Go.Proofs.YtjjnfobeeflnhaaW.PrintWords Go.Proofs.Ytjjnfobeeflnhaa.J
set_option linter.unusedVariables false
set_option linter.unusedSimpArgs false

section
variable {q : Nat} [NeZero q]
theorem ev_zero (f : List (Fin q)) : Fld.ev f 0 = Fld.co f 0 := by
  cases f with
  | nil => rfl
  | cons a f => rw [Fld.ev_cons, Fld.co_cons_zero]; grind
theorem whole_at_zero (f : List (Fin q)) (fs : List (List (Fin q))) : Fld.ev (wholeF (f :: fs)) 0 = Fld.ev f 0 := by
  rw [ev_zero, ev_zero, co_whole, if_neg (by omega)]; grind
end

end Go.Proofs.Ytjjnfobeeflnhaa.L

/- The statement TwiceOne as plain Lean. -/
namespace Go.Proofs.Ytjjnfobeeflnhaa.L
open Go.RowKit Go.Proofs.YtjjnfobeeflnhaaW.PrintWords Go.Proofs.Ytjjnfobeeflnhaa.J
set_option linter.unusedVariables false
set_option linter.unusedSimpArgs false

section
variable {q : Nat} [NeZero q]
/-- The values of the rows of a mask at a point. -/
def valuesF (l : List (List (Fin q))) (z : Fin q) : List (Fin q) := l.map fun f => Fld.ev f z
theorem values_join (z : Fin q) : ∀ l : List (List (Fin q)), Fld.ev (valuesF l z) z = Fld.ev (wholeF l) z
  | [] => rfl
  | f :: fs => by
    have ih := values_join z fs
    unfold valuesF at ih ⊢
    rw [List.map_cons, Fld.ev_cons, ih, wholeF, (Fld.trim_co _).ev, Fld.ev_add, Fld.ev_cons]; grind
end
section
variable {q : Nat}
theorem rowsV_of : ∀ (l : List (List (Fin q))), rowsV (q : Int) (l.map oI) = 0
  | [] => rfl
  | f :: fs => by
    have hb : belowV (q : Int) (oI f) = 0 := by
      unfold belowV
      rw [if_pos (fun x hx => (oI_range f x hx).2)]
    have ih := rowsV_of fs
    rw [List.map_cons]
    unfold rowsV
    rw [if_pos hb, ih]
theorem check_of (n : Int) (t : Nat) (h0 : setupV (q : Int) n (t : Int) = 0) (l : List (List (Fin q))) (hl : l.length = t + 1) (hr : ∀ f ∈ l, f.length ≤ t + 1) : checkV (q : Int) n (t : Int) (l.map oI) = 0 := by
  unfold checkV
  rw [if_pos h0, if_pos, rowsV_of]
  refine ⟨by rw [List.length_map]; omega, fun f hf => ?_⟩
  obtain ⟨g, hg, rfl⟩ := List.mem_map.1 hf
  have := hr g hg
  rw [oI_length]; omega
end
section
variable {q : Nat} [NeZero q]
theorem trim_head (s : Fin q) (l : List (Fin q)) : Fld.ev (Fld.trim (s :: l)) 0 = s := by
  rw [(Fld.trim_co _).ev, ev_zero, Fld.co_cons_zero]

theorem one_out (s p n t : Int) (l : List (List Int)) (Z Q : List Int) : Ev (fun k => juntolaw07_TwiceOne.j0 k s l true p n t Z Q) true :=
  Ev.step (f := fun k => (juntolaw07_alive.f k).bind fun t449 => (some t449)) (fun k => by simp only [juntolaw07_TwiceOne.j0, if_true]) (Ev.bind alive07 (Ev.now _))

theorem one_loop (h1 : 1 < q) (hq : q ≤ 65537) (n : Int) (t : Nat) (ht : t ≤ 3) (s a b : Int) (w : List Int) (Zl Q : List Int) (z : Fin q) (hZ : 0 < (Zl.length : Int)) (hz : rd Zl 0 = nI z) (l : List (List (Fin q))) (hl : l.length = t + 1) (hr : ∀ f ∈ l, f.length ≤ t + 1) {r : Bool}
    (last : Ev (fun k => juntolaw07_TwiceOne.l0 k s (l.map oI) a b w (oI (valuesF l z)) (l.map oI) (l.length : Int) (l.length : Int) (q : Int) n (t : Int) Zl Q) r) (m : Nat) : ∀ i : Nat, i + m = l.length →
    Ev (fun k => juntolaw07_TwiceOne.l0 k s (l.map oI) a b w (oI (valuesF (l.take i) z)) (l.map oI) (l.length : Int) (i : Int) (q : Int) n (t : Int) Zl Q) r := by
  induction m with
  | zero =>
    intro i hi
    obtain rfl : i = l.length := by omega
    rw [List.take_length]
    exact last
  | succ m ih =>
    intro i hi
    have hlt : i < l.length := by omega
    have hrl : rd_L3 (l.map oI) (i : Int) = oI l[i] := by simp [rd_L3, List.getD_eq_getElem?_getD, hlt]
    have hw : wrap64 ((i : Int) + 1) = ((i + 1 : Nat) : Int) := by rw [w64_small (by omega) (by omega)]; omega
    have hf := hr _ (List.getElem_mem hlt)
    have h := ih (i + 1) (by omega)
    have e : valuesF (l.take (i + 1)) z = valuesF (l.take i) z ++ [Fld.ev l[i] z] := by
      unfold valuesF
      rw [List.take_succ_eq_append_getElem hlt, List.map_append]
      rfl
    rw [e, oI_append] at h
    have hvl : (oI (valuesF (l.take i) z)).length < 17592186044416 := by
      rw [oI_length, valuesF, List.length_map, List.length_take]; omega
    refine Ev.step (f := fun k => (juntoref02_Eval.f k (q : Int) (oI l[i]) (nI z)).bind fun t460 => (if (oI (valuesF (l.take i) z)).length < 17592186044416 then (juntolaw07_TwiceOne.l0 k s (l.map oI) a b w (oI (valuesF (l.take i) z) ++ [t460]) (l.map oI) (l.length : Int) ((i + 1 : Nat) : Int) (q : Int) n (t : Int) Zl Q) else (none))) (fun k => ?_) (Ev.bind (eval_rows h1 hq l[i] z (by omega)) ?_)
    · conv => lhs; simp only [juntolaw07_TwiceOne.l0]
      rw [if_pos (by omega), if_pos (by omega), if_pos (by rw [List.length_map]; omega), if_pos hZ, hrl, hz, hw]
    · exact Ev.congr (fun k => if_pos hvl) h

theorem one_ok (h1 : 1 < q) (hq : q ≤ 65537) (n : Int) (t : Nat) (ht : t ≤ 3) (h0 : setupV (q : Int) n (t : Int) = 0) (s z : Fin q) (f : List (Fin q)) (fs : List (List (Fin q))) (hf0 : Fld.ev f 0 = s) (hl : (f :: fs).length = t + 1) (hr : ∀ g ∈ f :: fs, g.length ≤ t + 1) (Zl Q : List Int) (hZ : 0 < (Zl.length : Int)) (hz : rd Zl 0 = nI z) :
    Ev (fun k => juntolaw07_TwiceOne.j0 k (nI s) ((f :: fs).map oI) false (q : Int) n (t : Int) Zl Q) true := by
  have hc := check_of n t h0 (f :: fs) hl hr
  have hm : ∀ g ∈ (f :: fs).map oI, g.length ≤ maxLen := fun g hg => by
    obtain ⟨g', hg', rfl⟩ := List.mem_map.1 hg
    have := hr g' hg'
    rw [oI_length]; simp only [maxLen]; omega
  have s1 : (f :: fs).length ≤ 1000 := by omega
  have s2 : ∀ g ∈ f :: fs, g.length ≤ 1000 := fun g hg => by have := hr g hg; omega
  have s3 := whole_length (t + 1) (by omega) (f :: fs) hr
  rw [hl] at s3
  have low := low_ok hq n (t : Int) f fs hm hc 0
  rw [hf0, nI_zero] at low
  have high0 := high_ok hq n (t : Int) (f :: fs) s1 s2 hm hc 0
  rw [whole_at_zero, hf0, nI_zero] at high0
  have highz := high_ok hq n (t : Int) (f :: fs) s1 s2 hm hc z
  have whole := whole_ok hq n (t : Int) (f :: fs) s1 s2 hm hc
  have vl : (valuesF (f :: fs) z).length = t + 1 := by rw [valuesF, List.length_map, hl]
  have hjb : joinBad (q : Int) n (t : Int) (oI (valuesF (f :: fs) z)) (nI z) = 0 := by
    unfold joinBad
    rw [if_pos h0, if_pos]
    refine ⟨by rw [oI_length, vl]; omega, ?_, (nI_range z).2⟩
    unfold belowV
    rw [if_pos (fun x hx => (oI_range _ x hx).2)]
  have join := twice_join (q : Int) n (t : Int) (nI z) (oI (valuesF (f :: fs) z)) (by rw [oI_length, vl]; simp only [maxLen]; omega) (nI_range z).1 (fun c hc => (oI_range _ c hc).1)
  rw [hjb, if_pos rfl, at_fp hq, values_join] at join
  have hw2 : wrap64 (wrap64 (2 * (t : Int)) + 1) = 2 * (t : Int) + 1 := by rw [w64_small (n := 2 * (t : Int)) (by omega) (by omega), w64_small (by omega) (by omega)]
  have cW : ((oI (wholeF (f :: fs))).length : Int) ≤ 2 * (t : Int) + 1 := by rw [oI_length]; omega
  have evz := eval_rows h1 hq (wholeF (f :: fs)) z (by omega)
  have last : Ev (fun k => juntolaw07_TwiceOne.l0 k (nI s) ((f :: fs).map oI) (nI s) (nI s) (oI (wholeF (f :: fs))) (oI (valuesF (f :: fs) z)) ((f :: fs).map oI) ((f :: fs).length : Int) ((f :: fs).length : Int) (q : Int) n (t : Int) Zl Q) true := by
    refine Ev.step (f := fun k => (twice_Join.f k (q : Int) n (t : Int) (oI (valuesF (f :: fs) z)) (nI z)).bind fun bt465 => ((twice_High.f k (q : Int) n (t : Int) ((f :: fs).map oI) (nI z)).bind fun bt468 => (if bt465.2 = 0 then (if bt465.1 = bt468.1 then ((juntoref02_Eval.f k (q : Int) (oI (wholeF (f :: fs))) (nI z)).bind fun t471 => (if bt465.1 = t471 then ((juntolaw07_alive.f k).bind fun t472 => (some t472)) else (some false))) else (some false)) else (some false)))) (fun k => ?_) (Ev.bind join (Ev.bind highz ?_))
    · conv => lhs; simp only [juntolaw07_TwiceOne.l0]
      rw [if_neg (by omega), if_pos hZ, hz]
      simp only [if_true, hw2, cW]
    · simp only [if_true]
      refine Ev.bind evz ?_
      simp only [if_true]
      exact Ev.bind alive07 (Ev.now _)
  have loop := one_loop h1 hq n t ht (nI s) (nI s) (nI s) (oI (wholeF (f :: fs))) Zl Q z hZ hz (f :: fs) hl hr last (f :: fs).length 0 (by omega)
  refine Ev.step (f := fun k => (twice_Low.f k (q : Int) n (t : Int) ((f :: fs).map oI) 0).bind fun bt450 => ((twice_High.f k (q : Int) n (t : Int) ((f :: fs).map oI) 0).bind fun bt452 => ((twice_Whole.f k (q : Int) n (t : Int) ((f :: fs).map oI)).bind fun bt454 => (juntolaw07_TwiceOne.l0 k (nI s) ((f :: fs).map oI) bt450.1 bt452.1 bt454.1 ([] : List Int) ((f :: fs).map oI) (((f :: fs).map oI).length : Int) 0 (q : Int) n (t : Int) Zl Q)))) (fun k => ?_) (Ev.bind low (Ev.bind high0 (Ev.bind whole ?_)))
  · simp only [juntolaw07_TwiceOne.j0, Bool.false_eq_true, if_false]
  · rw [List.length_map]
    exact loop
end

theorem twiceOne (x0_0 : Int) (x0_1 : Int) (x0_2 : Int) (x1 : Int) (x2_0 : List Int) (x2_1 : List Int) (w0_0 : (Lit.int .u64 x0_0).wf = true) (w0_1 : (Lit.int .i64 x0_1).wf = true) (w0_2 : (Lit.int .i64 x0_2).wf = true) (w1 : (Lit.int .u64 x1).wf = true)
    (w2_0 : x2_0.length ≤ maxLen ∧ x2_0.length * 8 ≤ 140737488351232 ∧ ∀ x2_0' ∈ x2_0, (Lit.int .u64 x2_0').wf = true) (w2_1 : x2_1.length ≤ maxLen ∧ x2_1.length * 8 ≤ 140737488351232 ∧ ∀ x2_1' ∈ x2_1, (Lit.int .u64 x2_1').wf = true) : ∃ k, juntolaw07_TwiceOne.f k x0_0 x0_1 x0_2 x1 x2_0 x2_1 = some true := by
  suffices h : Ev (fun k => juntolaw07_TwiceOne.f k x0_0 x0_1 x0_2 x1 x2_0 x2_1) true from h.rounds
  have hv := (u64_wf w1).1
  have hu : ∀ c ∈ x2_1, 0 ≤ c := fun c hc => (u64_wf (w2_1.2.2 c hc)).1
  have hs : x2_1.length ≤ 17592186044415 := by have := w2_1.2.1; omega
  have hu0 : ∀ c ∈ x2_0, 0 ≤ c := fun c hc => (u64_wf (w2_0.2.2 c hc)).1
  unfold juntolaw07_TwiceOne.f
  by_cases hbad : setupV x0_0 x0_1 x0_2 ≠ 0 ∨ x1 ≥ x0_0
  · refine Ev.bind (twice_make_bad _ _ _ _ _ hbad) ?_
    exact one_out _ _ _ _ _ _ _
  · have h0 : setupV x0_0 x0_1 x0_2 = 0 := Classical.byContradiction fun h => hbad (.inl h)
    have h1 : ¬ x1 ≥ x0_0 := fun h => hbad (.inr h)
    clear hbad
    have hh := setupV_small h0
    obtain ⟨q, rfl⟩ : ∃ q : Nat, x0_0 = (q : Int) := ⟨x0_0.toNat, by omega⟩
    have hz : NeZero q := ⟨by omega⟩
    obtain ⟨s, rfl⟩ := nI_of (q := q) hv (by omega)
    obtain ⟨t, rfl⟩ : ∃ t : Nat, x0_2 = (t : Int) := ⟨x0_2.toNat, by omega⟩
    have hq : q ≤ 65537 := by omega
    refine Ev.bind (twice_make_ok hq _ t h0 s x2_1 hs hu) ?_
    simp only [if_true]
    by_cases hZ : (x2_0.length : Int) = 1
    · have hZ0 : 0 < (x2_0.length : Int) := by omega
      simp only [hZ, if_true, show (0 : Int) < 1 by decide]
      by_cases hzz : rd x2_0 0 ≥ (q : Int)
      · rw [decide_eq_true hzz]
        exact one_out _ _ _ _ _ _ _
      · rw [decide_eq_false hzz]
        have hrd : 0 ≤ rd x2_0 0 := by
          cases x2_0 with
          | nil => exact Int.le_refl _
          | cons a l => exact hu0 a (by simp)
        obtain ⟨z, hz⟩ := nI_of (q := q) hrd (by omega)
        have hl := mask_length s t x2_1
        have hr := mask_rows s t x2_1
        exact one_ok (by omega) hq x0_1 t (by omega) h0 s z _ _ (trim_head s _) hl hr x2_0 x2_1 hZ0 hz.symm
    · simp only [hZ, if_false]
      exact one_out _ _ _ _ _ _ _

end Go.Proofs.Ytjjnfobeeflnhaa.L

/- The row of TwiceOne: for every input the call returns true and changes nothing; no conditions. Out of the contract of the function and the plain law. -/
namespace Go.Proofs.Ytjjnfobeeflnhaa.twiceOne
open Go.ChangeShapes Go.WideShapes Go.ChangeAt Go.RowKit Go.Proofs.YtjjnfobeeflnhaaW.PrintWords Go.Proofs.Ytjjnfobeeflnhaa.J Go.Proofs.Ytjjnfobeeflnhaa.Op
set_option linter.unusedVariables false
theorem own : ownKnob Try.prog.godebug = none := by kernel_rfl
theorem laidOut : laidOutB Try.prog = true := by kernel_rfl
set_option maxRecDepth 100000 in
theorem op0 : Opens Try.prog (Kd.pair (Kd.int .u64) (Kd.pair (Kd.int .i64) (Kd.int .i64))) 24 (fun x => (fun n => (Lit.int .u64 n).wf = true) x.1 ∧ (fun x => (fun n => (Lit.int .i64 n).wf = true) x.1 ∧ (fun n => (Lit.int .i64 n).wf = true) x.2) x.2) := (op_agg Try.underlying24 (opL_cons (by kernel_rfl) (by kernel_rfl) (op_int Try.underlying22) (by kernel_rfl) (opL_cons (by kernel_rfl) (by kernel_rfl) (op_int Try.underlying3) (by kernel_rfl) (opL_one (by kernel_rfl) (by kernel_rfl) (op_int Try.underlying3)))))
set_option maxRecDepth 100000 in
theorem op1 : Opens Try.prog (Kd.int .u64) 22 (fun n => (Lit.int .u64 n).wf = true) := (op_int Try.underlying22)
set_option maxRecDepth 100000 in
theorem op2 : Opens Try.prog (Kd.pair (Kd.slice 22 (Kd.int .u64)) (Kd.slice 22 (Kd.int .u64))) 50 (fun x => (fun l => l.length ≤ maxLen ∧ l.length * 8 ≤ 140737488351232 ∧ ∀ a ∈ l, (fun n => (Lit.int .u64 n).wf = true) a) x.1 ∧ (fun l => l.length ≤ maxLen ∧ l.length * 8 ≤ 140737488351232 ∧ ∀ a ∈ l, (fun n => (Lit.int .u64 n).wf = true) a) x.2) := (op_agg Try.underlying50 (opL_cons (by kernel_rfl) (by kernel_rfl) (op_slice Try.underlying31 (by kernel_rfl) (by kernel_rfl) (op_int Try.underlying22)) (by kernel_rfl) (opL_one (by kernel_rfl) (by kernel_rfl) (op_slice Try.underlying31 (by kernel_rfl) (by kernel_rfl) (op_int Try.underlying22)))))
set_option maxRecDepth 100000 in
theorem lifted (os : Os) (started : os.Started) (H : Type) (enc : TypeId × Value → H) :
    ReturnsInHanded {} Try.checked os 8 .any (Rows.twiceOneSpec.pre6 enc Try.prog Try.f8 Rows.twiceOneRow.domain false) (Rows.twiceOneSpec.post enc Try.prog Try.f8 false true false false) := by
  refine returnsInHanded_of_change_sized (C := Try.checked) own started (by kernel_rfl) Try.func8
    (ChangeSpec.witness6 (enc := enc) (C := Try.checked) false ⟨#[], #[.agg #[.int .u64 0, .int .i64 0, .int .i64 0], .int .u64 0, .agg #[.slice none 0 0, .slice none 0 0]], []⟩ 8 (by kernel_rfl) (by kernel_rfl) (by kernel_rfl) (by kernel_rfl)) ?_
  intro W base args ds gs before hval0 hW hcnd hsz0 _
  have hsz : (DataW.weightsEach Try.prog (Try.f8.params.toList ++ Rows.twiceOneSpec.plain.varTypes Try.prog) (ds ++ gs)).all (· ≤ reachBytes) = true := hsz0
  have hval : ∀ (j : Nat) t v, Try.f8.params[j]? = some t → args[j]? = some v → Value.okWide Try.prog W .any base t v := hval0
  have hW' := hW
  obtain ⟨p, q, hA0, hV, rfl, hfz, hnd⟩ := hW
  have hA : DataW.TrodAll enc Try.prog W 0 (fun _ => true) true Try.f8.params.toList args.toList ds p := hA0
  rw [Try.params8] at hA hval hsz
  obtain ⟨v0, vs0, d0, ds0, p0, q0, hargs, rfl, rfl, h0, r0⟩ := trodAll_cons hA
  obtain ⟨v1, vs1, d1, ds1, p1, q1, rfl, rfl, rfl, h1, r1⟩ := trodAll_cons r0
  obtain ⟨v2, vs2, d2, ds2, p2, q2, rfl, rfl, rfl, h2, r2⟩ := trodAll_cons r1
  obtain ⟨rfl, rfl, rfl⟩ := trodAll_nil r2
  obtain rfl : args = #[v0, v1, v2] := by cases args; simp_all
  obtain ⟨rfl, rfl⟩ := trodVars_none hV
  have k0 := h0
  have lt0 : ∀ x ∈ p0, x.block < W.heap.size := by obtain ⟨m, hm⟩ := k0; exact DataW.trod_lt m _ _ _ hm
  obtain ⟨cs0, rfl, hn0⟩ := okWide_agg Try.underlying24 (hval 0 24 v0 rfl rfl)
  obtain ⟨⟨x0_0, x0_1, x0_2⟩, K0, ⟨w0_0, w0_1, w0_2⟩⟩ := arg op0 (by show cs0.toList.length = _; rw [Array.length_toList, hn0]; kernel_rfl) h0 hsz (j := 0) rfl rfl
  obtain ⟨g0_0, rg0_0, qg0_0, l0_0, M0_0⟩ := K0
  have l0_0' : g0_0 = [Value.int .u64 x0_0] := l0_0
  obtain ⟨g0_1, rg0_1, qg0_1, l0_1, M0_1⟩ := M0_0
  have l0_1' : g0_1 = [Value.int .i64 x0_1] := l0_1
  have M0_1' : rg0_1 = [Value.int .i64 x0_2] := M0_1
  obtain rfl : cs0 = #[.int .u64 x0_0, .int .i64 x0_1, .int .i64 x0_2] := by
    apply Array.toList_inj.1
    have z0 : cs0.toList = _ := qg0_0
    rw [z0, l0_0', qg0_1, l0_1', M0_1']
    rfl
  have k1 := h1
  have lt1 : ∀ x ∈ p1, x.block < W.heap.size := by obtain ⟨m, hm⟩ := k1; exact DataW.trod_lt m _ _ _ hm
  obtain ⟨x1, rfl⟩ := okWide_int Try.underlying22 (hval 1 22 v1 rfl rfl)
  obtain ⟨y1, e1, w1⟩ := arg op1 rfl h1 hsz (j := 1) rfl rfl
  have e1' : [Value.int .u64 x1] = [Value.int .u64 y1] := e1
  obtain rfl : x1 = y1 := by simpa using e1'
  have k2 := h2
  have lt2 : ∀ x ∈ p2, x.block < W.heap.size := by obtain ⟨m, hm⟩ := k2; exact DataW.trod_lt m _ _ _ hm
  obtain ⟨cs2, rfl, hn2⟩ := okWide_agg Try.underlying50 (hval 2 50 v2 rfl rfl)
  obtain ⟨⟨x2_0, x2_1⟩, K2, ⟨w2_0, w2_1⟩⟩ := arg op2 (by show cs2.toList.length = _; rw [Array.length_toList, hn2]; kernel_rfl) h2 hsz (j := 2) rfl rfl
  obtain ⟨g2_0, rg2_0, qg2_0, l2_0, M2_0⟩ := K2
  obtain ⟨A2_0, c2_0, l2_0', hc2_0, hr2_0⟩ := l2_0
  obtain ⟨A2_1, c2_1, M2_0', hc2_1, hr2_1⟩ := M2_0
  obtain rfl : cs2 = #[.slice A2_0 x2_0.length c2_0, .slice A2_1 x2_1.length c2_1] := by
    apply Array.toList_inj.1
    have z2 : cs2.toList = _ := qg2_0
    rw [z2, l2_0', M2_0']
    rfl
  clear hA0 hval0 hsz0 hsz
  obtain ⟨k, h⟩ := L.twiceOne x0_0 x0_1 x0_2 x1 x2_0 x2_1 w0_0 w0_1 w0_2 w1 w2_0 w2_1
  refine (juntolaw07_TwiceOne.calls k x0_0 x0_1 x0_2 x1 _ _ x2_0 _ _ x2_1 true W hr2_0 hc2_0 hr2_1 hc2_1 h).mono fun e W' ⟨he, bel⟩ => ?_
  subst he
  exact ⟨_, rfl, _, _, _, [], _, [], hW', trodAll_mk1 (shut_bool Try.underlying4 _), (trodAll_cons_mk (Below.trod laidOut (by kernel_rfl) (of_decide_eq_true (by kernel_rfl)) k0 bel lt0) (trodAll_cons_mk (Below.trod laidOut (by kernel_rfl) (of_decide_eq_true (by kernel_rfl)) k1 bel lt1) (trodAll_cons_mk (Below.trod laidOut (by kernel_rfl) (of_decide_eq_true (by kernel_rfl)) k2 bel lt2) trodAll_mk0))), rfl, bel.frame _, fun h => by cases h⟩
set_option maxRecDepth 100000 in
theorem closed : joinedFacts Try.pinned.checked.prog 8 Try.f8 Rows.twiceOneSpec Rows.twiceOneRow = true := by
  unfold joinedFacts
  repeat' with_reducible refine Bool.and_eq_true_iff.2 ⟨?_, ?_⟩
  all_goals first
    | with_reducible exact Facts.enters
    | (rw [Facts.final]; kernel_rfl)
    | (rw [Facts.made]; kernel_rfl)
    | kernel_rfl
theorem over : Rows.twiceOneRow.holds Try.pinned (OpenSpec.ofChange Rows.twiceOneSpec) :=
  OpenClaim.holds_of_wide 8 Try.f8 rfl rfl rfl rfl rfl rfl rfl ⟨rfl, rfl, rfl, rfl, rfl⟩ rfl rfl rfl rfl rfl (by kernel_rfl) Try.func8 closed
    (of_decide_eq_true (by kernel_rfl)) (by unfold Func.isWrapper; first | (rw [if_pos (by decide +kernel)]; kernel_rfl) | (rw [if_neg (by decide +kernel)]; exact ⟨rfl, rfl⟩))
    (fun os started H enc _ => lifted os started H enc)
theorem proved : Rows.TwiceOneSaid := over
#print axioms proved
end Go.Proofs.Ytjjnfobeeflnhaa.twiceOne
namespace Go.Proofs.Ytjjnfobeeflnhaa
/-- The row, under a short name, for the claim. -/
theorem twiceOne_holds : Rows.TwiceOneSaid := twiceOne.proved
end Go.Proofs.Ytjjnfobeeflnhaa
