/- Part 2 of the proof of CheckLists: what the functions compute as plain Lean functions, that the machine comes to just these answers, and that the answer is true; no conditions. -/
import Derived.Test.YtefhaojjohddaaaGreatDoorCheckListsZ0
import Derived.Test.YtefhaojjohddaaaGreatDoorCheckListsZ1
import Derived.Deep.Slices
import Derived.ChangeArms
import Derived.DataReads
import Derived.SizedLaws
import Derived.WideShapes
import Derived.OpenShut
import Derived.Test.YtefhaojjohddaaaGreatDoorRows
import Derived.Test.YtefhaojjohddaaaGreatDoorCards
import Derived.Test.YtefhaojjohddaaaGreatDoorTie
import Derived.WalkKit
import Derived.ProofKit
import Derived.ShutString
import Derived.ChangeOld
import Derived.Below
import Derived.LaidMore
import Derived.Stop.Joined
import Derived.Handed
import Derived.SevenTiedAt
/- What Go functions of the program compute, as plain Lean functions, and that the machine comes to just these answers (written by a program for this seat). -/
namespace Go.Proofs.YtefhaojjohddaaaGreatDoor.J
open Go.RowKit Go.Proofs.YtefhaojjohddaaaGreatDoorW.PrintWords Go.Proofs.YtefhaojjohddaaaGreatDoorW.PrintLast Go.Proofs.YtefhaojjohddaaaGreatDoorW.PrintMore
attribute [local go_sem] max2_int min2_int max_two min_two max_three min_three max_four min_four   -- for this text's walks alone
set_option linter.unusedVariables false
set_option linter.unusedSimpArgs false

/-! ### juntoref10_List: function 22 -/
mutual
def juntoref10_List.j0 : Nat → List (S23) → Bool → Option (Int × Int × Int × Bool × Int)
  | 0, _, _ => none
  | k + 1, x0, x14 => if x14 = true then (some (0, 0, 0, false, 9)) else (if 0 < (x0.length : Int) then (juntoref10_List.l0 k x0 x0 (x0.length : Int) 0 ((rd_T23 x0 0).f0) ((rd_T23 x0 0).f1) ((rd_T23 x0 0).f2) ((rd_T23 x0 0).f3)) else (none))
def juntoref10_List.l0 : Nat → List (S23) → List (S23) → Int → Int → Int → Int → Int → Bool → Option (Int × Int × Int × Bool × Int)
  | 0, _, _, _, _, _, _, _, _ => none
  | k + 1, x0, x19, x20, x21, x560000, x560001, x560002, x560003 => if x21 < x20 then (if 0 ≤ x21 then (if x21 < (x19.length : Int) then ((juntoref10_IsType.f k ((rd_T23 x19 x21).f0) ((rd_T23 x19 x21).f1) ((rd_T23 x19 x21).f2) ((rd_T23 x19 x21).f3)).bind fun t562 => (if t562 = true then (if ((rd_T23 x19 x21).f2) > 0 then (some (0, 0, 0, false, 9)) else (if 0 < (x0.length : Int) then ((juntoref10_Alike.f ((rd_T23 x19 x21).f0) ((rd_T23 x19 x21).f1) ((rd_T23 x19 x21).f2) ((rd_T23 x19 x21).f3) ((rd_T23 x0 0).f0) ((rd_T23 x0 0).f1) ((rd_T23 x0 0).f2) ((rd_T23 x0 0).f3)).bind fun t564 => (if t564 = true then (if x560003 = true then (juntoref10_List.l0 k x0 x19 x20 (wrap64 (x21 + 1)) x560000 x560001 x560002 true) else (juntoref10_List.l0 k x0 x19 x20 (wrap64 (x21 + 1)) x560000 x560001 x560002 ((rd_T23 x19 x21).f3))) else (some (0, 0, 0, false, 9)))) else (none))) else (some (0, 0, 0, false, 9)))) else (none)) else (none)) else (some (x560000, x560001, (x0.length : Int), x560003, 0))
end
def juntoref10_List.f (k : Nat) (l0 : List (S23)) : Option (Int × Int × Int × Bool × Int) := if (l0.length : Int) < 1 then (juntoref10_List.j0 k l0 true) else (juntoref10_List.j0 k l0 (decide ((l0.length : Int) > 32)))
theorem juntoref10_List.mono_l : ∀ k, (∀ y0 y1, LeO (juntoref10_List.j0 k y0 y1) (juntoref10_List.j0 (k + 1) y0 y1)) ∧ (∀ y0 y1 y2 y3 y4 y5 y6 y7, LeO (juntoref10_List.l0 k y0 y1 y2 y3 y4 y5 y6 y7) (juntoref10_List.l0 (k + 1) y0 y1 y2 y3 y4 y5 y6 y7))
  | 0 => ⟨fun _ _ r h => by simp [juntoref10_List.j0] at h, fun _ _ _ _ _ _ _ _ r h => by simp [juntoref10_List.l0] at h⟩
  | k + 1 => by
    obtain ⟨ih0, ih1⟩ := juntoref10_List.mono_l k
    refine ⟨?_, ?_⟩
    · intro y0 y1
      unfold juntoref10_List.j0
      repeat' first
      | (with_reducible exact ih0 _ _)
      | (with_reducible exact ih1 _ _ _ _ _ _ _ _)
      | (with_reducible exact juntoref10_IsType.mono _ _ _ _ _)
      | (with_reducible exact LeO.refl _)
      | (with_reducible exact LeO.none _)
      | (with_reducible refine LeO.ite ?_ ?_)
      | (with_reducible refine LeO.bind ?_ (fun _ => ?_))
      | exact ih0 _ _
      | exact ih1 _ _ _ _ _ _ _ _
      | exact juntoref10_IsType.mono _ _ _ _ _
      | exact LeO.none _
      | refine LeO.ite ?_ ?_
      | refine LeO.bind ?_ (fun _ => ?_)
    · intro y0 y1 y2 y3 y4 y5 y6 y7
      unfold juntoref10_List.l0
      repeat' first
      | (with_reducible exact ih0 _ _)
      | (with_reducible exact ih1 _ _ _ _ _ _ _ _)
      | (with_reducible exact juntoref10_IsType.mono _ _ _ _ _)
      | (with_reducible exact LeO.refl _)
      | (with_reducible exact LeO.none _)
      | (with_reducible refine LeO.ite ?_ ?_)
      | (with_reducible refine LeO.bind ?_ (fun _ => ?_))
      | exact ih0 _ _
      | exact ih1 _ _ _ _ _ _ _ _
      | exact juntoref10_IsType.mono _ _ _ _ _
      | exact LeO.none _
      | refine LeO.ite ?_ ?_
      | refine LeO.bind ?_ (fun _ => ?_)
theorem juntoref10_List.mono : ∀ a0 k, LeO (juntoref10_List.f k a0) (juntoref10_List.f (k + 1) a0) := by
  intro a0 k
  obtain ⟨ih0, ih1⟩ := juntoref10_List.mono_l k
  unfold juntoref10_List.f
  repeat' first
      | (with_reducible exact ih0 _ _)
      | (with_reducible exact ih1 _ _ _ _ _ _ _ _)
      | (with_reducible exact juntoref10_IsType.mono _ _ _ _ _)
      | (with_reducible exact LeO.refl _)
      | (with_reducible exact LeO.none _)
      | (with_reducible refine LeO.ite ?_ ?_)
      | (with_reducible refine LeO.bind ?_ (fun _ => ?_))
      | exact ih0 _ _
      | exact ih1 _ _ _ _ _ _ _ _
      | exact juntoref10_IsType.mono _ _ _ _ _
      | exact LeO.none _
      | refine LeO.ite ?_ ?_
      | refine LeO.bind ?_ (fun _ => ?_)
def juntoref10_List.T7 : Bool × List (List Nat × List Nat) := (true, [([], []), ([0], [0]), ([1], [1]), ([2, 1], [2]), ([3], [3]), ([4, 3], [3, 4]), ([5, 3], [3, 5]), ([3, 6], [3, 6]), ([7, 3], [7]), ([8], [8]), ([8], [8]), ([10, 8], [8, 10]), ([11, 8], [8, 11]), ([9, 12, 8, 8], [8, 9, 12]), ([13, 8], [8, 13]), ([8, 14], [8, 14])])
def juntoref10_List.B7 : List Nat := [0, 1, 3, 7, 15, 31, 63, 127, 255, 511, 511, 1535, 3583, 8191, 16383, 32767]
theorem juntoref10_List.tab7 : rtab .any (opsOf Tryz.f22 7) = juntoref10_List.T7 := by kernel_rfl
theorem juntoref10_List.bits7 : waitsOk juntoref10_List.T7.2 juntoref10_List.B7 = true := by kernel_rfl
set_option maxHeartbeats 8000000 in
set_option maxRecDepth 100000 in
theorem juntoref10_List.calls (k : Nat) (A0 : Option Addr) (c0 : Nat) (l0 : List (S23)) (r1 : Int) (r2 : Int) (r3 : Int) (r4 : Bool) (r5 : Int) (w : World) (hr0 : Kd.C k23 w A0 l0.length l0) (hc0 : l0.length ≤ c0) (h : juntoref10_List.f k l0 = some (r1, r2, r3, r4, r5)) :
    Calls Tryz.prog 22 #[.slice A0 l0.length c0] w fun e w' => e = .returned (.tuple #[.agg #[.int .i64 r1, .int .i64 r2, .int .i64 r3, .bool r4], .int .i64 r5]) ∧ Below w.heap.size w w' := by
  have hu23 := Tryz.underlying23
  have HR0 := Aside0.mk hr0
  have HC0 := Aside0.mk hc0
  clear hr0 hc0
  have HB := Aside0.mk (Below.refl w.heap.size w)
  have H : (if (l0.length : Int) < 1 then (juntoref10_List.j0 k l0 true) else (juntoref10_List.j0 k l0 (decide ((l0.length : Int) > 32)))) = some (r1, r2, r3, r4, r5) := h
  clear h
  have HC2 := Aside0.mk H
  clear H
  go_enter Tryz.func22, Tryz.ntmps22
  go_upto_region 1 with (first | ((with_reducible refine gate_dst (N := 2) rfl ?_); (try (refine gate_guard (by rfl) ?_; dsimp only)); refine box_event ?hg (N := 2) ?hd (cs := #[.int .i64 0, .int .i64 0, .int .i64 0, .bool false]) (t := 23) ?hr ?_; (case hd => rfl); (case hg => rfl); (case hr => first | (go_simp; done) | (go_simp; rfl)); intro gb557 hg w3 hbox hb; have n0_ := Aside0.mk (below_step (by repeat (first | (with_reducible first | exact HB.out | apply below_alloc | apply pw_below_drewN | apply below_drew1) | exact HB.out)) hb); have n1_ := Aside0.mk (hbox); have n2_ := Aside0.mk ((by rw [hg]; exact (below_size (by repeat (first | (with_reducible first | exact HB.out | apply below_alloc | apply pw_below_drewN | apply below_drew1) | exact HB.out))) : w.heap.size ≤ gb557)); have n3_ := Aside0.mk ((by rw [hg]; exact (below_size (by repeat (first | (with_reducible first | exact HB.out | apply below_alloc | apply pw_below_drewN | apply below_drew1) | exact HB.out))) : w.heap.size ≤ gb557)); clear HB; have HB := n0_; have BK557 := n1_; have GW557 := n2_; have GE557 := n3_; clear n0_ n1_ n2_ n3_; clear hb hbox hg))
  (try simp only [Act.put, List.setIfInBounds_toArray, List.set_cons_zero, List.set_cons_succ])
  go_cut [14] (fun v14 wc => ∃ (kq : Nat) (x14_1 : Bool), v14 = .bool x14_1 ∧ Aside0 (juntoref10_List.j0 kq l0 x14_1 = some (r1, r2, r3, r4, r5)) ∧ Aside0 (kq ≤ k) ∧ Aside0 (wc.heap[gb557]? = some (.cells #[.int .i64 0, .int .i64 0, .int .i64 0, .bool false] 23 (0, 0))) ∧ Aside0 (Below w.heap.size w wc))
  case first =>
    have H := HC2.out
    clear HC2
    by_cases c4 : (l0.length : Int) < 1
    · rw [if_pos c4] at H
      have c4b0 : decide ((l0.length : Int) < 1) = true := decide_eq_true c4
      have c4b1 : decide (l0.length < 1) = true := decide_eq_true (by omega)
      clear c4
      (first | rw [c4b0] | (simp only [i64_w, i32_w]; rw [c4b0]) | skip)
      have H' := Aside0.mk H
      clear H
      go_wp2
      go_meet
      case rel => exact ⟨_, (true), (by first | rfl | (simp; done) | (simp [*]; done)), H', ⟨by first | omega | exact Nat.le_refl _⟩, ⟨by (with_reducible repeat (first | refine blk_drewN ?_ _ | refine blk_drew ?_ | refine blk_alloc ?_ _)); exact BK557.out⟩, ⟨by repeat (first | (with_reducible first | exact HB.out | apply below_alloc | apply pw_below_drewN | apply below_drew1 | refine below_set ?_ GE557.out) | exact HB.out)⟩⟩
    · rw [if_neg c4] at H
      have c4b0 : decide ((l0.length : Int) < 1) = false := decide_eq_false c4
      have c4b1 : decide (l0.length < 1) = false := decide_eq_false (by omega)
      clear c4
      (first | rw [c4b0] | (simp only [i64_w, i32_w]; rw [c4b0]) | skip)
      have H' := Aside0.mk H
      clear H
      go_wp2
      go_meet
      case rel => exact ⟨_, (decide ((l0.length : Int) > 32)), (by first | rfl | (simp; done) | (simp [*]; done)), H', ⟨by first | omega | exact Nat.le_refl _⟩, ⟨by (with_reducible repeat (first | refine blk_drewN ?_ _ | refine blk_drew ?_ | refine blk_alloc ?_ _)); exact BK557.out⟩, ⟨by repeat (first | (with_reducible first | exact HB.out | apply below_alloc | apply pw_below_drewN | apply below_drew1 | refine below_set ?_ GE557.out) | exact HB.out)⟩⟩
  case rest =>
    clear HC2
    try clear c2
    try clear p2
    try clear c4
    try clear c4b0
    try clear c4b1
    obtain ⟨kq, x14_1, rfl, HA, HJ1, BK557, HB⟩ := hcut
    cases kq with
    | zero => exact absurd HA.out (by simp [juntoref10_List.j0])
    | succ kj1 =>
      have H := HA.out
      clear HA
      simp only [juntoref10_List.j0] at H
      by_cases c5 : x14_1 = true
      · subst c5
        have H1 : (some (0, 0, 0, false, 9)) = some (r1, r2, r3, r4, r5) := by rw [if_pos rfl] at H; exact H
        clear H
        have H := H1
        clear H1
        simp only [Option.some.injEq, Prod.mk.injEq] at H
        obtain ⟨rfl, rfl, rfl, rfl, rfl⟩ := H
        have hcz6_0 : wc.cell? ⟨gb557, 0, none⟩ = some (.int .i64 0) := (blk_cell BK557.out 0).trans rfl
        have hcz6_1 : wc.cell? ⟨gb557, 1, none⟩ = some (.int .i64 0) := (blk_cell BK557.out 1).trans rfl
        have hcz6_2 : wc.cell? ⟨gb557, 2, none⟩ = some (.int .i64 0) := (blk_cell BK557.out 2).trans rfl
        have hcz6_3 : wc.cell? ⟨gb557, 3, none⟩ = some (.bool false) := (blk_cell BK557.out 3).trans rfl
        have hfz6_0 := blk_frozen BK557.out 0
        have hfz6_1 := blk_frozen BK557.out 1
        have hfz6_2 := blk_frozen BK557.out 2
        have hfz6_3 := blk_frozen BK557.out 3
        go_wp2
        refine bodyPost_ret (results_ct rfl _ _ gb557 23 #[.int .i64 0, .int .i64 0, .int .i64 0, .bool false] (0, 0) _ rfl (by (with_reducible repeat (first | refine blk_drewN ?_ _ | refine blk_drew ?_ | refine blk_alloc ?_ _)); refine blk_put (cs := #[.int .i64 0, .int .i64 0, .int .i64 0, .bool false]) ?_ 3 _ rfl; (with_reducible repeat (first | refine blk_drewN ?_ _ | refine blk_drew ?_ | refine blk_alloc ?_ _)); refine blk_put (cs := #[.int .i64 0, .int .i64 0, .int .i64 0, .bool false]) ?_ 2 _ rfl; (with_reducible repeat (first | refine blk_drewN ?_ _ | refine blk_drew ?_ | refine blk_alloc ?_ _)); refine blk_put (cs := #[.int .i64 0, .int .i64 0, .int .i64 0, .bool false]) ?_ 1 _ rfl; (with_reducible repeat (first | refine blk_drewN ?_ _ | refine blk_drew ?_ | refine blk_alloc ?_ _)); refine blk_put (cs := #[.int .i64 0, .int .i64 0, .int .i64 0, .bool false]) ?_ 0 _ rfl; (with_reducible repeat (first | refine blk_drewN ?_ _ | refine blk_drew ?_ | refine blk_alloc ?_ _)); exact BK557.out) Tryz.underlying23 rfl (by kernel_rfl)) rfl ?_
        exact ⟨by first | rfl | (simp [errW_none, errW_some] <;> rfl) | (simp [*, errW_none, errW_some] <;> rfl), by repeat (first | (with_reducible first | exact HB.out | apply below_alloc | apply pw_below_drewN | apply below_drew1 | refine below_set ?_ GE557.out) | exact HB.out)⟩
      · replace c5 := Bool.eq_false_iff.mpr c5
        subst c5
        have H1 : (if 0 < (l0.length : Int) then (juntoref10_List.l0 kj1 l0 l0 (l0.length : Int) 0 ((rd_T23 l0 0).f0) ((rd_T23 l0 0).f1) ((rd_T23 l0 0).f2) ((rd_T23 l0 0).f3)) else (none)) = some (r1, r2, r3, r4, r5) := by rw [if_neg (show ¬ (false = true) by decide)] at H; exact H
        clear H
        have H := H1
        clear H1
        by_cases c7 : 0 < (l0.length : Int)
        · rw [if_pos c7] at H
          have c7b0 : decide (0 < (l0.length : Int)) = true := decide_eq_true c7
          have c7b1 : decide (0 < l0.length) = true := decide_eq_true (by omega)
          clear c7
          have H' := Aside0.mk H
          clear H
          have p558 : 0 ≤ (0 : Int) := (by omega)
          have q558 : 0 < (l0.length : Int) := of_decide_eq_true (by first | (with_reducible assumption) | assumption)
          obtain ⟨ad558, e558, hx558_0, hx558_1, hx558_2, hx558_3⟩ := at_T23 HR0.out 0 p558 q558
          cases e558
          have qi558 : (0 < l0.length) = True := eq_true (by omega)
          (try rw [show ((0 : Int)).toNat = 0 from rfl] at hx558_0)
          (try rw [show 0 * 4 = 0 from rfl] at hx558_0)
          (try rw [Addr.add_zero'] at hx558_0)
          (try rw [show ((0 : Int)).toNat = 0 from rfl] at hx558_1)
          (try rw [show 0 * 4 = 0 from rfl] at hx558_1)
          (try rw [Addr.add_zero'] at hx558_1)
          (try rw [show ((0 : Int)).toNat = 0 from rfl] at hx558_2)
          (try rw [show 0 * 4 = 0 from rfl] at hx558_2)
          (try rw [Addr.add_zero'] at hx558_2)
          (try rw [show ((0 : Int)).toNat = 0 from rfl] at hx558_3)
          (try rw [show 0 * 4 = 0 from rfl] at hx558_3)
          (try rw [Addr.add_zero'] at hx558_3)
          replace hx558_0 := (HB.out.cell (World.block_lt_of_cell? w _ hx558_0)).trans hx558_0
          replace hx558_1 := (HB.out.cell (World.block_lt_of_cell? w _ hx558_1)).trans hx558_1
          replace hx558_2 := (HB.out.cell (World.block_lt_of_cell? w _ hx558_2)).trans hx558_2
          replace hx558_3 := (HB.out.cell (World.block_lt_of_cell? w _ hx558_3)).trans hx558_3
          replace p558 := eq_true p558
          replace q558 := eq_true q558
          go_wp2_with (first | ((with_reducible refine gate_dst (N := 4) rfl ?_); (try (refine gate_guard (by rfl) ?_; dsimp only)); refine box_event ?hg (N := 4) ?hd (cs := #[.int .i64 0, .int .i64 0, .int .i64 0, .bool false]) (t := 23) ?hr ?_; (case hd => rfl); (case hg => rfl); (case hr => first | (go_simp; done) | (go_simp; rfl)); intro gb559 hg w8 hbox hb; have n0_ := Aside0.mk (blk_below (g := gb557) (o := .cells #[.int .i64 0, .int .i64 0, .int .i64 0, .bool false] 23 (0, 0)) (by (with_reducible repeat (first | refine blk_drewN ?_ _ | refine blk_drew ?_ | refine blk_alloc ?_ _)); exact BK557.out) hb); have n1_ := Aside0.mk (below_step (by repeat (first | (with_reducible first | exact HB.out | apply below_alloc | apply pw_below_drewN | apply below_drew1 | refine below_set ?_ GE557.out) | exact HB.out)) hb); have n2_ := Aside0.mk (hbox); have n3_ := Aside0.mk ((by rw [hg]; exact (below_size (by repeat (first | (with_reducible first | exact HB.out | apply below_alloc | apply pw_below_drewN | apply below_drew1 | refine below_set ?_ GE557.out) | exact HB.out))) : w.heap.size ≤ gb559)); have n4_ := Aside0.mk ((by rw [hg]; exact (below_size (by repeat (first | (with_reducible first | exact HB.out | apply below_alloc | apply pw_below_drewN | apply below_drew1 | refine below_set ?_ GE557.out) | exact HB.out))) : w.heap.size ≤ gb559)); have n5_ := Aside0.mk ((by rw [hg]; exact Nat.ne_of_lt (blk_lt (g := gb557) (o := .cells #[.int .i64 0, .int .i64 0, .int .i64 0, .bool false] 23 (0, 0)) (by (with_reducible repeat (first | refine blk_drewN ?_ _ | refine blk_drew ?_ | refine blk_alloc ?_ _)); exact BK557.out)) : gb557 ≠ gb559)); have n6_ := Aside0.mk ((by rw [hg]; exact Nat.ne_of_gt (blk_lt (g := gb557) (o := .cells #[.int .i64 0, .int .i64 0, .int .i64 0, .bool false] 23 (0, 0)) (by (with_reducible repeat (first | refine blk_drewN ?_ _ | refine blk_drew ?_ | refine blk_alloc ?_ _)); exact BK557.out)) : gb559 ≠ gb557)); clear BK557; clear HB; have BK557 := n0_; have HB := n1_; have BK559 := n2_; have GW559 := n3_; have GE559 := n4_; have NB557_559 := n5_; have NB559_557 := n6_; clear n0_ n1_ n2_ n3_ n4_ n5_ n6_; clear hb hbox hg; have hnb9 := NB559_557.out; have hnc9 := NB557_559.out; have hcz10_0 : w8.cell? ⟨gb559, 0, none⟩ = some (.int .i64 0) := (blk_cell BK559.out 0).trans rfl; have hcz10_1 : w8.cell? ⟨gb559, 1, none⟩ = some (.int .i64 0) := (blk_cell BK559.out 1).trans rfl; have hcz10_2 : w8.cell? ⟨gb559, 2, none⟩ = some (.int .i64 0) := (blk_cell BK559.out 2).trans rfl; have hcz10_3 : w8.cell? ⟨gb559, 3, none⟩ = some (.bool false) := (blk_cell BK559.out 3).trans rfl; have hfz10_0 := blk_frozen BK559.out 0; have hfz10_1 := blk_frozen BK559.out 1; have hfz10_2 := blk_frozen BK559.out 2; have hfz10_3 := blk_frozen BK559.out 3))
          go_loopg [21] kj1 (fun kq v21 w' => ∃ (x21_2 : Int) (x558000_2 : Int) (x558001_2 : Int) (x558002_2 : Int) (x558003_2 : Bool) (x560003_2 : Bool), v21 = .int .i64 x21_2 ∧ Aside0 (juntoref10_List.l0 kq l0 l0 (l0.length : Int) x21_2 ((rd_T23 l0 0).f0) ((rd_T23 l0 0).f1) ((rd_T23 l0 0).f2) x560003_2 = some (r1, r2, r3, r4, r5)) ∧ Aside0 (kq ≤ kj1) ∧ Aside0 (w'.heap[gb557]? = some (.cells #[.int .i64 x558000_2, .int .i64 x558001_2, .int .i64 x558002_2, .bool x558003_2] 23 (0, 0))) ∧ Aside0 (w'.heap[gb559]? = some (.cells #[.int .i64 ((rd_T23 l0 0).f0), .int .i64 ((rd_T23 l0 0).f1), .int .i64 ((rd_T23 l0 0).f2), .bool x560003_2] 23 (0, 0))) ∧ Aside0 (Below w.heap.size w w'))
          case atStart => exact ⟨(0), (0), (0), (0), (false), ((rd_T23 l0 0).f3), (by first | rfl | (simp; done) | (simp [*]; done)), H', ⟨Nat.le_refl _⟩, ⟨by (with_reducible repeat (first | refine blk_drewN ?_ _ | refine blk_drew ?_ | refine blk_alloc ?_ _)); refine blk_far ?_ NB557_559.out _; (with_reducible repeat (first | refine blk_drewN ?_ _ | refine blk_drew ?_ | refine blk_alloc ?_ _)); refine blk_far ?_ NB557_559.out _; (with_reducible repeat (first | refine blk_drewN ?_ _ | refine blk_drew ?_ | refine blk_alloc ?_ _)); refine blk_far ?_ NB557_559.out _; (with_reducible repeat (first | refine blk_drewN ?_ _ | refine blk_drew ?_ | refine blk_alloc ?_ _)); refine blk_far ?_ NB557_559.out _; (with_reducible repeat (first | refine blk_drewN ?_ _ | refine blk_drew ?_ | refine blk_alloc ?_ _)); exact BK557.out⟩, ⟨by (with_reducible repeat (first | refine blk_drewN ?_ _ | refine blk_drew ?_ | refine blk_alloc ?_ _)); refine blk_put (cs := #[.int .i64 ((rd_T23 l0 0).f0), .int .i64 ((rd_T23 l0 0).f1), .int .i64 ((rd_T23 l0 0).f2), .bool false]) ?_ 3 _ rfl; (with_reducible repeat (first | refine blk_drewN ?_ _ | refine blk_drew ?_ | refine blk_alloc ?_ _)); refine blk_put (cs := #[.int .i64 ((rd_T23 l0 0).f0), .int .i64 ((rd_T23 l0 0).f1), .int .i64 0, .bool false]) ?_ 2 _ rfl; (with_reducible repeat (first | refine blk_drewN ?_ _ | refine blk_drew ?_ | refine blk_alloc ?_ _)); refine blk_put (cs := #[.int .i64 ((rd_T23 l0 0).f0), .int .i64 0, .int .i64 0, .bool false]) ?_ 1 _ rfl; (with_reducible repeat (first | refine blk_drewN ?_ _ | refine blk_drew ?_ | refine blk_alloc ?_ _)); refine blk_put (cs := #[.int .i64 0, .int .i64 0, .int .i64 0, .bool false]) ?_ 0 _ rfl; (with_reducible repeat (first | refine blk_drewN ?_ _ | refine blk_drew ?_ | refine blk_alloc ?_ _)); exact BK559.out⟩, ⟨by repeat (first | (with_reducible first | exact HB.out | apply below_alloc | apply pw_below_drewN | apply below_drew1 | refine below_set ?_ GE557.out | refine below_set ?_ GE559.out) | exact HB.out)⟩⟩
          case round =>
            clear H'
            try clear c2
            try clear p2
            try clear c4
            try clear c4b0
            try clear c4b1
            try clear c5
            try clear p5
            try clear q5
            try clear hx5
            try clear qi5
            try clear c7
            try clear c7b0
            try clear c7b1
            try clear c9
            try clear hcz10_0
            try clear hcz10_1
            try clear hcz10_2
            try clear hcz10_3
            try clear hcz6_0
            try clear hcz6_1
            try clear hcz6_2
            try clear hcz6_3
            try clear hfz10_0
            try clear hfz10_1
            try clear hfz10_2
            try clear hfz10_3
            try clear hfz6_0
            try clear hfz6_1
            try clear hfz6_2
            try clear hfz6_3
            try clear hx558_0
            try clear hx558_1
            try clear hx558_2
            try clear hx558_3
            try clear p2
            try clear p558
            try clear q558
            obtain ⟨x21_2, x558000_2, x558001_2, x558002_2, x558003_2, x560003_2, rfl, HA, HK2, BK557, BK559, HB⟩ := hrel
            cases gk with
            | zero => exact absurd HA.out (by simp [juntoref10_List.l0])
            | succ k2 =>
              have H := HA.out
              clear HA
              simp only [juntoref10_List.l0] at H
              by_cases c11 : x21_2 < (l0.length : Int)
              · rw [if_pos c11] at H
                have c11b0 : decide (x21_2 < (l0.length : Int)) = true := decide_eq_true c11
                clear c11
                by_cases c12 : 0 ≤ x21_2
                · rw [if_pos c12] at H
                  have c12b0 : decide (0 ≤ x21_2) = true := decide_eq_true c12
                  clear c12
                  by_cases c13 : x21_2 < (l0.length : Int)
                  · rw [if_pos c13] at H
                    have c13b0 : decide (x21_2 < (l0.length : Int)) = true := decide_eq_true c13
                    clear c13
                    replace H := Option.bind_eq_some_iff.mp H
                    obtain ⟨t562, A140, H⟩ := H
                    replace H : (if t562 = true then (if ((rd_T23 l0 x21_2).f2) > 0 then (some (0, 0, 0, false, 9)) else (if 0 < (l0.length : Int) then ((juntoref10_Alike.f ((rd_T23 l0 x21_2).f0) ((rd_T23 l0 x21_2).f1) ((rd_T23 l0 x21_2).f2) ((rd_T23 l0 x21_2).f3) ((rd_T23 l0 0).f0) ((rd_T23 l0 0).f1) ((rd_T23 l0 0).f2) ((rd_T23 l0 0).f3)).bind fun t564 => (if t564 = true then (if x560003_2 = true then (juntoref10_List.l0 k2 l0 l0 (l0.length : Int) (wrap64 (x21_2 + 1)) ((rd_T23 l0 0).f0) ((rd_T23 l0 0).f1) ((rd_T23 l0 0).f2) true) else (juntoref10_List.l0 k2 l0 l0 (l0.length : Int) (wrap64 (x21_2 + 1)) ((rd_T23 l0 0).f0) ((rd_T23 l0 0).f1) ((rd_T23 l0 0).f2) ((rd_T23 l0 x21_2).f3))) else (some (0, 0, 0, false, 9)))) else (none))) else (some (0, 0, 0, false, 9))) = some (r1, r2, r3, r4, r5) := H
                    have A14 := Aside0.mk A140
                    clear A140
                    by_cases c15 : t562 = true
                    · subst c15
                      have H1 : (if ((rd_T23 l0 x21_2).f2) > 0 then (some (0, 0, 0, false, 9)) else (if 0 < (l0.length : Int) then ((juntoref10_Alike.f ((rd_T23 l0 x21_2).f0) ((rd_T23 l0 x21_2).f1) ((rd_T23 l0 x21_2).f2) ((rd_T23 l0 x21_2).f3) ((rd_T23 l0 0).f0) ((rd_T23 l0 0).f1) ((rd_T23 l0 0).f2) ((rd_T23 l0 0).f3)).bind fun t564 => (if t564 = true then (if x560003_2 = true then (juntoref10_List.l0 k2 l0 l0 (l0.length : Int) (wrap64 (x21_2 + 1)) ((rd_T23 l0 0).f0) ((rd_T23 l0 0).f1) ((rd_T23 l0 0).f2) true) else (juntoref10_List.l0 k2 l0 l0 (l0.length : Int) (wrap64 (x21_2 + 1)) ((rd_T23 l0 0).f0) ((rd_T23 l0 0).f1) ((rd_T23 l0 0).f2) ((rd_T23 l0 x21_2).f3))) else (some (0, 0, 0, false, 9)))) else (none))) = some (r1, r2, r3, r4, r5) := by rw [if_pos rfl] at H; exact H
                      clear H
                      have H := H1
                      clear H1
                      by_cases c16 : ((rd_T23 l0 x21_2).f2) > 0
                      · rw [if_pos c16] at H
                        have c16b0 : decide (0 < ((rd_T23 l0 x21_2).f2)) = true := decide_eq_true c16
                        clear c16
                        simp only [Option.some.injEq, Prod.mk.injEq] at H
                        obtain ⟨rfl, rfl, rfl, rfl, rfl⟩ := H
                        have p560 : 0 ≤ (x21_2 : Int) := of_decide_eq_true (by first | (with_reducible assumption) | assumption)
                        have q560 : x21_2 < (l0.length : Int) := of_decide_eq_true (by first | (with_reducible assumption) | assumption)
                        obtain ⟨ad560, e560, hx560_0, hx560_1, hx560_2, hx560_3⟩ := at_T23 HR0.out x21_2 p560 q560
                        obtain rfl : ad558 = ad560 := (by injection e560)
                        replace hx560_0 := (HB.out.cell (World.block_lt_of_cell? w _ hx560_0)).trans hx560_0
                        replace hx560_1 := (HB.out.cell (World.block_lt_of_cell? w _ hx560_1)).trans hx560_1
                        replace hx560_2 := (HB.out.cell (World.block_lt_of_cell? w _ hx560_2)).trans hx560_2
                        replace hx560_3 := (HB.out.cell (World.block_lt_of_cell? w _ hx560_3)).trans hx560_3
                        replace p560 := eq_true p560
                        replace q560 := eq_true q560
                        try go_wp2_with (first | ((with_reducible refine gate_dst (N := 6) rfl ?_); (try (refine gate_guard (by rfl) ?_; dsimp only)); refine box_event ?hg (N := 6) ?hd (cs := #[.int .i64 0, .int .i64 0, .int .i64 0, .bool false]) (t := 23) ?hr ?_; (case hd => rfl); (case hg => rfl); (case hr => first | (go_simp; done) | (go_simp; rfl)); intro gb561 hg w17 hbox hb; have n0_ := Aside0.mk (blk_below (g := gb557) (o := .cells #[.int .i64 x558000_2, .int .i64 x558001_2, .int .i64 x558002_2, .bool x558003_2] 23 (0, 0)) (by (with_reducible repeat (first | refine blk_drewN ?_ _ | refine blk_drew ?_ | refine blk_alloc ?_ _)); exact BK557.out) hb); have n1_ := Aside0.mk (blk_below (g := gb559) (o := .cells #[.int .i64 ((rd_T23 l0 0).f0), .int .i64 ((rd_T23 l0 0).f1), .int .i64 ((rd_T23 l0 0).f2), .bool x560003_2] 23 (0, 0)) (by (with_reducible repeat (first | refine blk_drewN ?_ _ | refine blk_drew ?_ | refine blk_alloc ?_ _)); exact BK559.out) hb); have n2_ := Aside0.mk (below_step (by repeat (first | (with_reducible first | exact HB.out | apply below_alloc | apply pw_below_drewN | apply below_drew1 | refine below_set ?_ GE557.out | refine below_set ?_ GE559.out) | exact HB.out)) hb); have n3_ := Aside0.mk (hbox); have n4_ := Aside0.mk ((by rw [hg]; exact (below_size (by repeat (first | (with_reducible first | exact HB.out | apply below_alloc | apply pw_below_drewN | apply below_drew1 | refine below_set ?_ GE557.out | refine below_set ?_ GE559.out) | exact HB.out))) : w.heap.size ≤ gb561)); have n5_ := Aside0.mk ((by rw [hg]; exact (below_size (by repeat (first | (with_reducible first | exact HB.out | apply below_alloc | apply pw_below_drewN | apply below_drew1 | refine below_set ?_ GE557.out | refine below_set ?_ GE559.out) | exact HB.out))) : w.heap.size ≤ gb561)); have n6_ := Aside0.mk ((by rw [hg]; exact Nat.ne_of_lt (blk_lt (g := gb557) (o := .cells #[.int .i64 x558000_2, .int .i64 x558001_2, .int .i64 x558002_2, .bool x558003_2] 23 (0, 0)) (by (with_reducible repeat (first | refine blk_drewN ?_ _ | refine blk_drew ?_ | refine blk_alloc ?_ _)); exact BK557.out)) : gb557 ≠ gb561)); have n7_ := Aside0.mk ((by rw [hg]; exact Nat.ne_of_gt (blk_lt (g := gb557) (o := .cells #[.int .i64 x558000_2, .int .i64 x558001_2, .int .i64 x558002_2, .bool x558003_2] 23 (0, 0)) (by (with_reducible repeat (first | refine blk_drewN ?_ _ | refine blk_drew ?_ | refine blk_alloc ?_ _)); exact BK557.out)) : gb561 ≠ gb557)); have n8_ := Aside0.mk ((by rw [hg]; exact Nat.ne_of_lt (blk_lt (g := gb559) (o := .cells #[.int .i64 ((rd_T23 l0 0).f0), .int .i64 ((rd_T23 l0 0).f1), .int .i64 ((rd_T23 l0 0).f2), .bool x560003_2] 23 (0, 0)) (by (with_reducible repeat (first | refine blk_drewN ?_ _ | refine blk_drew ?_ | refine blk_alloc ?_ _)); exact BK559.out)) : gb559 ≠ gb561)); have n9_ := Aside0.mk ((by rw [hg]; exact Nat.ne_of_gt (blk_lt (g := gb559) (o := .cells #[.int .i64 ((rd_T23 l0 0).f0), .int .i64 ((rd_T23 l0 0).f1), .int .i64 ((rd_T23 l0 0).f2), .bool x560003_2] 23 (0, 0)) (by (with_reducible repeat (first | refine blk_drewN ?_ _ | refine blk_drew ?_ | refine blk_alloc ?_ _)); exact BK559.out)) : gb561 ≠ gb559)); clear BK557; clear BK559; clear HB; have BK557 := n0_; have BK559 := n1_; have HB := n2_; have BK561 := n3_; have GW561 := n4_; have GE561 := n5_; have NB557_561 := n6_; have NB561_557 := n7_; have NB559_561 := n8_; have NB561_559 := n9_; clear n0_ n1_ n2_ n3_ n4_ n5_ n6_ n7_ n8_ n9_; clear hb hbox hg; have hnb18 := NB561_557.out; have hnc18 := NB557_561.out; have hnb19 := NB561_559.out; have hnc19 := NB559_561.out; have hcz20_0 : w17.cell? ⟨gb561, 0, none⟩ = some (.int .i64 0) := (blk_cell BK561.out 0).trans rfl; have hcz20_1 : w17.cell? ⟨gb561, 1, none⟩ = some (.int .i64 0) := (blk_cell BK561.out 1).trans rfl; have hcz20_2 : w17.cell? ⟨gb561, 2, none⟩ = some (.int .i64 0) := (blk_cell BK561.out 2).trans rfl; have hcz20_3 : w17.cell? ⟨gb561, 3, none⟩ = some (.bool false) := (blk_cell BK561.out 3).trans rfl; have hfz20_0 := blk_frozen BK561.out 0; have hfz20_1 := blk_frozen BK561.out 1; have hfz20_2 := blk_frozen BK561.out 2; have hfz20_3 := blk_frozen BK561.out 3))
                        have n0_ : Aside0 (((((w17.setCell ⟨gb561, 0, none⟩ (.int .i64 ((rd_T23 l0 x21_2).f0))).setCell ⟨gb561, 1, none⟩ (.int .i64 ((rd_T23 l0 x21_2).f1))).setCell ⟨gb561, 2, none⟩ (.int .i64 ((rd_T23 l0 x21_2).f2))).setCell ⟨gb561, 3, none⟩ (.bool ((rd_T23 l0 x21_2).f3))).heap[gb557]? = some (.cells #[.int .i64 x558000_2, .int .i64 x558001_2, .int .i64 x558002_2, .bool x558003_2] 23 (0, 0))) := ⟨by (with_reducible repeat (first | refine blk_drewN ?_ _ | refine blk_drew ?_ | refine blk_alloc ?_ _)); refine blk_far ?_ NB557_561.out _; (with_reducible repeat (first | refine blk_drewN ?_ _ | refine blk_drew ?_ | refine blk_alloc ?_ _)); refine blk_far ?_ NB557_561.out _; (with_reducible repeat (first | refine blk_drewN ?_ _ | refine blk_drew ?_ | refine blk_alloc ?_ _)); refine blk_far ?_ NB557_561.out _; (with_reducible repeat (first | refine blk_drewN ?_ _ | refine blk_drew ?_ | refine blk_alloc ?_ _)); refine blk_far ?_ NB557_561.out _; (with_reducible repeat (first | refine blk_drewN ?_ _ | refine blk_drew ?_ | refine blk_alloc ?_ _)); exact BK557.out⟩
                        have n1_ : Aside0 (((((w17.setCell ⟨gb561, 0, none⟩ (.int .i64 ((rd_T23 l0 x21_2).f0))).setCell ⟨gb561, 1, none⟩ (.int .i64 ((rd_T23 l0 x21_2).f1))).setCell ⟨gb561, 2, none⟩ (.int .i64 ((rd_T23 l0 x21_2).f2))).setCell ⟨gb561, 3, none⟩ (.bool ((rd_T23 l0 x21_2).f3))).heap[gb559]? = some (.cells #[.int .i64 ((rd_T23 l0 0).f0), .int .i64 ((rd_T23 l0 0).f1), .int .i64 ((rd_T23 l0 0).f2), .bool x560003_2] 23 (0, 0))) := ⟨by (with_reducible repeat (first | refine blk_drewN ?_ _ | refine blk_drew ?_ | refine blk_alloc ?_ _)); refine blk_far ?_ NB559_561.out _; (with_reducible repeat (first | refine blk_drewN ?_ _ | refine blk_drew ?_ | refine blk_alloc ?_ _)); refine blk_far ?_ NB559_561.out _; (with_reducible repeat (first | refine blk_drewN ?_ _ | refine blk_drew ?_ | refine blk_alloc ?_ _)); refine blk_far ?_ NB559_561.out _; (with_reducible repeat (first | refine blk_drewN ?_ _ | refine blk_drew ?_ | refine blk_alloc ?_ _)); refine blk_far ?_ NB559_561.out _; (with_reducible repeat (first | refine blk_drewN ?_ _ | refine blk_drew ?_ | refine blk_alloc ?_ _)); exact BK559.out⟩
                        have n2_ : Aside0 (((((w17.setCell ⟨gb561, 0, none⟩ (.int .i64 ((rd_T23 l0 x21_2).f0))).setCell ⟨gb561, 1, none⟩ (.int .i64 ((rd_T23 l0 x21_2).f1))).setCell ⟨gb561, 2, none⟩ (.int .i64 ((rd_T23 l0 x21_2).f2))).setCell ⟨gb561, 3, none⟩ (.bool ((rd_T23 l0 x21_2).f3))).heap[gb561]? = some (.cells #[.int .i64 ((rd_T23 l0 x21_2).f0), .int .i64 ((rd_T23 l0 x21_2).f1), .int .i64 ((rd_T23 l0 x21_2).f2), .bool ((rd_T23 l0 x21_2).f3)] 23 (0, 0))) := ⟨by (with_reducible repeat (first | refine blk_drewN ?_ _ | refine blk_drew ?_ | refine blk_alloc ?_ _)); refine blk_put (cs := #[.int .i64 ((rd_T23 l0 x21_2).f0), .int .i64 ((rd_T23 l0 x21_2).f1), .int .i64 ((rd_T23 l0 x21_2).f2), .bool false]) ?_ 3 _ rfl; (with_reducible repeat (first | refine blk_drewN ?_ _ | refine blk_drew ?_ | refine blk_alloc ?_ _)); refine blk_put (cs := #[.int .i64 ((rd_T23 l0 x21_2).f0), .int .i64 ((rd_T23 l0 x21_2).f1), .int .i64 0, .bool false]) ?_ 2 _ rfl; (with_reducible repeat (first | refine blk_drewN ?_ _ | refine blk_drew ?_ | refine blk_alloc ?_ _)); refine blk_put (cs := #[.int .i64 ((rd_T23 l0 x21_2).f0), .int .i64 0, .int .i64 0, .bool false]) ?_ 1 _ rfl; (with_reducible repeat (first | refine blk_drewN ?_ _ | refine blk_drew ?_ | refine blk_alloc ?_ _)); refine blk_put (cs := #[.int .i64 0, .int .i64 0, .int .i64 0, .bool false]) ?_ 0 _ rfl; (with_reducible repeat (first | refine blk_drewN ?_ _ | refine blk_drew ?_ | refine blk_alloc ?_ _)); exact BK561.out⟩
                        have n3_ : Aside0 (Below w.heap.size w ((((w17.setCell ⟨gb561, 0, none⟩ (.int .i64 ((rd_T23 l0 x21_2).f0))).setCell ⟨gb561, 1, none⟩ (.int .i64 ((rd_T23 l0 x21_2).f1))).setCell ⟨gb561, 2, none⟩ (.int .i64 ((rd_T23 l0 x21_2).f2))).setCell ⟨gb561, 3, none⟩ (.bool ((rd_T23 l0 x21_2).f3)))) := ⟨by repeat (first | (with_reducible first | exact HB.out | apply below_alloc | apply pw_below_drewN | apply below_drew1 | refine below_set ?_ GE557.out | refine below_set ?_ GE559.out | refine below_set ?_ GE561.out) | exact HB.out)⟩
                        (try clear BK557)
                        (try clear BK559)
                        (try clear BK561)
                        (try clear HB)
                        generalize ((((w17.setCell ⟨gb561, 0, none⟩ (.int .i64 ((rd_T23 l0 x21_2).f0))).setCell ⟨gb561, 1, none⟩ (.int .i64 ((rd_T23 l0 x21_2).f1))).setCell ⟨gb561, 2, none⟩ (.int .i64 ((rd_T23 l0 x21_2).f2))).setCell ⟨gb561, 3, none⟩ (.bool ((rd_T23 l0 x21_2).f3))) = w21 at n0_ n1_ n2_ n3_ ⊢
                        have BK557 := n0_
                        have BK559 := n1_
                        have BK561 := n2_
                        have HB := n3_
                        clear n0_ n1_ n2_ n3_
                        have n0_ := Aside0.mk (blk_drew BK557.out)
                        have n1_ := Aside0.mk (blk_drew BK559.out)
                        have n2_ := Aside0.mk (blk_drew BK561.out)
                        have n3_ := Aside0.mk (below_drew1 HB.out)
                        clear BK557
                        clear BK559
                        clear BK561
                        clear HB
                        have BK557 := n0_
                        have BK559 := n1_
                        have BK561 := n2_
                        have HB := n3_
                        clear n0_ n1_ n2_ n3_
                        refine start_ (n := 16) (S := fun w' => w'.cell? ⟨gb561, 0, none⟩ = some (.int .i64 ((rd_T23 l0 x21_2).f0)) ∧ w'.cell? ⟨gb561, 1, none⟩ = some (.int .i64 ((rd_T23 l0 x21_2).f1)) ∧ w'.cell? ⟨gb561, 2, none⟩ = some (.int .i64 ((rd_T23 l0 x21_2).f2)) ∧ w'.cell? ⟨gb561, 3, none⟩ = some (.bool ((rd_T23 l0 x21_2).f3))) (ds := []) #[false, false, false, false, false, false, false, false, false, false, false, false, false, false, false, false] (by kernel_rfl) rfl rfl ⟨(blk_cell BK561.out 0).trans rfl, (blk_cell BK561.out 1).trans rfl, (blk_cell BK561.out 2).trans rfl, (blk_cell BK561.out 3).trans rfl⟩ (fun hHeld => ?_); refine with_tabW juntoref10_List.tab7 juntoref10_List.bits7 (fun HT_ HW_ => ?_)
                        generalize w21.drew = w22 at BK557 BK559 BK561 HB hHeld ⊢
                        refine take_ (i := 0) (N := some 25) (v := ?_) (a' := ?_) #[true, false, false, false, false, false, false, false, false, false, false, false, false, false, false, false] rfl rfl (take_ofW HT_.out HW_.out (by kernel_rfl)) (fun _ _ _ h => h) (Or.inl ⟨by rfl, ?_⟩) hHeld ?_ ?_
                        rotate_left
                        · rintro w' ⟨s0, s1, s2, s3⟩
                          go_simp
                          with_reducible rfl
                        rotate_left
                        · simp only [Act.put, List.setIfInBounds_toArray, List.set_cons_zero, List.set_cons_succ, i64_w, i32_w]
                          rfl
                        refine one_ (i := 1) (N := some 26) #[true, true, false, false, false, false, false, false, false, false, false, false, false, false, false, false] rfl rfl (one_of HT_.out (by kernel_rfl)) (by decide) (fun K hK => ?_)
                        refine goes_ Tryz.func11 (by kernel_rfl) rfl #[.agg #[.int .i64 ((rd_T23 l0 x21_2).f0), .int .i64 ((rd_T23 l0 x21_2).f1), .int .i64 ((rd_T23 l0 x21_2).f2), .bool ((rd_T23 l0 x21_2).f3)]] (by rfl) rfl rfl (by (try simp only [List.map_toArray, List.map_cons, List.map_nil]); first | done | rfl | (simp only [List.length_drop, List.length_take]; rfl)) ?_
                        with_reducible refine (juntoref10_IsType.calls k2 ((rd_T23 l0 x21_2).f0) ((rd_T23 l0 x21_2).f1) ((rd_T23 l0 x21_2).f2) ((rd_T23 l0 x21_2).f3) true _ A14.out).mono ?_
                        rintro e w23 ⟨rfl, hb⟩
                        refine ⟨_, rfl, ?_⟩
                        have n0_ := Aside0.mk (blk_below (g := gb557) (o := .cells #[.int .i64 x558000_2, .int .i64 x558001_2, .int .i64 x558002_2, .bool x558003_2] 23 (0, 0)) (by (with_reducible repeat (first | refine blk_drewN ?_ _ | refine blk_drew ?_ | refine blk_alloc ?_ _)); exact BK557.out) hb)
                        have n1_ := Aside0.mk (blk_below (g := gb559) (o := .cells #[.int .i64 ((rd_T23 l0 0).f0), .int .i64 ((rd_T23 l0 0).f1), .int .i64 ((rd_T23 l0 0).f2), .bool x560003_2] 23 (0, 0)) (by (with_reducible repeat (first | refine blk_drewN ?_ _ | refine blk_drew ?_ | refine blk_alloc ?_ _)); exact BK559.out) hb)
                        have n2_ := Aside0.mk (blk_below (g := gb561) (o := .cells #[.int .i64 ((rd_T23 l0 x21_2).f0), .int .i64 ((rd_T23 l0 x21_2).f1), .int .i64 ((rd_T23 l0 x21_2).f2), .bool ((rd_T23 l0 x21_2).f3)] 23 (0, 0)) (by (with_reducible repeat (first | refine blk_drewN ?_ _ | refine blk_drew ?_ | refine blk_alloc ?_ _)); exact BK561.out) hb)
                        have n3_ := Aside0.mk (below_step (by repeat (first | (with_reducible first | exact HB.out | apply below_alloc | apply pw_below_drewN | apply below_drew1 | refine below_set ?_ GE557.out | refine below_set ?_ GE559.out | refine below_set ?_ GE561.out) | exact HB.out)) hb)
                        clear BK557
                        clear BK559
                        clear BK561
                        clear HB
                        have BK557 := n0_
                        have BK559 := n1_
                        have BK561 := n2_
                        have HB := n3_
                        clear n0_ n1_ n2_ n3_
                        (try clear hb)
                        (try clear hb2)
                        (try clear hk)
                        (try clear hi)
                        refine hK.out _ _ ⟨(blk_cell BK561.out 0).trans rfl, (blk_cell BK561.out 1).trans rfl, (blk_cell BK561.out 2).trans rfl, (blk_cell BK561.out 3).trans rfl⟩ (fun hHeld => ?_)
                        clear hK K
                        refine norm_ (a' := ?_) ?_ ?_
                        rotate_left
                        · show Act.put _ (some 26) _ = _
                          simp only [Act.put, List.setIfInBounds_toArray, List.set_cons_zero, List.set_cons_succ, i64_w, i32_w]
                          rfl
                        refine pure_ (i := 2) (N := some 27) (v := ?_) (a' := ?_) #[true, true, true, false, false, false, false, false, false, false, false, false, false, false, false, false] rfl rfl (any_of HT_.out (by kernel_rfl)) (fun _ _ _ h => h) (Or.inl ⟨by rfl, ?_⟩) ?_ ?_
                        rotate_left
                        · intro w'
                          go_simp
                          with_reducible rfl
                        rotate_left
                        · simp only [Act.put, List.setIfInBounds_toArray, List.set_cons_zero, List.set_cons_succ, i64_w, i32_w]
                          rfl
                        refine pure_ (i := 3) (N := some 28) (v := ?_) (a' := ?_) #[true, true, true, true, false, false, false, false, false, false, false, false, false, false, false, false] rfl rfl (any_of HT_.out (by kernel_rfl)) (fun _ _ _ h => h) (Or.inl ⟨by rfl, ?_⟩) ?_ ?_
                        rotate_left
                        · intro w'
                          go_simp
                          with_reducible rfl
                        rotate_left
                        · simp only [Act.put, List.setIfInBounds_toArray, List.set_cons_zero, List.set_cons_succ, i64_w, i32_w]
                          rfl
                        refine pure_ (i := 4) (N := some 29) (v := ?_) (a' := ?_) #[true, true, true, true, true, false, false, false, false, false, false, false, false, false, false, false] rfl rfl (any_of HT_.out (by kernel_rfl)) (fun _ _ _ h => h) (Or.inl ⟨by rfl, ?_⟩) ?_ ?_
                        rotate_left
                        · intro w'
                          go_simp
                          with_reducible rfl
                        rotate_left
                        · simp only [Act.put, List.setIfInBounds_toArray, List.set_cons_zero, List.set_cons_succ, i64_w, i32_w]
                          rfl
                        refine take_ (i := 5) (N := some 30) (v := ?_) (a' := ?_) #[true, true, true, true, true, true, false, false, false, false, false, false, false, false, false, false] rfl rfl (take_ofW HT_.out HW_.out (by kernel_rfl)) (fun _ _ _ h => h) (Or.inl ⟨by rfl, ?_⟩) hHeld ?_ ?_
                        rotate_left
                        · rintro w' ⟨s0, s1, s2, s3⟩
                          go_simp
                          with_reducible rfl
                        rotate_left
                        · simp only [Act.put, List.setIfInBounds_toArray, List.set_cons_zero, List.set_cons_succ, i64_w, i32_w]
                          rfl
                        refine pure_ (i := 6) (N := some 31) (v := ?_) (a' := ?_) #[true, true, true, true, true, true, true, false, false, false, false, false, false, false, false, false] rfl rfl (any_of HT_.out (by kernel_rfl)) (fun _ _ _ h => h) (Or.inl ⟨by rfl, ?_⟩) ?_ ?_
                        rotate_left
                        · intro w'
                          go_simp
                          with_reducible rfl
                        rotate_left
                        · simp only [Act.put, List.setIfInBounds_toArray, List.set_cons_zero, List.set_cons_succ, i64_w, i32_w]
                          rfl
                        refine pure_ (i := 7) (N := some 32) (v := ?_) (a' := ?_) #[true, true, true, true, true, true, true, true, false, false, false, false, false, false, false, false] rfl rfl (any_of HT_.out (by kernel_rfl)) (fun _ _ _ h => h) (Or.inl ⟨by rfl, ?_⟩) ?_ ?_
                        rotate_left
                        · intro w'
                          go_simp
                          with_reducible rfl
                        rotate_left
                        · simp only [Act.put, List.setIfInBounds_toArray, List.set_cons_zero, List.set_cons_succ, i64_w, i32_w]
                          rfl
                        refine pure_ (i := 8) (N := some 33) (v := ?_) (a' := ?_) #[true, true, true, true, true, true, true, true, true, false, false, false, false, false, false, false] rfl rfl (any_of HT_.out (by kernel_rfl)) (fun _ _ _ h => h) (Or.inl ⟨by rfl, ?_⟩) ?_ ?_
                        rotate_left
                        · intro w'
                          go_simp
                          with_reducible rfl
                        rotate_left
                        · simp only [Act.put, List.setIfInBounds_toArray, List.set_cons_zero, List.set_cons_succ, i64_w, i32_w]
                          rfl
                        refine pure_ (i := 9) (N := some 34) (v := undef) (a' := ?_) #[true, true, true, true, true, true, true, true, true, true, false, false, false, false, false, false] rfl rfl (any_of HT_.out (by kernel_rfl)) (fun _ _ _ h => h) (Or.inr ⟨by rfl, rfl⟩) ?_ ?_
                        rotate_left
                        · simp only [Act.put, List.setIfInBounds_toArray, List.set_cons_zero, List.set_cons_succ, i64_w, i32_w]
                          rfl
                        refine pure_ (i := 10) (N := some 35) (v := undef) (a' := ?_) #[true, true, true, true, true, true, true, true, true, true, true, false, false, false, false, false] rfl rfl (any_of HT_.out (by kernel_rfl)) (fun _ _ _ h => h) (Or.inr ⟨by rfl, rfl⟩) ?_ ?_
                        rotate_left
                        · simp only [Act.put, List.setIfInBounds_toArray, List.set_cons_zero, List.set_cons_succ, i64_w, i32_w]
                          rfl
                        refine pure_ (i := 11) (N := some 36) (v := undef) (a' := ?_) #[true, true, true, true, true, true, true, true, true, true, true, true, false, false, false, false] rfl rfl (any_of HT_.out (by kernel_rfl)) (fun _ _ _ h => h) (Or.inr ⟨by rfl, rfl⟩) ?_ ?_
                        rotate_left
                        · simp only [Act.put, List.setIfInBounds_toArray, List.set_cons_zero, List.set_cons_succ, i64_w, i32_w]
                          rfl
                        refine pure_ (i := 12) (N := some 37) (v := undef) (a' := ?_) #[true, true, true, true, true, true, true, true, true, true, true, true, true, false, false, false] rfl rfl (any_of HT_.out (by kernel_rfl)) (fun _ _ _ h => h) (Or.inr ⟨by rfl, rfl⟩) ?_ ?_
                        rotate_left
                        · simp only [Act.put, List.setIfInBounds_toArray, List.set_cons_zero, List.set_cons_succ, i64_w, i32_w]
                          rfl
                        refine pure_ (i := 13) (N := some 38) (v := undef) (a' := ?_) #[true, true, true, true, true, true, true, true, true, true, true, true, true, true, false, false] rfl rfl (any_of HT_.out (by kernel_rfl)) (fun _ _ _ h => h) (Or.inr ⟨by rfl, rfl⟩) ?_ ?_
                        rotate_left
                        · simp only [Act.put, List.setIfInBounds_toArray, List.set_cons_zero, List.set_cons_succ, i64_w, i32_w]
                          rfl
                        refine pure_ (i := 14) (N := some 39) (v := undef) (a' := ?_) #[true, true, true, true, true, true, true, true, true, true, true, true, true, true, true, false] rfl rfl (any_of HT_.out (by kernel_rfl)) (fun _ _ _ h => h) (Or.inr ⟨by rfl, rfl⟩) ?_ ?_
                        rotate_left
                        · simp only [Act.put, List.setIfInBounds_toArray, List.set_cons_zero, List.set_cons_succ, i64_w, i32_w]
                          rfl
                        refine pure_ (i := 15) (N := some 40) (v := ?_) (a' := ?_) #[true, true, true, true, true, true, true, true, true, true, true, true, true, true, true, true] rfl rfl (any_of HT_.out (by kernel_rfl)) (fun _ _ _ h => h) (Or.inl ⟨by rfl, ?_⟩) ?_ ?_
                        rotate_left
                        · intro w'
                          go_simp
                          with_reducible rfl
                        rotate_left
                        · simp only [Act.put, List.setIfInBounds_toArray, List.set_cons_zero, List.set_cons_succ, i64_w, i32_w]
                          rfl
                        refine done_ (done_of HT_.out (by kernel_rfl)) ?_
                        have hnb24 := NB557_559.out
                        have hnc24 := NB559_557.out
                        have hcz25_0 : w23.cell? ⟨gb557, 0, none⟩ = some (.int .i64 x558000_2) := (blk_cell BK557.out 0).trans rfl
                        have hcz25_1 : w23.cell? ⟨gb557, 1, none⟩ = some (.int .i64 x558001_2) := (blk_cell BK557.out 1).trans rfl
                        have hcz25_2 : w23.cell? ⟨gb557, 2, none⟩ = some (.int .i64 x558002_2) := (blk_cell BK557.out 2).trans rfl
                        have hcz25_3 : w23.cell? ⟨gb557, 3, none⟩ = some (.bool x558003_2) := (blk_cell BK557.out 3).trans rfl
                        have hfz25_0 := blk_frozen BK557.out 0
                        have hfz25_1 := blk_frozen BK557.out 1
                        have hfz25_2 := blk_frozen BK557.out 2
                        have hfz25_3 := blk_frozen BK557.out 3
                        try go_wp2
                        refine bodyPost_ret (results_ct rfl _ _ gb557 23 #[.int .i64 0, .int .i64 0, .int .i64 0, .bool false] (0, 0) _ rfl (by (with_reducible repeat (first | refine blk_drewN ?_ _ | refine blk_drew ?_ | refine blk_alloc ?_ _)); refine blk_put (cs := #[.int .i64 0, .int .i64 0, .int .i64 0, .bool x558003_2]) ?_ 3 _ rfl; (with_reducible repeat (first | refine blk_drewN ?_ _ | refine blk_drew ?_ | refine blk_alloc ?_ _)); refine blk_put (cs := #[.int .i64 0, .int .i64 0, .int .i64 x558002_2, .bool x558003_2]) ?_ 2 _ rfl; (with_reducible repeat (first | refine blk_drewN ?_ _ | refine blk_drew ?_ | refine blk_alloc ?_ _)); refine blk_put (cs := #[.int .i64 0, .int .i64 x558001_2, .int .i64 x558002_2, .bool x558003_2]) ?_ 1 _ rfl; (with_reducible repeat (first | refine blk_drewN ?_ _ | refine blk_drew ?_ | refine blk_alloc ?_ _)); refine blk_put (cs := #[.int .i64 x558000_2, .int .i64 x558001_2, .int .i64 x558002_2, .bool x558003_2]) ?_ 0 _ rfl; (with_reducible repeat (first | refine blk_drewN ?_ _ | refine blk_drew ?_ | refine blk_alloc ?_ _)); exact BK557.out) Tryz.underlying23 rfl (by kernel_rfl)) rfl ?_
                        exact ⟨by first | rfl | (simp [errW_none, errW_some] <;> rfl) | (simp [*, errW_none, errW_some] <;> rfl), by repeat (first | (with_reducible first | exact HB.out | apply below_alloc | apply pw_below_drewN | apply below_drew1 | refine below_set ?_ GE557.out | refine below_set ?_ GE559.out | refine below_set ?_ GE561.out) | exact HB.out)⟩
                      · rw [if_neg c16] at H
                        have c16b0 : decide (0 < ((rd_T23 l0 x21_2).f2)) = false := decide_eq_false c16
                        clear c16
                        by_cases c26 : 0 < (l0.length : Int)
                        · rw [if_pos c26] at H
                          have c26b0 : decide (0 < (l0.length : Int)) = true := decide_eq_true c26
                          have c26b1 : decide (0 < l0.length) = true := decide_eq_true (by omega)
                          clear c26
                          replace H := Option.bind_eq_some_iff.mp H
                          obtain ⟨t564, A270, H⟩ := H
                          replace H : (if t564 = true then (if x560003_2 = true then (juntoref10_List.l0 k2 l0 l0 (l0.length : Int) (wrap64 (x21_2 + 1)) ((rd_T23 l0 0).f0) ((rd_T23 l0 0).f1) ((rd_T23 l0 0).f2) true) else (juntoref10_List.l0 k2 l0 l0 (l0.length : Int) (wrap64 (x21_2 + 1)) ((rd_T23 l0 0).f0) ((rd_T23 l0 0).f1) ((rd_T23 l0 0).f2) ((rd_T23 l0 x21_2).f3))) else (some (0, 0, 0, false, 9))) = some (r1, r2, r3, r4, r5) := H
                          have A27 := Aside0.mk A270
                          clear A270
                          by_cases c28 : t564 = true
                          · subst c28
                            have H1 : (if x560003_2 = true then (juntoref10_List.l0 k2 l0 l0 (l0.length : Int) (wrap64 (x21_2 + 1)) ((rd_T23 l0 0).f0) ((rd_T23 l0 0).f1) ((rd_T23 l0 0).f2) true) else (juntoref10_List.l0 k2 l0 l0 (l0.length : Int) (wrap64 (x21_2 + 1)) ((rd_T23 l0 0).f0) ((rd_T23 l0 0).f1) ((rd_T23 l0 0).f2) ((rd_T23 l0 x21_2).f3))) = some (r1, r2, r3, r4, r5) := by rw [if_pos rfl] at H; exact H
                            clear H
                            have H := H1
                            clear H1
                            by_cases c29 : x560003_2 = true
                            · subst c29
                              have H1 : (juntoref10_List.l0 k2 l0 l0 (l0.length : Int) (wrap64 (x21_2 + 1)) ((rd_T23 l0 0).f0) ((rd_T23 l0 0).f1) ((rd_T23 l0 0).f2) true) = some (r1, r2, r3, r4, r5) := by rw [if_pos rfl] at H; exact H
                              clear H
                              have H := H1
                              clear H1
                              have H' := Aside0.mk H
                              clear H
                              have p560 : 0 ≤ (x21_2 : Int) := of_decide_eq_true (by first | (with_reducible assumption) | assumption)
                              have q560 : x21_2 < (l0.length : Int) := of_decide_eq_true (by first | (with_reducible assumption) | assumption)
                              obtain ⟨ad560, e560, hx560_0, hx560_1, hx560_2, hx560_3⟩ := at_T23 HR0.out x21_2 p560 q560
                              obtain rfl : ad558 = ad560 := (by injection e560)
                              replace hx560_0 := (HB.out.cell (World.block_lt_of_cell? w _ hx560_0)).trans hx560_0
                              replace hx560_1 := (HB.out.cell (World.block_lt_of_cell? w _ hx560_1)).trans hx560_1
                              replace hx560_2 := (HB.out.cell (World.block_lt_of_cell? w _ hx560_2)).trans hx560_2
                              replace hx560_3 := (HB.out.cell (World.block_lt_of_cell? w _ hx560_3)).trans hx560_3
                              replace p560 := eq_true p560
                              replace q560 := eq_true q560
                              try go_wp2_with (first | ((with_reducible refine gate_dst (N := 6) rfl ?_); (try (refine gate_guard (by rfl) ?_; dsimp only)); refine box_event ?hg (N := 6) ?hd (cs := #[.int .i64 0, .int .i64 0, .int .i64 0, .bool false]) (t := 23) ?hr ?_; (case hd => rfl); (case hg => rfl); (case hr => first | (go_simp; done) | (go_simp; rfl)); intro gb561 hg w30 hbox hb; have n0_ := Aside0.mk (blk_below (g := gb557) (o := .cells #[.int .i64 x558000_2, .int .i64 x558001_2, .int .i64 x558002_2, .bool x558003_2] 23 (0, 0)) (by (with_reducible repeat (first | refine blk_drewN ?_ _ | refine blk_drew ?_ | refine blk_alloc ?_ _)); exact BK557.out) hb); have n1_ := Aside0.mk (blk_below (g := gb559) (o := .cells #[.int .i64 ((rd_T23 l0 0).f0), .int .i64 ((rd_T23 l0 0).f1), .int .i64 ((rd_T23 l0 0).f2), .bool true] 23 (0, 0)) (by (with_reducible repeat (first | refine blk_drewN ?_ _ | refine blk_drew ?_ | refine blk_alloc ?_ _)); exact BK559.out) hb); have n2_ := Aside0.mk (below_step (by repeat (first | (with_reducible first | exact HB.out | apply below_alloc | apply pw_below_drewN | apply below_drew1 | refine below_set ?_ GE557.out | refine below_set ?_ GE559.out) | exact HB.out)) hb); have n3_ := Aside0.mk (hbox); have n4_ := Aside0.mk ((by rw [hg]; exact (below_size (by repeat (first | (with_reducible first | exact HB.out | apply below_alloc | apply pw_below_drewN | apply below_drew1 | refine below_set ?_ GE557.out | refine below_set ?_ GE559.out) | exact HB.out))) : w.heap.size ≤ gb561)); have n5_ := Aside0.mk ((by rw [hg]; exact (below_size (by repeat (first | (with_reducible first | exact HB.out | apply below_alloc | apply pw_below_drewN | apply below_drew1 | refine below_set ?_ GE557.out | refine below_set ?_ GE559.out) | exact HB.out))) : w.heap.size ≤ gb561)); have n6_ := Aside0.mk ((by rw [hg]; exact Nat.ne_of_lt (blk_lt (g := gb557) (o := .cells #[.int .i64 x558000_2, .int .i64 x558001_2, .int .i64 x558002_2, .bool x558003_2] 23 (0, 0)) (by (with_reducible repeat (first | refine blk_drewN ?_ _ | refine blk_drew ?_ | refine blk_alloc ?_ _)); exact BK557.out)) : gb557 ≠ gb561)); have n7_ := Aside0.mk ((by rw [hg]; exact Nat.ne_of_gt (blk_lt (g := gb557) (o := .cells #[.int .i64 x558000_2, .int .i64 x558001_2, .int .i64 x558002_2, .bool x558003_2] 23 (0, 0)) (by (with_reducible repeat (first | refine blk_drewN ?_ _ | refine blk_drew ?_ | refine blk_alloc ?_ _)); exact BK557.out)) : gb561 ≠ gb557)); have n8_ := Aside0.mk ((by rw [hg]; exact Nat.ne_of_lt (blk_lt (g := gb559) (o := .cells #[.int .i64 ((rd_T23 l0 0).f0), .int .i64 ((rd_T23 l0 0).f1), .int .i64 ((rd_T23 l0 0).f2), .bool true] 23 (0, 0)) (by (with_reducible repeat (first | refine blk_drewN ?_ _ | refine blk_drew ?_ | refine blk_alloc ?_ _)); exact BK559.out)) : gb559 ≠ gb561)); have n9_ := Aside0.mk ((by rw [hg]; exact Nat.ne_of_gt (blk_lt (g := gb559) (o := .cells #[.int .i64 ((rd_T23 l0 0).f0), .int .i64 ((rd_T23 l0 0).f1), .int .i64 ((rd_T23 l0 0).f2), .bool true] 23 (0, 0)) (by (with_reducible repeat (first | refine blk_drewN ?_ _ | refine blk_drew ?_ | refine blk_alloc ?_ _)); exact BK559.out)) : gb561 ≠ gb559)); clear BK557; clear BK559; clear HB; have BK557 := n0_; have BK559 := n1_; have HB := n2_; have BK561 := n3_; have GW561 := n4_; have GE561 := n5_; have NB557_561 := n6_; have NB561_557 := n7_; have NB559_561 := n8_; have NB561_559 := n9_; clear n0_ n1_ n2_ n3_ n4_ n5_ n6_ n7_ n8_ n9_; clear hb hbox hg; have hnb31 := NB561_557.out; have hnc31 := NB557_561.out; have hnb32 := NB561_559.out; have hnc32 := NB559_561.out; have hcz33_0 : w30.cell? ⟨gb561, 0, none⟩ = some (.int .i64 0) := (blk_cell BK561.out 0).trans rfl; have hcz33_1 : w30.cell? ⟨gb561, 1, none⟩ = some (.int .i64 0) := (blk_cell BK561.out 1).trans rfl; have hcz33_2 : w30.cell? ⟨gb561, 2, none⟩ = some (.int .i64 0) := (blk_cell BK561.out 2).trans rfl; have hcz33_3 : w30.cell? ⟨gb561, 3, none⟩ = some (.bool false) := (blk_cell BK561.out 3).trans rfl; have hfz33_0 := blk_frozen BK561.out 0; have hfz33_1 := blk_frozen BK561.out 1; have hfz33_2 := blk_frozen BK561.out 2; have hfz33_3 := blk_frozen BK561.out 3))
                              have n0_ : Aside0 (((((w30.setCell ⟨gb561, 0, none⟩ (.int .i64 ((rd_T23 l0 x21_2).f0))).setCell ⟨gb561, 1, none⟩ (.int .i64 ((rd_T23 l0 x21_2).f1))).setCell ⟨gb561, 2, none⟩ (.int .i64 ((rd_T23 l0 x21_2).f2))).setCell ⟨gb561, 3, none⟩ (.bool ((rd_T23 l0 x21_2).f3))).heap[gb557]? = some (.cells #[.int .i64 x558000_2, .int .i64 x558001_2, .int .i64 x558002_2, .bool x558003_2] 23 (0, 0))) := ⟨by (with_reducible repeat (first | refine blk_drewN ?_ _ | refine blk_drew ?_ | refine blk_alloc ?_ _)); refine blk_far ?_ NB557_561.out _; (with_reducible repeat (first | refine blk_drewN ?_ _ | refine blk_drew ?_ | refine blk_alloc ?_ _)); refine blk_far ?_ NB557_561.out _; (with_reducible repeat (first | refine blk_drewN ?_ _ | refine blk_drew ?_ | refine blk_alloc ?_ _)); refine blk_far ?_ NB557_561.out _; (with_reducible repeat (first | refine blk_drewN ?_ _ | refine blk_drew ?_ | refine blk_alloc ?_ _)); refine blk_far ?_ NB557_561.out _; (with_reducible repeat (first | refine blk_drewN ?_ _ | refine blk_drew ?_ | refine blk_alloc ?_ _)); exact BK557.out⟩
                              have n1_ : Aside0 (((((w30.setCell ⟨gb561, 0, none⟩ (.int .i64 ((rd_T23 l0 x21_2).f0))).setCell ⟨gb561, 1, none⟩ (.int .i64 ((rd_T23 l0 x21_2).f1))).setCell ⟨gb561, 2, none⟩ (.int .i64 ((rd_T23 l0 x21_2).f2))).setCell ⟨gb561, 3, none⟩ (.bool ((rd_T23 l0 x21_2).f3))).heap[gb559]? = some (.cells #[.int .i64 ((rd_T23 l0 0).f0), .int .i64 ((rd_T23 l0 0).f1), .int .i64 ((rd_T23 l0 0).f2), .bool true] 23 (0, 0))) := ⟨by (with_reducible repeat (first | refine blk_drewN ?_ _ | refine blk_drew ?_ | refine blk_alloc ?_ _)); refine blk_far ?_ NB559_561.out _; (with_reducible repeat (first | refine blk_drewN ?_ _ | refine blk_drew ?_ | refine blk_alloc ?_ _)); refine blk_far ?_ NB559_561.out _; (with_reducible repeat (first | refine blk_drewN ?_ _ | refine blk_drew ?_ | refine blk_alloc ?_ _)); refine blk_far ?_ NB559_561.out _; (with_reducible repeat (first | refine blk_drewN ?_ _ | refine blk_drew ?_ | refine blk_alloc ?_ _)); refine blk_far ?_ NB559_561.out _; (with_reducible repeat (first | refine blk_drewN ?_ _ | refine blk_drew ?_ | refine blk_alloc ?_ _)); exact BK559.out⟩
                              have n2_ : Aside0 (((((w30.setCell ⟨gb561, 0, none⟩ (.int .i64 ((rd_T23 l0 x21_2).f0))).setCell ⟨gb561, 1, none⟩ (.int .i64 ((rd_T23 l0 x21_2).f1))).setCell ⟨gb561, 2, none⟩ (.int .i64 ((rd_T23 l0 x21_2).f2))).setCell ⟨gb561, 3, none⟩ (.bool ((rd_T23 l0 x21_2).f3))).heap[gb561]? = some (.cells #[.int .i64 ((rd_T23 l0 x21_2).f0), .int .i64 ((rd_T23 l0 x21_2).f1), .int .i64 ((rd_T23 l0 x21_2).f2), .bool ((rd_T23 l0 x21_2).f3)] 23 (0, 0))) := ⟨by (with_reducible repeat (first | refine blk_drewN ?_ _ | refine blk_drew ?_ | refine blk_alloc ?_ _)); refine blk_put (cs := #[.int .i64 ((rd_T23 l0 x21_2).f0), .int .i64 ((rd_T23 l0 x21_2).f1), .int .i64 ((rd_T23 l0 x21_2).f2), .bool false]) ?_ 3 _ rfl; (with_reducible repeat (first | refine blk_drewN ?_ _ | refine blk_drew ?_ | refine blk_alloc ?_ _)); refine blk_put (cs := #[.int .i64 ((rd_T23 l0 x21_2).f0), .int .i64 ((rd_T23 l0 x21_2).f1), .int .i64 0, .bool false]) ?_ 2 _ rfl; (with_reducible repeat (first | refine blk_drewN ?_ _ | refine blk_drew ?_ | refine blk_alloc ?_ _)); refine blk_put (cs := #[.int .i64 ((rd_T23 l0 x21_2).f0), .int .i64 0, .int .i64 0, .bool false]) ?_ 1 _ rfl; (with_reducible repeat (first | refine blk_drewN ?_ _ | refine blk_drew ?_ | refine blk_alloc ?_ _)); refine blk_put (cs := #[.int .i64 0, .int .i64 0, .int .i64 0, .bool false]) ?_ 0 _ rfl; (with_reducible repeat (first | refine blk_drewN ?_ _ | refine blk_drew ?_ | refine blk_alloc ?_ _)); exact BK561.out⟩
                              have n3_ : Aside0 (Below w.heap.size w ((((w30.setCell ⟨gb561, 0, none⟩ (.int .i64 ((rd_T23 l0 x21_2).f0))).setCell ⟨gb561, 1, none⟩ (.int .i64 ((rd_T23 l0 x21_2).f1))).setCell ⟨gb561, 2, none⟩ (.int .i64 ((rd_T23 l0 x21_2).f2))).setCell ⟨gb561, 3, none⟩ (.bool ((rd_T23 l0 x21_2).f3)))) := ⟨by repeat (first | (with_reducible first | exact HB.out | apply below_alloc | apply pw_below_drewN | apply below_drew1 | refine below_set ?_ GE557.out | refine below_set ?_ GE559.out | refine below_set ?_ GE561.out) | exact HB.out)⟩
                              (try clear BK557)
                              (try clear BK559)
                              (try clear BK561)
                              (try clear HB)
                              generalize ((((w30.setCell ⟨gb561, 0, none⟩ (.int .i64 ((rd_T23 l0 x21_2).f0))).setCell ⟨gb561, 1, none⟩ (.int .i64 ((rd_T23 l0 x21_2).f1))).setCell ⟨gb561, 2, none⟩ (.int .i64 ((rd_T23 l0 x21_2).f2))).setCell ⟨gb561, 3, none⟩ (.bool ((rd_T23 l0 x21_2).f3))) = w34 at n0_ n1_ n2_ n3_ ⊢
                              have BK557 := n0_
                              have BK559 := n1_
                              have BK561 := n2_
                              have HB := n3_
                              clear n0_ n1_ n2_ n3_
                              have n0_ := Aside0.mk (blk_drew BK557.out)
                              have n1_ := Aside0.mk (blk_drew BK559.out)
                              have n2_ := Aside0.mk (blk_drew BK561.out)
                              have n3_ := Aside0.mk (below_drew1 HB.out)
                              clear BK557
                              clear BK559
                              clear BK561
                              clear HB
                              have BK557 := n0_
                              have BK559 := n1_
                              have BK561 := n2_
                              have HB := n3_
                              clear n0_ n1_ n2_ n3_
                              have p563 : 0 ≤ (0 : Int) := (by omega)
                              have q563 : 0 < (l0.length : Int) := of_decide_eq_true (by first | (with_reducible assumption) | assumption)
                              obtain ⟨ad563, e563, hx563_0, hx563_1, hx563_2, hx563_3⟩ := at_T23 HR0.out 0 p563 q563
                              have hw563_3 := hx563_3
                              (try rw [show ((0 : Int)).toNat = 0 from rfl] at hw563_3)
                              (try rw [show 0 * 4 = 0 from rfl] at hw563_3)
                              (try rw [Addr.add_zero'] at hw563_3)
                              have hw563_2 := hx563_2
                              (try rw [show ((0 : Int)).toNat = 0 from rfl] at hw563_2)
                              (try rw [show 0 * 4 = 0 from rfl] at hw563_2)
                              (try rw [Addr.add_zero'] at hw563_2)
                              have hw563_1 := hx563_1
                              (try rw [show ((0 : Int)).toNat = 0 from rfl] at hw563_1)
                              (try rw [show 0 * 4 = 0 from rfl] at hw563_1)
                              (try rw [Addr.add_zero'] at hw563_1)
                              have hw563_0 := hx563_0
                              (try rw [show ((0 : Int)).toNat = 0 from rfl] at hw563_0)
                              (try rw [show 0 * 4 = 0 from rfl] at hw563_0)
                              (try rw [Addr.add_zero'] at hw563_0)
                              obtain rfl : ad558 = ad563 := (by injection e563)
                              have qi563 : (0 < l0.length) = True := eq_true (by omega)
                              (try rw [show ((0 : Int)).toNat = 0 from rfl] at hx563_0)
                              (try rw [show 0 * 4 = 0 from rfl] at hx563_0)
                              (try rw [Addr.add_zero'] at hx563_0)
                              (try rw [show ((0 : Int)).toNat = 0 from rfl] at hx563_1)
                              (try rw [show 0 * 4 = 0 from rfl] at hx563_1)
                              (try rw [Addr.add_zero'] at hx563_1)
                              (try rw [show ((0 : Int)).toNat = 0 from rfl] at hx563_2)
                              (try rw [show 0 * 4 = 0 from rfl] at hx563_2)
                              (try rw [Addr.add_zero'] at hx563_2)
                              (try rw [show ((0 : Int)).toNat = 0 from rfl] at hx563_3)
                              (try rw [show 0 * 4 = 0 from rfl] at hx563_3)
                              (try rw [Addr.add_zero'] at hx563_3)
                              replace hx563_0 := (HB.out.cell (World.block_lt_of_cell? w _ hx563_0)).trans hx563_0
                              replace hx563_1 := (HB.out.cell (World.block_lt_of_cell? w _ hx563_1)).trans hx563_1
                              replace hx563_2 := (HB.out.cell (World.block_lt_of_cell? w _ hx563_2)).trans hx563_2
                              replace hx563_3 := (HB.out.cell (World.block_lt_of_cell? w _ hx563_3)).trans hx563_3
                              replace p563 := eq_true p563
                              replace q563 := eq_true q563
                              refine start_ (n := 16) (S := fun w' => w'.cell? ⟨gb561, 0, none⟩ = some (.int .i64 ((rd_T23 l0 x21_2).f0)) ∧ w'.cell? ⟨gb561, 1, none⟩ = some (.int .i64 ((rd_T23 l0 x21_2).f1)) ∧ w'.cell? ⟨gb561, 2, none⟩ = some (.int .i64 ((rd_T23 l0 x21_2).f2)) ∧ w'.cell? ⟨gb561, 3, none⟩ = some (.bool ((rd_T23 l0 x21_2).f3)) ∧ w'.cell? ad558 = some (.int .i64 ((rd_T23 l0 0).f0)) ∧ w'.cell? ⟨ad558.block, ad558.off + 1, none⟩ = some (.int .i64 ((rd_T23 l0 0).f1)) ∧ w'.cell? ⟨ad558.block, ad558.off + 2, none⟩ = some (.int .i64 ((rd_T23 l0 0).f2)) ∧ w'.cell? ⟨ad558.block, ad558.off + 3, none⟩ = some (.bool ((rd_T23 l0 0).f3))) (ds := []) #[false, false, false, false, false, false, false, false, false, false, false, false, false, false, false, false] (by kernel_rfl) rfl rfl ⟨(blk_cell BK561.out 0).trans rfl, (blk_cell BK561.out 1).trans rfl, (blk_cell BK561.out 2).trans rfl, (blk_cell BK561.out 3).trans rfl, ((HB.out.cell (World.block_lt_of_cell? w _ hw563_0)).trans hw563_0), ((HB.out.cell (World.block_lt_of_cell? w _ hw563_1)).trans hw563_1), ((HB.out.cell (World.block_lt_of_cell? w _ hw563_2)).trans hw563_2), ((HB.out.cell (World.block_lt_of_cell? w _ hw563_3)).trans hw563_3)⟩ (fun hHeld => ?_); refine with_tabW juntoref10_List.tab7 juntoref10_List.bits7 (fun HT_ HW_ => ?_)
                              generalize w34.drew = w35 at BK557 BK559 BK561 HB hx563_0 hx563_1 hx563_2 hx563_3 hHeld ⊢
                              refine take_ (i := 0) (N := some 25) (v := ?_) (a' := ?_) #[true, false, false, false, false, false, false, false, false, false, false, false, false, false, false, false] rfl rfl (take_ofW HT_.out HW_.out (by kernel_rfl)) (fun _ _ _ h => h) (Or.inl ⟨by rfl, ?_⟩) hHeld ?_ ?_
                              rotate_left
                              · rintro w' ⟨s0, s1, s2, s3, s4, s5, s6, s7⟩
                                go_simp
                                with_reducible rfl
                              rotate_left
                              · simp only [Act.put, List.setIfInBounds_toArray, List.set_cons_zero, List.set_cons_succ, i64_w, i32_w]
                                rfl
                              refine one_ (i := 1) (N := some 26) #[true, true, false, false, false, false, false, false, false, false, false, false, false, false, false, false] rfl rfl (one_of HT_.out (by kernel_rfl)) (by decide) (fun K hK => ?_)
                              refine goes_ Tryz.func11 (by kernel_rfl) rfl #[.agg #[.int .i64 ((rd_T23 l0 x21_2).f0), .int .i64 ((rd_T23 l0 x21_2).f1), .int .i64 ((rd_T23 l0 x21_2).f2), .bool ((rd_T23 l0 x21_2).f3)]] (by rfl) rfl rfl (by (try simp only [List.map_toArray, List.map_cons, List.map_nil]); first | done | rfl | (simp only [List.length_drop, List.length_take]; rfl)) ?_
                              with_reducible refine (juntoref10_IsType.calls k2 ((rd_T23 l0 x21_2).f0) ((rd_T23 l0 x21_2).f1) ((rd_T23 l0 x21_2).f2) ((rd_T23 l0 x21_2).f3) true _ A14.out).mono ?_
                              rintro e w36 ⟨rfl, hb⟩
                              refine ⟨_, rfl, ?_⟩
                              have n0_ := Aside0.mk (blk_below (g := gb557) (o := .cells #[.int .i64 x558000_2, .int .i64 x558001_2, .int .i64 x558002_2, .bool x558003_2] 23 (0, 0)) (by (with_reducible repeat (first | refine blk_drewN ?_ _ | refine blk_drew ?_ | refine blk_alloc ?_ _)); exact BK557.out) hb)
                              have n1_ := Aside0.mk (blk_below (g := gb559) (o := .cells #[.int .i64 ((rd_T23 l0 0).f0), .int .i64 ((rd_T23 l0 0).f1), .int .i64 ((rd_T23 l0 0).f2), .bool true] 23 (0, 0)) (by (with_reducible repeat (first | refine blk_drewN ?_ _ | refine blk_drew ?_ | refine blk_alloc ?_ _)); exact BK559.out) hb)
                              have n2_ := Aside0.mk (blk_below (g := gb561) (o := .cells #[.int .i64 ((rd_T23 l0 x21_2).f0), .int .i64 ((rd_T23 l0 x21_2).f1), .int .i64 ((rd_T23 l0 x21_2).f2), .bool ((rd_T23 l0 x21_2).f3)] 23 (0, 0)) (by (with_reducible repeat (first | refine blk_drewN ?_ _ | refine blk_drew ?_ | refine blk_alloc ?_ _)); exact BK561.out) hb)
                              have n3_ := Aside0.mk (below_step (by repeat (first | (with_reducible first | exact HB.out | apply below_alloc | apply pw_below_drewN | apply below_drew1 | refine below_set ?_ GE557.out | refine below_set ?_ GE559.out | refine below_set ?_ GE561.out) | exact HB.out)) hb)
                              clear BK557
                              clear BK559
                              clear BK561
                              clear HB
                              have BK557 := n0_
                              have BK559 := n1_
                              have BK561 := n2_
                              have HB := n3_
                              clear n0_ n1_ n2_ n3_
                              (try clear hb)
                              (try clear hb2)
                              (try clear hk)
                              (try clear hi)
                              refine hK.out _ _ ⟨(blk_cell BK561.out 0).trans rfl, (blk_cell BK561.out 1).trans rfl, (blk_cell BK561.out 2).trans rfl, (blk_cell BK561.out 3).trans rfl, ((HB.out.cell (World.block_lt_of_cell? w _ hw563_0)).trans hw563_0), ((HB.out.cell (World.block_lt_of_cell? w _ hw563_1)).trans hw563_1), ((HB.out.cell (World.block_lt_of_cell? w _ hw563_2)).trans hw563_2), ((HB.out.cell (World.block_lt_of_cell? w _ hw563_3)).trans hw563_3)⟩ (fun hHeld => ?_)
                              clear hK K
                              refine norm_ (a' := ?_) ?_ ?_
                              rotate_left
                              · show Act.put _ (some 26) _ = _
                                simp only [Act.put, List.setIfInBounds_toArray, List.set_cons_zero, List.set_cons_succ, i64_w, i32_w]
                                rfl
                              refine pure_ (i := 2) (N := some 27) (v := ?_) (a' := ?_) #[true, true, true, false, false, false, false, false, false, false, false, false, false, false, false, false] rfl rfl (any_of HT_.out (by kernel_rfl)) (fun _ _ _ h => h) (Or.inl ⟨by rfl, ?_⟩) ?_ ?_
                              rotate_left
                              · intro w'
                                go_simp
                                with_reducible rfl
                              rotate_left
                              · simp only [Act.put, List.setIfInBounds_toArray, List.set_cons_zero, List.set_cons_succ, i64_w, i32_w]
                                rfl
                              refine pure_ (i := 3) (N := some 28) (v := ?_) (a' := ?_) #[true, true, true, true, false, false, false, false, false, false, false, false, false, false, false, false] rfl rfl (any_of HT_.out (by kernel_rfl)) (fun _ _ _ h => h) (Or.inl ⟨by rfl, ?_⟩) ?_ ?_
                              rotate_left
                              · intro w'
                                go_simp
                                with_reducible rfl
                              rotate_left
                              · simp only [Act.put, List.setIfInBounds_toArray, List.set_cons_zero, List.set_cons_succ, i64_w, i32_w]
                                rfl
                              refine pure_ (i := 4) (N := some 29) (v := ?_) (a' := ?_) #[true, true, true, true, true, false, false, false, false, false, false, false, false, false, false, false] rfl rfl (any_of HT_.out (by kernel_rfl)) (fun _ _ _ h => h) (Or.inl ⟨by rfl, ?_⟩) ?_ ?_
                              rotate_left
                              · intro w'
                                go_simp
                                with_reducible rfl
                              rotate_left
                              · simp only [Act.put, List.setIfInBounds_toArray, List.set_cons_zero, List.set_cons_succ, i64_w, i32_w]
                                rfl
                              refine take_ (i := 5) (N := some 30) (v := ?_) (a' := ?_) #[true, true, true, true, true, true, false, false, false, false, false, false, false, false, false, false] rfl rfl (take_ofW HT_.out HW_.out (by kernel_rfl)) (fun _ _ _ h => h) (Or.inl ⟨by rfl, ?_⟩) hHeld ?_ ?_
                              rotate_left
                              · rintro w' ⟨s0, s1, s2, s3, s4, s5, s6, s7⟩
                                go_simp
                                with_reducible rfl
                              rotate_left
                              · simp only [Act.put, List.setIfInBounds_toArray, List.set_cons_zero, List.set_cons_succ, i64_w, i32_w]
                                rfl
                              refine pure_ (i := 6) (N := some 31) (v := ?_) (a' := ?_) #[true, true, true, true, true, true, true, false, false, false, false, false, false, false, false, false] rfl rfl (any_of HT_.out (by kernel_rfl)) (fun _ _ _ h => h) (Or.inl ⟨by rfl, ?_⟩) ?_ ?_
                              rotate_left
                              · intro w'
                                go_simp
                                with_reducible rfl
                              rotate_left
                              · simp only [Act.put, List.setIfInBounds_toArray, List.set_cons_zero, List.set_cons_succ, i64_w, i32_w]
                                rfl
                              refine pure_ (i := 7) (N := some 32) (v := ?_) (a' := ?_) #[true, true, true, true, true, true, true, true, false, false, false, false, false, false, false, false] rfl rfl (any_of HT_.out (by kernel_rfl)) (fun _ _ _ h => h) (Or.inl ⟨by rfl, ?_⟩) ?_ ?_
                              rotate_left
                              · intro w'
                                go_simp
                                with_reducible rfl
                              rotate_left
                              · simp only [Act.put, List.setIfInBounds_toArray, List.set_cons_zero, List.set_cons_succ, i64_w, i32_w]
                                rfl
                              refine pure_ (i := 8) (N := some 33) (v := ?_) (a' := ?_) #[true, true, true, true, true, true, true, true, true, false, false, false, false, false, false, false] rfl rfl (any_of HT_.out (by kernel_rfl)) (fun _ _ _ h => h) (Or.inl ⟨by rfl, ?_⟩) ?_ ?_
                              rotate_left
                              · intro w'
                                go_simp
                                with_reducible rfl
                              rotate_left
                              · simp only [Act.put, List.setIfInBounds_toArray, List.set_cons_zero, List.set_cons_succ, i64_w, i32_w]
                                rfl
                              refine pure_ (i := 10) (N := some 35) (v := ?_) (a' := ?_) #[true, true, true, true, true, true, true, true, true, false, true, false, false, false, false, false] rfl rfl (any_of HT_.out (by kernel_rfl)) (fun _ _ _ h => h) (Or.inl ⟨by rfl, ?_⟩) ?_ ?_
                              rotate_left
                              · intro w'
                                go_simp
                                with_reducible rfl
                              rotate_left
                              · simp only [Act.put, List.setIfInBounds_toArray, List.set_cons_zero, List.set_cons_succ, i64_w, i32_w]
                                rfl
                              refine pure_ (i := 11) (N := some 36) (v := ?_) (a' := ?_) #[true, true, true, true, true, true, true, true, true, false, true, true, false, false, false, false] rfl rfl (any_of HT_.out (by kernel_rfl)) (fun _ _ _ h => h) (Or.inl ⟨by rfl, ?_⟩) ?_ ?_
                              rotate_left
                              · intro w'
                                go_simp
                                with_reducible rfl
                              rotate_left
                              · simp only [Act.put, List.setIfInBounds_toArray, List.set_cons_zero, List.set_cons_succ, i64_w, i32_w]
                                rfl
                              refine take_ (i := 9) (N := some 34) (v := ?_) (a' := ?_) #[true, true, true, true, true, true, true, true, true, true, true, true, false, false, false, false] rfl rfl (take_ofW HT_.out HW_.out (by kernel_rfl)) (fun _ _ _ h => h) (Or.inl ⟨by rfl, ?_⟩) hHeld ?_ ?_
                              rotate_left
                              · rintro w' ⟨s0, s1, s2, s3, s4, s5, s6, s7⟩
                                go_simp
                                with_reducible rfl
                              rotate_left
                              · simp only [Act.put, List.setIfInBounds_toArray, List.set_cons_zero, List.set_cons_succ, i64_w, i32_w]
                                rfl
                              refine take_ (i := 12) (N := some 37) (v := ?_) (a' := ?_) #[true, true, true, true, true, true, true, true, true, true, true, true, true, false, false, false] rfl rfl (take_ofW HT_.out HW_.out (by kernel_rfl)) (fun _ _ _ h => h) (Or.inl ⟨by rfl, ?_⟩) hHeld ?_ ?_
                              rotate_left
                              · rintro w' ⟨s0, s1, s2, s3, s4, s5, s6, s7⟩
                                go_simp
                                with_reducible rfl
                              rotate_left
                              · simp only [Act.put, List.setIfInBounds_toArray, List.set_cons_zero, List.set_cons_succ, i64_w, i32_w]
                                rfl
                              refine one_ (i := 13) (N := some 38) #[true, true, true, true, true, true, true, true, true, true, true, true, true, true, false, false] rfl rfl (one_of HT_.out (by kernel_rfl)) (by decide) (fun K hK => ?_)
                              refine goes_ Tryz.func42 (by kernel_rfl) rfl #[.agg #[.int .i64 ((rd_T23 l0 x21_2).f0), .int .i64 ((rd_T23 l0 x21_2).f1), .int .i64 ((rd_T23 l0 x21_2).f2), .bool ((rd_T23 l0 x21_2).f3)], .agg #[.int .i64 ((rd_T23 l0 0).f0), .int .i64 ((rd_T23 l0 0).f1), .int .i64 ((rd_T23 l0 0).f2), .bool ((rd_T23 l0 0).f3)]] (by rfl) rfl rfl (by (try simp only [List.map_toArray, List.map_cons, List.map_nil]); first | done | rfl | (simp only [List.length_drop, List.length_take]; rfl)) ?_
                              with_reducible refine (juntoref10_Alike.calls ((rd_T23 l0 x21_2).f0) ((rd_T23 l0 x21_2).f1) ((rd_T23 l0 x21_2).f2) ((rd_T23 l0 x21_2).f3) ((rd_T23 l0 0).f0) ((rd_T23 l0 0).f1) ((rd_T23 l0 0).f2) ((rd_T23 l0 0).f3) true _ A27.out).mono ?_
                              rintro e w37 ⟨rfl, hb⟩
                              refine ⟨_, rfl, ?_⟩
                              have n0_ := Aside0.mk (blk_below (g := gb557) (o := .cells #[.int .i64 x558000_2, .int .i64 x558001_2, .int .i64 x558002_2, .bool x558003_2] 23 (0, 0)) (by (with_reducible repeat (first | refine blk_drewN ?_ _ | refine blk_drew ?_ | refine blk_alloc ?_ _)); exact BK557.out) hb)
                              have n1_ := Aside0.mk (blk_below (g := gb559) (o := .cells #[.int .i64 ((rd_T23 l0 0).f0), .int .i64 ((rd_T23 l0 0).f1), .int .i64 ((rd_T23 l0 0).f2), .bool true] 23 (0, 0)) (by (with_reducible repeat (first | refine blk_drewN ?_ _ | refine blk_drew ?_ | refine blk_alloc ?_ _)); exact BK559.out) hb)
                              have n2_ := Aside0.mk (blk_below (g := gb561) (o := .cells #[.int .i64 ((rd_T23 l0 x21_2).f0), .int .i64 ((rd_T23 l0 x21_2).f1), .int .i64 ((rd_T23 l0 x21_2).f2), .bool ((rd_T23 l0 x21_2).f3)] 23 (0, 0)) (by (with_reducible repeat (first | refine blk_drewN ?_ _ | refine blk_drew ?_ | refine blk_alloc ?_ _)); exact BK561.out) hb)
                              have n3_ := Aside0.mk (below_step (by repeat (first | (with_reducible first | exact HB.out | apply below_alloc | apply pw_below_drewN | apply below_drew1 | refine below_set ?_ GE557.out | refine below_set ?_ GE559.out | refine below_set ?_ GE561.out) | exact HB.out)) hb)
                              clear BK557
                              clear BK559
                              clear BK561
                              clear HB
                              have BK557 := n0_
                              have BK559 := n1_
                              have BK561 := n2_
                              have HB := n3_
                              clear n0_ n1_ n2_ n3_
                              (try clear hb)
                              (try clear hb2)
                              (try clear hk)
                              (try clear hi)
                              refine hK.out _ _ ⟨(blk_cell BK561.out 0).trans rfl, (blk_cell BK561.out 1).trans rfl, (blk_cell BK561.out 2).trans rfl, (blk_cell BK561.out 3).trans rfl, ((HB.out.cell (World.block_lt_of_cell? w _ hw563_0)).trans hw563_0), ((HB.out.cell (World.block_lt_of_cell? w _ hw563_1)).trans hw563_1), ((HB.out.cell (World.block_lt_of_cell? w _ hw563_2)).trans hw563_2), ((HB.out.cell (World.block_lt_of_cell? w _ hw563_3)).trans hw563_3)⟩ (fun hHeld => ?_)
                              clear hK K
                              refine norm_ (a' := ?_) ?_ ?_
                              rotate_left
                              · show Act.put _ (some 38) _ = _
                                simp only [Act.put, List.setIfInBounds_toArray, List.set_cons_zero, List.set_cons_succ, i64_w, i32_w]
                                rfl
                              refine pure_ (i := 14) (N := some 39) (v := ?_) (a' := ?_) #[true, true, true, true, true, true, true, true, true, true, true, true, true, true, true, false] rfl rfl (any_of HT_.out (by kernel_rfl)) (fun _ _ _ h => h) (Or.inl ⟨by rfl, ?_⟩) ?_ ?_
                              rotate_left
                              · intro w'
                                go_simp
                                with_reducible rfl
                              rotate_left
                              · simp only [Act.put, List.setIfInBounds_toArray, List.set_cons_zero, List.set_cons_succ, i64_w, i32_w]
                                rfl
                              refine pure_ (i := 15) (N := some 40) (v := ?_) (a' := ?_) #[true, true, true, true, true, true, true, true, true, true, true, true, true, true, true, true] rfl rfl (any_of HT_.out (by kernel_rfl)) (fun _ _ _ h => h) (Or.inl ⟨by rfl, ?_⟩) ?_ ?_
                              rotate_left
                              · intro w'
                                go_simp
                                with_reducible rfl
                              rotate_left
                              · simp only [Act.put, List.setIfInBounds_toArray, List.set_cons_zero, List.set_cons_succ, i64_w, i32_w]
                                rfl
                              refine done_ (done_of HT_.out (by kernel_rfl)) ?_
                              have hnb38 := NB559_557.out
                              have hnc38 := NB557_559.out
                              have hcz39_0 : w37.cell? ⟨gb559, 0, none⟩ = some (.int .i64 ((rd_T23 l0 0).f0)) := (blk_cell BK559.out 0).trans rfl
                              have hcz39_1 : w37.cell? ⟨gb559, 1, none⟩ = some (.int .i64 ((rd_T23 l0 0).f1)) := (blk_cell BK559.out 1).trans rfl
                              have hcz39_2 : w37.cell? ⟨gb559, 2, none⟩ = some (.int .i64 ((rd_T23 l0 0).f2)) := (blk_cell BK559.out 2).trans rfl
                              have hcz39_3 : w37.cell? ⟨gb559, 3, none⟩ = some (.bool true) := (blk_cell BK559.out 3).trans rfl
                              have hfz39_0 := blk_frozen BK559.out 0
                              have hfz39_1 := blk_frozen BK559.out 1
                              have hfz39_2 := blk_frozen BK559.out 2
                              have hfz39_3 := blk_frozen BK559.out 3
                              try go_wp2
                              go_roundg k2
                              case measure => have := HJ1.out; have := HK2.out; omega
                              case rel => exact ⟨(wrap64 (x21_2 + 1)), (x558000_2), (x558001_2), (x558002_2), (x558003_2), (true), (by first | rfl | (simp; done) | (simp [*]; done)), H', ⟨by have := HJ1.out; have := HK2.out; omega⟩, ⟨by (with_reducible repeat (first | refine blk_drewN ?_ _ | refine blk_drew ?_ | refine blk_alloc ?_ _)); refine blk_far ?_ NB557_559.out _; (with_reducible repeat (first | refine blk_drewN ?_ _ | refine blk_drew ?_ | refine blk_alloc ?_ _)); exact BK557.out⟩, ⟨by (with_reducible repeat (first | refine blk_drewN ?_ _ | refine blk_drew ?_ | refine blk_alloc ?_ _)); refine blk_put (cs := #[.int .i64 ((rd_T23 l0 0).f0), .int .i64 ((rd_T23 l0 0).f1), .int .i64 ((rd_T23 l0 0).f2), .bool true]) ?_ 3 _ rfl; (with_reducible repeat (first | refine blk_drewN ?_ _ | refine blk_drew ?_ | refine blk_alloc ?_ _)); exact BK559.out⟩, ⟨by repeat (first | (with_reducible first | exact HB.out | apply below_alloc | apply pw_below_drewN | apply below_drew1 | refine below_set ?_ GE557.out | refine below_set ?_ GE559.out | refine below_set ?_ GE561.out) | exact HB.out)⟩⟩
                            · replace c29 := Bool.eq_false_iff.mpr c29
                              subst c29
                              have H1 : (juntoref10_List.l0 k2 l0 l0 (l0.length : Int) (wrap64 (x21_2 + 1)) ((rd_T23 l0 0).f0) ((rd_T23 l0 0).f1) ((rd_T23 l0 0).f2) ((rd_T23 l0 x21_2).f3)) = some (r1, r2, r3, r4, r5) := by rw [if_neg (show ¬ (false = true) by decide)] at H; exact H
                              clear H
                              have H := H1
                              clear H1
                              have H' := Aside0.mk H
                              clear H
                              have p560 : 0 ≤ (x21_2 : Int) := of_decide_eq_true (by first | (with_reducible assumption) | assumption)
                              have q560 : x21_2 < (l0.length : Int) := of_decide_eq_true (by first | (with_reducible assumption) | assumption)
                              obtain ⟨ad560, e560, hx560_0, hx560_1, hx560_2, hx560_3⟩ := at_T23 HR0.out x21_2 p560 q560
                              obtain rfl : ad558 = ad560 := (by injection e560)
                              replace hx560_0 := (HB.out.cell (World.block_lt_of_cell? w _ hx560_0)).trans hx560_0
                              replace hx560_1 := (HB.out.cell (World.block_lt_of_cell? w _ hx560_1)).trans hx560_1
                              replace hx560_2 := (HB.out.cell (World.block_lt_of_cell? w _ hx560_2)).trans hx560_2
                              replace hx560_3 := (HB.out.cell (World.block_lt_of_cell? w _ hx560_3)).trans hx560_3
                              replace p560 := eq_true p560
                              replace q560 := eq_true q560
                              try go_wp2_with (first | ((with_reducible refine gate_dst (N := 6) rfl ?_); (try (refine gate_guard (by rfl) ?_; dsimp only)); refine box_event ?hg (N := 6) ?hd (cs := #[.int .i64 0, .int .i64 0, .int .i64 0, .bool false]) (t := 23) ?hr ?_; (case hd => rfl); (case hg => rfl); (case hr => first | (go_simp; done) | (go_simp; rfl)); intro gb561 hg w40 hbox hb; have n0_ := Aside0.mk (blk_below (g := gb557) (o := .cells #[.int .i64 x558000_2, .int .i64 x558001_2, .int .i64 x558002_2, .bool x558003_2] 23 (0, 0)) (by (with_reducible repeat (first | refine blk_drewN ?_ _ | refine blk_drew ?_ | refine blk_alloc ?_ _)); exact BK557.out) hb); have n1_ := Aside0.mk (blk_below (g := gb559) (o := .cells #[.int .i64 ((rd_T23 l0 0).f0), .int .i64 ((rd_T23 l0 0).f1), .int .i64 ((rd_T23 l0 0).f2), .bool false] 23 (0, 0)) (by (with_reducible repeat (first | refine blk_drewN ?_ _ | refine blk_drew ?_ | refine blk_alloc ?_ _)); exact BK559.out) hb); have n2_ := Aside0.mk (below_step (by repeat (first | (with_reducible first | exact HB.out | apply below_alloc | apply pw_below_drewN | apply below_drew1 | refine below_set ?_ GE557.out | refine below_set ?_ GE559.out) | exact HB.out)) hb); have n3_ := Aside0.mk (hbox); have n4_ := Aside0.mk ((by rw [hg]; exact (below_size (by repeat (first | (with_reducible first | exact HB.out | apply below_alloc | apply pw_below_drewN | apply below_drew1 | refine below_set ?_ GE557.out | refine below_set ?_ GE559.out) | exact HB.out))) : w.heap.size ≤ gb561)); have n5_ := Aside0.mk ((by rw [hg]; exact (below_size (by repeat (first | (with_reducible first | exact HB.out | apply below_alloc | apply pw_below_drewN | apply below_drew1 | refine below_set ?_ GE557.out | refine below_set ?_ GE559.out) | exact HB.out))) : w.heap.size ≤ gb561)); have n6_ := Aside0.mk ((by rw [hg]; exact Nat.ne_of_lt (blk_lt (g := gb557) (o := .cells #[.int .i64 x558000_2, .int .i64 x558001_2, .int .i64 x558002_2, .bool x558003_2] 23 (0, 0)) (by (with_reducible repeat (first | refine blk_drewN ?_ _ | refine blk_drew ?_ | refine blk_alloc ?_ _)); exact BK557.out)) : gb557 ≠ gb561)); have n7_ := Aside0.mk ((by rw [hg]; exact Nat.ne_of_gt (blk_lt (g := gb557) (o := .cells #[.int .i64 x558000_2, .int .i64 x558001_2, .int .i64 x558002_2, .bool x558003_2] 23 (0, 0)) (by (with_reducible repeat (first | refine blk_drewN ?_ _ | refine blk_drew ?_ | refine blk_alloc ?_ _)); exact BK557.out)) : gb561 ≠ gb557)); have n8_ := Aside0.mk ((by rw [hg]; exact Nat.ne_of_lt (blk_lt (g := gb559) (o := .cells #[.int .i64 ((rd_T23 l0 0).f0), .int .i64 ((rd_T23 l0 0).f1), .int .i64 ((rd_T23 l0 0).f2), .bool false] 23 (0, 0)) (by (with_reducible repeat (first | refine blk_drewN ?_ _ | refine blk_drew ?_ | refine blk_alloc ?_ _)); exact BK559.out)) : gb559 ≠ gb561)); have n9_ := Aside0.mk ((by rw [hg]; exact Nat.ne_of_gt (blk_lt (g := gb559) (o := .cells #[.int .i64 ((rd_T23 l0 0).f0), .int .i64 ((rd_T23 l0 0).f1), .int .i64 ((rd_T23 l0 0).f2), .bool false] 23 (0, 0)) (by (with_reducible repeat (first | refine blk_drewN ?_ _ | refine blk_drew ?_ | refine blk_alloc ?_ _)); exact BK559.out)) : gb561 ≠ gb559)); clear BK557; clear BK559; clear HB; have BK557 := n0_; have BK559 := n1_; have HB := n2_; have BK561 := n3_; have GW561 := n4_; have GE561 := n5_; have NB557_561 := n6_; have NB561_557 := n7_; have NB559_561 := n8_; have NB561_559 := n9_; clear n0_ n1_ n2_ n3_ n4_ n5_ n6_ n7_ n8_ n9_; clear hb hbox hg; have hnb41 := NB561_557.out; have hnc41 := NB557_561.out; have hnb42 := NB561_559.out; have hnc42 := NB559_561.out; have hcz43_0 : w40.cell? ⟨gb561, 0, none⟩ = some (.int .i64 0) := (blk_cell BK561.out 0).trans rfl; have hcz43_1 : w40.cell? ⟨gb561, 1, none⟩ = some (.int .i64 0) := (blk_cell BK561.out 1).trans rfl; have hcz43_2 : w40.cell? ⟨gb561, 2, none⟩ = some (.int .i64 0) := (blk_cell BK561.out 2).trans rfl; have hcz43_3 : w40.cell? ⟨gb561, 3, none⟩ = some (.bool false) := (blk_cell BK561.out 3).trans rfl; have hfz43_0 := blk_frozen BK561.out 0; have hfz43_1 := blk_frozen BK561.out 1; have hfz43_2 := blk_frozen BK561.out 2; have hfz43_3 := blk_frozen BK561.out 3))
                              have n0_ : Aside0 (((((w40.setCell ⟨gb561, 0, none⟩ (.int .i64 ((rd_T23 l0 x21_2).f0))).setCell ⟨gb561, 1, none⟩ (.int .i64 ((rd_T23 l0 x21_2).f1))).setCell ⟨gb561, 2, none⟩ (.int .i64 ((rd_T23 l0 x21_2).f2))).setCell ⟨gb561, 3, none⟩ (.bool ((rd_T23 l0 x21_2).f3))).heap[gb557]? = some (.cells #[.int .i64 x558000_2, .int .i64 x558001_2, .int .i64 x558002_2, .bool x558003_2] 23 (0, 0))) := ⟨by (with_reducible repeat (first | refine blk_drewN ?_ _ | refine blk_drew ?_ | refine blk_alloc ?_ _)); refine blk_far ?_ NB557_561.out _; (with_reducible repeat (first | refine blk_drewN ?_ _ | refine blk_drew ?_ | refine blk_alloc ?_ _)); refine blk_far ?_ NB557_561.out _; (with_reducible repeat (first | refine blk_drewN ?_ _ | refine blk_drew ?_ | refine blk_alloc ?_ _)); refine blk_far ?_ NB557_561.out _; (with_reducible repeat (first | refine blk_drewN ?_ _ | refine blk_drew ?_ | refine blk_alloc ?_ _)); refine blk_far ?_ NB557_561.out _; (with_reducible repeat (first | refine blk_drewN ?_ _ | refine blk_drew ?_ | refine blk_alloc ?_ _)); exact BK557.out⟩
                              have n1_ : Aside0 (((((w40.setCell ⟨gb561, 0, none⟩ (.int .i64 ((rd_T23 l0 x21_2).f0))).setCell ⟨gb561, 1, none⟩ (.int .i64 ((rd_T23 l0 x21_2).f1))).setCell ⟨gb561, 2, none⟩ (.int .i64 ((rd_T23 l0 x21_2).f2))).setCell ⟨gb561, 3, none⟩ (.bool ((rd_T23 l0 x21_2).f3))).heap[gb559]? = some (.cells #[.int .i64 ((rd_T23 l0 0).f0), .int .i64 ((rd_T23 l0 0).f1), .int .i64 ((rd_T23 l0 0).f2), .bool false] 23 (0, 0))) := ⟨by (with_reducible repeat (first | refine blk_drewN ?_ _ | refine blk_drew ?_ | refine blk_alloc ?_ _)); refine blk_far ?_ NB559_561.out _; (with_reducible repeat (first | refine blk_drewN ?_ _ | refine blk_drew ?_ | refine blk_alloc ?_ _)); refine blk_far ?_ NB559_561.out _; (with_reducible repeat (first | refine blk_drewN ?_ _ | refine blk_drew ?_ | refine blk_alloc ?_ _)); refine blk_far ?_ NB559_561.out _; (with_reducible repeat (first | refine blk_drewN ?_ _ | refine blk_drew ?_ | refine blk_alloc ?_ _)); refine blk_far ?_ NB559_561.out _; (with_reducible repeat (first | refine blk_drewN ?_ _ | refine blk_drew ?_ | refine blk_alloc ?_ _)); exact BK559.out⟩
                              have n2_ : Aside0 (((((w40.setCell ⟨gb561, 0, none⟩ (.int .i64 ((rd_T23 l0 x21_2).f0))).setCell ⟨gb561, 1, none⟩ (.int .i64 ((rd_T23 l0 x21_2).f1))).setCell ⟨gb561, 2, none⟩ (.int .i64 ((rd_T23 l0 x21_2).f2))).setCell ⟨gb561, 3, none⟩ (.bool ((rd_T23 l0 x21_2).f3))).heap[gb561]? = some (.cells #[.int .i64 ((rd_T23 l0 x21_2).f0), .int .i64 ((rd_T23 l0 x21_2).f1), .int .i64 ((rd_T23 l0 x21_2).f2), .bool ((rd_T23 l0 x21_2).f3)] 23 (0, 0))) := ⟨by (with_reducible repeat (first | refine blk_drewN ?_ _ | refine blk_drew ?_ | refine blk_alloc ?_ _)); refine blk_put (cs := #[.int .i64 ((rd_T23 l0 x21_2).f0), .int .i64 ((rd_T23 l0 x21_2).f1), .int .i64 ((rd_T23 l0 x21_2).f2), .bool false]) ?_ 3 _ rfl; (with_reducible repeat (first | refine blk_drewN ?_ _ | refine blk_drew ?_ | refine blk_alloc ?_ _)); refine blk_put (cs := #[.int .i64 ((rd_T23 l0 x21_2).f0), .int .i64 ((rd_T23 l0 x21_2).f1), .int .i64 0, .bool false]) ?_ 2 _ rfl; (with_reducible repeat (first | refine blk_drewN ?_ _ | refine blk_drew ?_ | refine blk_alloc ?_ _)); refine blk_put (cs := #[.int .i64 ((rd_T23 l0 x21_2).f0), .int .i64 0, .int .i64 0, .bool false]) ?_ 1 _ rfl; (with_reducible repeat (first | refine blk_drewN ?_ _ | refine blk_drew ?_ | refine blk_alloc ?_ _)); refine blk_put (cs := #[.int .i64 0, .int .i64 0, .int .i64 0, .bool false]) ?_ 0 _ rfl; (with_reducible repeat (first | refine blk_drewN ?_ _ | refine blk_drew ?_ | refine blk_alloc ?_ _)); exact BK561.out⟩
                              have n3_ : Aside0 (Below w.heap.size w ((((w40.setCell ⟨gb561, 0, none⟩ (.int .i64 ((rd_T23 l0 x21_2).f0))).setCell ⟨gb561, 1, none⟩ (.int .i64 ((rd_T23 l0 x21_2).f1))).setCell ⟨gb561, 2, none⟩ (.int .i64 ((rd_T23 l0 x21_2).f2))).setCell ⟨gb561, 3, none⟩ (.bool ((rd_T23 l0 x21_2).f3)))) := ⟨by repeat (first | (with_reducible first | exact HB.out | apply below_alloc | apply pw_below_drewN | apply below_drew1 | refine below_set ?_ GE557.out | refine below_set ?_ GE559.out | refine below_set ?_ GE561.out) | exact HB.out)⟩
                              (try clear BK557)
                              (try clear BK559)
                              (try clear BK561)
                              (try clear HB)
                              generalize ((((w40.setCell ⟨gb561, 0, none⟩ (.int .i64 ((rd_T23 l0 x21_2).f0))).setCell ⟨gb561, 1, none⟩ (.int .i64 ((rd_T23 l0 x21_2).f1))).setCell ⟨gb561, 2, none⟩ (.int .i64 ((rd_T23 l0 x21_2).f2))).setCell ⟨gb561, 3, none⟩ (.bool ((rd_T23 l0 x21_2).f3))) = w44 at n0_ n1_ n2_ n3_ ⊢
                              have BK557 := n0_
                              have BK559 := n1_
                              have BK561 := n2_
                              have HB := n3_
                              clear n0_ n1_ n2_ n3_
                              have n0_ := Aside0.mk (blk_drew BK557.out)
                              have n1_ := Aside0.mk (blk_drew BK559.out)
                              have n2_ := Aside0.mk (blk_drew BK561.out)
                              have n3_ := Aside0.mk (below_drew1 HB.out)
                              clear BK557
                              clear BK559
                              clear BK561
                              clear HB
                              have BK557 := n0_
                              have BK559 := n1_
                              have BK561 := n2_
                              have HB := n3_
                              clear n0_ n1_ n2_ n3_
                              have p563 : 0 ≤ (0 : Int) := (by omega)
                              have q563 : 0 < (l0.length : Int) := of_decide_eq_true (by first | (with_reducible assumption) | assumption)
                              obtain ⟨ad563, e563, hx563_0, hx563_1, hx563_2, hx563_3⟩ := at_T23 HR0.out 0 p563 q563
                              have hw563_3 := hx563_3
                              (try rw [show ((0 : Int)).toNat = 0 from rfl] at hw563_3)
                              (try rw [show 0 * 4 = 0 from rfl] at hw563_3)
                              (try rw [Addr.add_zero'] at hw563_3)
                              have hw563_2 := hx563_2
                              (try rw [show ((0 : Int)).toNat = 0 from rfl] at hw563_2)
                              (try rw [show 0 * 4 = 0 from rfl] at hw563_2)
                              (try rw [Addr.add_zero'] at hw563_2)
                              have hw563_1 := hx563_1
                              (try rw [show ((0 : Int)).toNat = 0 from rfl] at hw563_1)
                              (try rw [show 0 * 4 = 0 from rfl] at hw563_1)
                              (try rw [Addr.add_zero'] at hw563_1)
                              have hw563_0 := hx563_0
                              (try rw [show ((0 : Int)).toNat = 0 from rfl] at hw563_0)
                              (try rw [show 0 * 4 = 0 from rfl] at hw563_0)
                              (try rw [Addr.add_zero'] at hw563_0)
                              obtain rfl : ad558 = ad563 := (by injection e563)
                              have qi563 : (0 < l0.length) = True := eq_true (by omega)
                              (try rw [show ((0 : Int)).toNat = 0 from rfl] at hx563_0)
                              (try rw [show 0 * 4 = 0 from rfl] at hx563_0)
                              (try rw [Addr.add_zero'] at hx563_0)
                              (try rw [show ((0 : Int)).toNat = 0 from rfl] at hx563_1)
                              (try rw [show 0 * 4 = 0 from rfl] at hx563_1)
                              (try rw [Addr.add_zero'] at hx563_1)
                              (try rw [show ((0 : Int)).toNat = 0 from rfl] at hx563_2)
                              (try rw [show 0 * 4 = 0 from rfl] at hx563_2)
                              (try rw [Addr.add_zero'] at hx563_2)
                              (try rw [show ((0 : Int)).toNat = 0 from rfl] at hx563_3)
                              (try rw [show 0 * 4 = 0 from rfl] at hx563_3)
                              (try rw [Addr.add_zero'] at hx563_3)
                              replace hx563_0 := (HB.out.cell (World.block_lt_of_cell? w _ hx563_0)).trans hx563_0
                              replace hx563_1 := (HB.out.cell (World.block_lt_of_cell? w _ hx563_1)).trans hx563_1
                              replace hx563_2 := (HB.out.cell (World.block_lt_of_cell? w _ hx563_2)).trans hx563_2
                              replace hx563_3 := (HB.out.cell (World.block_lt_of_cell? w _ hx563_3)).trans hx563_3
                              replace p563 := eq_true p563
                              replace q563 := eq_true q563
                              refine start_ (n := 16) (S := fun w' => w'.cell? ⟨gb561, 0, none⟩ = some (.int .i64 ((rd_T23 l0 x21_2).f0)) ∧ w'.cell? ⟨gb561, 1, none⟩ = some (.int .i64 ((rd_T23 l0 x21_2).f1)) ∧ w'.cell? ⟨gb561, 2, none⟩ = some (.int .i64 ((rd_T23 l0 x21_2).f2)) ∧ w'.cell? ⟨gb561, 3, none⟩ = some (.bool ((rd_T23 l0 x21_2).f3)) ∧ w'.cell? ad558 = some (.int .i64 ((rd_T23 l0 0).f0)) ∧ w'.cell? ⟨ad558.block, ad558.off + 1, none⟩ = some (.int .i64 ((rd_T23 l0 0).f1)) ∧ w'.cell? ⟨ad558.block, ad558.off + 2, none⟩ = some (.int .i64 ((rd_T23 l0 0).f2)) ∧ w'.cell? ⟨ad558.block, ad558.off + 3, none⟩ = some (.bool ((rd_T23 l0 0).f3))) (ds := []) #[false, false, false, false, false, false, false, false, false, false, false, false, false, false, false, false] (by kernel_rfl) rfl rfl ⟨(blk_cell BK561.out 0).trans rfl, (blk_cell BK561.out 1).trans rfl, (blk_cell BK561.out 2).trans rfl, (blk_cell BK561.out 3).trans rfl, ((HB.out.cell (World.block_lt_of_cell? w _ hw563_0)).trans hw563_0), ((HB.out.cell (World.block_lt_of_cell? w _ hw563_1)).trans hw563_1), ((HB.out.cell (World.block_lt_of_cell? w _ hw563_2)).trans hw563_2), ((HB.out.cell (World.block_lt_of_cell? w _ hw563_3)).trans hw563_3)⟩ (fun hHeld => ?_); refine with_tabW juntoref10_List.tab7 juntoref10_List.bits7 (fun HT_ HW_ => ?_)
                              generalize w44.drew = w45 at BK557 BK559 BK561 HB hx563_0 hx563_1 hx563_2 hx563_3 hHeld ⊢
                              refine take_ (i := 0) (N := some 25) (v := ?_) (a' := ?_) #[true, false, false, false, false, false, false, false, false, false, false, false, false, false, false, false] rfl rfl (take_ofW HT_.out HW_.out (by kernel_rfl)) (fun _ _ _ h => h) (Or.inl ⟨by rfl, ?_⟩) hHeld ?_ ?_
                              rotate_left
                              · rintro w' ⟨s0, s1, s2, s3, s4, s5, s6, s7⟩
                                go_simp
                                with_reducible rfl
                              rotate_left
                              · simp only [Act.put, List.setIfInBounds_toArray, List.set_cons_zero, List.set_cons_succ, i64_w, i32_w]
                                rfl
                              refine one_ (i := 1) (N := some 26) #[true, true, false, false, false, false, false, false, false, false, false, false, false, false, false, false] rfl rfl (one_of HT_.out (by kernel_rfl)) (by decide) (fun K hK => ?_)
                              refine goes_ Tryz.func11 (by kernel_rfl) rfl #[.agg #[.int .i64 ((rd_T23 l0 x21_2).f0), .int .i64 ((rd_T23 l0 x21_2).f1), .int .i64 ((rd_T23 l0 x21_2).f2), .bool ((rd_T23 l0 x21_2).f3)]] (by rfl) rfl rfl (by (try simp only [List.map_toArray, List.map_cons, List.map_nil]); first | done | rfl | (simp only [List.length_drop, List.length_take]; rfl)) ?_
                              with_reducible refine (juntoref10_IsType.calls k2 ((rd_T23 l0 x21_2).f0) ((rd_T23 l0 x21_2).f1) ((rd_T23 l0 x21_2).f2) ((rd_T23 l0 x21_2).f3) true _ A14.out).mono ?_
                              rintro e w46 ⟨rfl, hb⟩
                              refine ⟨_, rfl, ?_⟩
                              have n0_ := Aside0.mk (blk_below (g := gb557) (o := .cells #[.int .i64 x558000_2, .int .i64 x558001_2, .int .i64 x558002_2, .bool x558003_2] 23 (0, 0)) (by (with_reducible repeat (first | refine blk_drewN ?_ _ | refine blk_drew ?_ | refine blk_alloc ?_ _)); exact BK557.out) hb)
                              have n1_ := Aside0.mk (blk_below (g := gb559) (o := .cells #[.int .i64 ((rd_T23 l0 0).f0), .int .i64 ((rd_T23 l0 0).f1), .int .i64 ((rd_T23 l0 0).f2), .bool false] 23 (0, 0)) (by (with_reducible repeat (first | refine blk_drewN ?_ _ | refine blk_drew ?_ | refine blk_alloc ?_ _)); exact BK559.out) hb)
                              have n2_ := Aside0.mk (blk_below (g := gb561) (o := .cells #[.int .i64 ((rd_T23 l0 x21_2).f0), .int .i64 ((rd_T23 l0 x21_2).f1), .int .i64 ((rd_T23 l0 x21_2).f2), .bool ((rd_T23 l0 x21_2).f3)] 23 (0, 0)) (by (with_reducible repeat (first | refine blk_drewN ?_ _ | refine blk_drew ?_ | refine blk_alloc ?_ _)); exact BK561.out) hb)
                              have n3_ := Aside0.mk (below_step (by repeat (first | (with_reducible first | exact HB.out | apply below_alloc | apply pw_below_drewN | apply below_drew1 | refine below_set ?_ GE557.out | refine below_set ?_ GE559.out | refine below_set ?_ GE561.out) | exact HB.out)) hb)
                              clear BK557
                              clear BK559
                              clear BK561
                              clear HB
                              have BK557 := n0_
                              have BK559 := n1_
                              have BK561 := n2_
                              have HB := n3_
                              clear n0_ n1_ n2_ n3_
                              (try clear hb)
                              (try clear hb2)
                              (try clear hk)
                              (try clear hi)
                              refine hK.out _ _ ⟨(blk_cell BK561.out 0).trans rfl, (blk_cell BK561.out 1).trans rfl, (blk_cell BK561.out 2).trans rfl, (blk_cell BK561.out 3).trans rfl, ((HB.out.cell (World.block_lt_of_cell? w _ hw563_0)).trans hw563_0), ((HB.out.cell (World.block_lt_of_cell? w _ hw563_1)).trans hw563_1), ((HB.out.cell (World.block_lt_of_cell? w _ hw563_2)).trans hw563_2), ((HB.out.cell (World.block_lt_of_cell? w _ hw563_3)).trans hw563_3)⟩ (fun hHeld => ?_)
                              clear hK K
                              refine norm_ (a' := ?_) ?_ ?_
                              rotate_left
                              · show Act.put _ (some 26) _ = _
                                simp only [Act.put, List.setIfInBounds_toArray, List.set_cons_zero, List.set_cons_succ, i64_w, i32_w]
                                rfl
                              refine pure_ (i := 2) (N := some 27) (v := ?_) (a' := ?_) #[true, true, true, false, false, false, false, false, false, false, false, false, false, false, false, false] rfl rfl (any_of HT_.out (by kernel_rfl)) (fun _ _ _ h => h) (Or.inl ⟨by rfl, ?_⟩) ?_ ?_
                              rotate_left
                              · intro w'
                                go_simp
                                with_reducible rfl
                              rotate_left
                              · simp only [Act.put, List.setIfInBounds_toArray, List.set_cons_zero, List.set_cons_succ, i64_w, i32_w]
                                rfl
                              refine pure_ (i := 3) (N := some 28) (v := ?_) (a' := ?_) #[true, true, true, true, false, false, false, false, false, false, false, false, false, false, false, false] rfl rfl (any_of HT_.out (by kernel_rfl)) (fun _ _ _ h => h) (Or.inl ⟨by rfl, ?_⟩) ?_ ?_
                              rotate_left
                              · intro w'
                                go_simp
                                with_reducible rfl
                              rotate_left
                              · simp only [Act.put, List.setIfInBounds_toArray, List.set_cons_zero, List.set_cons_succ, i64_w, i32_w]
                                rfl
                              refine pure_ (i := 4) (N := some 29) (v := ?_) (a' := ?_) #[true, true, true, true, true, false, false, false, false, false, false, false, false, false, false, false] rfl rfl (any_of HT_.out (by kernel_rfl)) (fun _ _ _ h => h) (Or.inl ⟨by rfl, ?_⟩) ?_ ?_
                              rotate_left
                              · intro w'
                                go_simp
                                with_reducible rfl
                              rotate_left
                              · simp only [Act.put, List.setIfInBounds_toArray, List.set_cons_zero, List.set_cons_succ, i64_w, i32_w]
                                rfl
                              refine take_ (i := 5) (N := some 30) (v := ?_) (a' := ?_) #[true, true, true, true, true, true, false, false, false, false, false, false, false, false, false, false] rfl rfl (take_ofW HT_.out HW_.out (by kernel_rfl)) (fun _ _ _ h => h) (Or.inl ⟨by rfl, ?_⟩) hHeld ?_ ?_
                              rotate_left
                              · rintro w' ⟨s0, s1, s2, s3, s4, s5, s6, s7⟩
                                go_simp
                                with_reducible rfl
                              rotate_left
                              · simp only [Act.put, List.setIfInBounds_toArray, List.set_cons_zero, List.set_cons_succ, i64_w, i32_w]
                                rfl
                              refine pure_ (i := 6) (N := some 31) (v := ?_) (a' := ?_) #[true, true, true, true, true, true, true, false, false, false, false, false, false, false, false, false] rfl rfl (any_of HT_.out (by kernel_rfl)) (fun _ _ _ h => h) (Or.inl ⟨by rfl, ?_⟩) ?_ ?_
                              rotate_left
                              · intro w'
                                go_simp
                                with_reducible rfl
                              rotate_left
                              · simp only [Act.put, List.setIfInBounds_toArray, List.set_cons_zero, List.set_cons_succ, i64_w, i32_w]
                                rfl
                              refine pure_ (i := 7) (N := some 32) (v := ?_) (a' := ?_) #[true, true, true, true, true, true, true, true, false, false, false, false, false, false, false, false] rfl rfl (any_of HT_.out (by kernel_rfl)) (fun _ _ _ h => h) (Or.inl ⟨by rfl, ?_⟩) ?_ ?_
                              rotate_left
                              · intro w'
                                go_simp
                                with_reducible rfl
                              rotate_left
                              · simp only [Act.put, List.setIfInBounds_toArray, List.set_cons_zero, List.set_cons_succ, i64_w, i32_w]
                                rfl
                              refine pure_ (i := 8) (N := some 33) (v := ?_) (a' := ?_) #[true, true, true, true, true, true, true, true, true, false, false, false, false, false, false, false] rfl rfl (any_of HT_.out (by kernel_rfl)) (fun _ _ _ h => h) (Or.inl ⟨by rfl, ?_⟩) ?_ ?_
                              rotate_left
                              · intro w'
                                go_simp
                                with_reducible rfl
                              rotate_left
                              · simp only [Act.put, List.setIfInBounds_toArray, List.set_cons_zero, List.set_cons_succ, i64_w, i32_w]
                                rfl
                              refine pure_ (i := 10) (N := some 35) (v := ?_) (a' := ?_) #[true, true, true, true, true, true, true, true, true, false, true, false, false, false, false, false] rfl rfl (any_of HT_.out (by kernel_rfl)) (fun _ _ _ h => h) (Or.inl ⟨by rfl, ?_⟩) ?_ ?_
                              rotate_left
                              · intro w'
                                go_simp
                                with_reducible rfl
                              rotate_left
                              · simp only [Act.put, List.setIfInBounds_toArray, List.set_cons_zero, List.set_cons_succ, i64_w, i32_w]
                                rfl
                              refine pure_ (i := 11) (N := some 36) (v := ?_) (a' := ?_) #[true, true, true, true, true, true, true, true, true, false, true, true, false, false, false, false] rfl rfl (any_of HT_.out (by kernel_rfl)) (fun _ _ _ h => h) (Or.inl ⟨by rfl, ?_⟩) ?_ ?_
                              rotate_left
                              · intro w'
                                go_simp
                                with_reducible rfl
                              rotate_left
                              · simp only [Act.put, List.setIfInBounds_toArray, List.set_cons_zero, List.set_cons_succ, i64_w, i32_w]
                                rfl
                              refine take_ (i := 9) (N := some 34) (v := ?_) (a' := ?_) #[true, true, true, true, true, true, true, true, true, true, true, true, false, false, false, false] rfl rfl (take_ofW HT_.out HW_.out (by kernel_rfl)) (fun _ _ _ h => h) (Or.inl ⟨by rfl, ?_⟩) hHeld ?_ ?_
                              rotate_left
                              · rintro w' ⟨s0, s1, s2, s3, s4, s5, s6, s7⟩
                                go_simp
                                with_reducible rfl
                              rotate_left
                              · simp only [Act.put, List.setIfInBounds_toArray, List.set_cons_zero, List.set_cons_succ, i64_w, i32_w]
                                rfl
                              refine take_ (i := 12) (N := some 37) (v := ?_) (a' := ?_) #[true, true, true, true, true, true, true, true, true, true, true, true, true, false, false, false] rfl rfl (take_ofW HT_.out HW_.out (by kernel_rfl)) (fun _ _ _ h => h) (Or.inl ⟨by rfl, ?_⟩) hHeld ?_ ?_
                              rotate_left
                              · rintro w' ⟨s0, s1, s2, s3, s4, s5, s6, s7⟩
                                go_simp
                                with_reducible rfl
                              rotate_left
                              · simp only [Act.put, List.setIfInBounds_toArray, List.set_cons_zero, List.set_cons_succ, i64_w, i32_w]
                                rfl
                              refine one_ (i := 13) (N := some 38) #[true, true, true, true, true, true, true, true, true, true, true, true, true, true, false, false] rfl rfl (one_of HT_.out (by kernel_rfl)) (by decide) (fun K hK => ?_)
                              refine goes_ Tryz.func42 (by kernel_rfl) rfl #[.agg #[.int .i64 ((rd_T23 l0 x21_2).f0), .int .i64 ((rd_T23 l0 x21_2).f1), .int .i64 ((rd_T23 l0 x21_2).f2), .bool ((rd_T23 l0 x21_2).f3)], .agg #[.int .i64 ((rd_T23 l0 0).f0), .int .i64 ((rd_T23 l0 0).f1), .int .i64 ((rd_T23 l0 0).f2), .bool ((rd_T23 l0 0).f3)]] (by rfl) rfl rfl (by (try simp only [List.map_toArray, List.map_cons, List.map_nil]); first | done | rfl | (simp only [List.length_drop, List.length_take]; rfl)) ?_
                              with_reducible refine (juntoref10_Alike.calls ((rd_T23 l0 x21_2).f0) ((rd_T23 l0 x21_2).f1) ((rd_T23 l0 x21_2).f2) ((rd_T23 l0 x21_2).f3) ((rd_T23 l0 0).f0) ((rd_T23 l0 0).f1) ((rd_T23 l0 0).f2) ((rd_T23 l0 0).f3) true _ A27.out).mono ?_
                              rintro e w47 ⟨rfl, hb⟩
                              refine ⟨_, rfl, ?_⟩
                              have n0_ := Aside0.mk (blk_below (g := gb557) (o := .cells #[.int .i64 x558000_2, .int .i64 x558001_2, .int .i64 x558002_2, .bool x558003_2] 23 (0, 0)) (by (with_reducible repeat (first | refine blk_drewN ?_ _ | refine blk_drew ?_ | refine blk_alloc ?_ _)); exact BK557.out) hb)
                              have n1_ := Aside0.mk (blk_below (g := gb559) (o := .cells #[.int .i64 ((rd_T23 l0 0).f0), .int .i64 ((rd_T23 l0 0).f1), .int .i64 ((rd_T23 l0 0).f2), .bool false] 23 (0, 0)) (by (with_reducible repeat (first | refine blk_drewN ?_ _ | refine blk_drew ?_ | refine blk_alloc ?_ _)); exact BK559.out) hb)
                              have n2_ := Aside0.mk (blk_below (g := gb561) (o := .cells #[.int .i64 ((rd_T23 l0 x21_2).f0), .int .i64 ((rd_T23 l0 x21_2).f1), .int .i64 ((rd_T23 l0 x21_2).f2), .bool ((rd_T23 l0 x21_2).f3)] 23 (0, 0)) (by (with_reducible repeat (first | refine blk_drewN ?_ _ | refine blk_drew ?_ | refine blk_alloc ?_ _)); exact BK561.out) hb)
                              have n3_ := Aside0.mk (below_step (by repeat (first | (with_reducible first | exact HB.out | apply below_alloc | apply pw_below_drewN | apply below_drew1 | refine below_set ?_ GE557.out | refine below_set ?_ GE559.out | refine below_set ?_ GE561.out) | exact HB.out)) hb)
                              clear BK557
                              clear BK559
                              clear BK561
                              clear HB
                              have BK557 := n0_
                              have BK559 := n1_
                              have BK561 := n2_
                              have HB := n3_
                              clear n0_ n1_ n2_ n3_
                              (try clear hb)
                              (try clear hb2)
                              (try clear hk)
                              (try clear hi)
                              refine hK.out _ _ ⟨(blk_cell BK561.out 0).trans rfl, (blk_cell BK561.out 1).trans rfl, (blk_cell BK561.out 2).trans rfl, (blk_cell BK561.out 3).trans rfl, ((HB.out.cell (World.block_lt_of_cell? w _ hw563_0)).trans hw563_0), ((HB.out.cell (World.block_lt_of_cell? w _ hw563_1)).trans hw563_1), ((HB.out.cell (World.block_lt_of_cell? w _ hw563_2)).trans hw563_2), ((HB.out.cell (World.block_lt_of_cell? w _ hw563_3)).trans hw563_3)⟩ (fun hHeld => ?_)
                              clear hK K
                              refine norm_ (a' := ?_) ?_ ?_
                              rotate_left
                              · show Act.put _ (some 38) _ = _
                                simp only [Act.put, List.setIfInBounds_toArray, List.set_cons_zero, List.set_cons_succ, i64_w, i32_w]
                                rfl
                              refine pure_ (i := 14) (N := some 39) (v := ?_) (a' := ?_) #[true, true, true, true, true, true, true, true, true, true, true, true, true, true, true, false] rfl rfl (any_of HT_.out (by kernel_rfl)) (fun _ _ _ h => h) (Or.inl ⟨by rfl, ?_⟩) ?_ ?_
                              rotate_left
                              · intro w'
                                go_simp
                                with_reducible rfl
                              rotate_left
                              · simp only [Act.put, List.setIfInBounds_toArray, List.set_cons_zero, List.set_cons_succ, i64_w, i32_w]
                                rfl
                              refine pure_ (i := 15) (N := some 40) (v := ?_) (a' := ?_) #[true, true, true, true, true, true, true, true, true, true, true, true, true, true, true, true] rfl rfl (any_of HT_.out (by kernel_rfl)) (fun _ _ _ h => h) (Or.inl ⟨by rfl, ?_⟩) ?_ ?_
                              rotate_left
                              · intro w'
                                go_simp
                                with_reducible rfl
                              rotate_left
                              · simp only [Act.put, List.setIfInBounds_toArray, List.set_cons_zero, List.set_cons_succ, i64_w, i32_w]
                                rfl
                              refine done_ (done_of HT_.out (by kernel_rfl)) ?_
                              have hnb48 := NB559_557.out
                              have hnc48 := NB557_559.out
                              have hcz49_0 : w47.cell? ⟨gb559, 0, none⟩ = some (.int .i64 ((rd_T23 l0 0).f0)) := (blk_cell BK559.out 0).trans rfl
                              have hcz49_1 : w47.cell? ⟨gb559, 1, none⟩ = some (.int .i64 ((rd_T23 l0 0).f1)) := (blk_cell BK559.out 1).trans rfl
                              have hcz49_2 : w47.cell? ⟨gb559, 2, none⟩ = some (.int .i64 ((rd_T23 l0 0).f2)) := (blk_cell BK559.out 2).trans rfl
                              have hcz49_3 : w47.cell? ⟨gb559, 3, none⟩ = some (.bool false) := (blk_cell BK559.out 3).trans rfl
                              have hfz49_0 := blk_frozen BK559.out 0
                              have hfz49_1 := blk_frozen BK559.out 1
                              have hfz49_2 := blk_frozen BK559.out 2
                              have hfz49_3 := blk_frozen BK559.out 3
                              have hcz50_0 : w47.cell? ⟨gb561, 0, none⟩ = some (.int .i64 ((rd_T23 l0 x21_2).f0)) := (blk_cell BK561.out 0).trans rfl
                              have hcz50_1 : w47.cell? ⟨gb561, 1, none⟩ = some (.int .i64 ((rd_T23 l0 x21_2).f1)) := (blk_cell BK561.out 1).trans rfl
                              have hcz50_2 : w47.cell? ⟨gb561, 2, none⟩ = some (.int .i64 ((rd_T23 l0 x21_2).f2)) := (blk_cell BK561.out 2).trans rfl
                              have hcz50_3 : w47.cell? ⟨gb561, 3, none⟩ = some (.bool ((rd_T23 l0 x21_2).f3)) := (blk_cell BK561.out 3).trans rfl
                              have hfz50_0 := blk_frozen BK561.out 0
                              have hfz50_1 := blk_frozen BK561.out 1
                              have hfz50_2 := blk_frozen BK561.out 2
                              have hfz50_3 := blk_frozen BK561.out 3
                              try go_wp2
                              go_roundg k2
                              case measure => have := HJ1.out; have := HK2.out; omega
                              case rel => exact ⟨(wrap64 (x21_2 + 1)), (x558000_2), (x558001_2), (x558002_2), (x558003_2), ((rd_T23 l0 x21_2).f3), (by first | rfl | (simp; done) | (simp [*]; done)), H', ⟨by have := HJ1.out; have := HK2.out; omega⟩, ⟨by (with_reducible repeat (first | refine blk_drewN ?_ _ | refine blk_drew ?_ | refine blk_alloc ?_ _)); refine blk_far ?_ NB557_559.out _; (with_reducible repeat (first | refine blk_drewN ?_ _ | refine blk_drew ?_ | refine blk_alloc ?_ _)); exact BK557.out⟩, ⟨by (with_reducible repeat (first | refine blk_drewN ?_ _ | refine blk_drew ?_ | refine blk_alloc ?_ _)); refine blk_put (cs := #[.int .i64 ((rd_T23 l0 0).f0), .int .i64 ((rd_T23 l0 0).f1), .int .i64 ((rd_T23 l0 0).f2), .bool false]) ?_ 3 _ rfl; (with_reducible repeat (first | refine blk_drewN ?_ _ | refine blk_drew ?_ | refine blk_alloc ?_ _)); exact BK559.out⟩, ⟨by repeat (first | (with_reducible first | exact HB.out | apply below_alloc | apply pw_below_drewN | apply below_drew1 | refine below_set ?_ GE557.out | refine below_set ?_ GE559.out | refine below_set ?_ GE561.out) | exact HB.out)⟩⟩
                          · replace c28 := Bool.eq_false_iff.mpr c28
                            subst c28
                            have H1 : (some (0, 0, 0, false, 9)) = some (r1, r2, r3, r4, r5) := by rw [if_neg (show ¬ (false = true) by decide)] at H; exact H
                            clear H
                            have H := H1
                            clear H1
                            simp only [Option.some.injEq, Prod.mk.injEq] at H
                            obtain ⟨rfl, rfl, rfl, rfl, rfl⟩ := H
                            have p560 : 0 ≤ (x21_2 : Int) := of_decide_eq_true (by first | (with_reducible assumption) | assumption)
                            have q560 : x21_2 < (l0.length : Int) := of_decide_eq_true (by first | (with_reducible assumption) | assumption)
                            obtain ⟨ad560, e560, hx560_0, hx560_1, hx560_2, hx560_3⟩ := at_T23 HR0.out x21_2 p560 q560
                            obtain rfl : ad558 = ad560 := (by injection e560)
                            replace hx560_0 := (HB.out.cell (World.block_lt_of_cell? w _ hx560_0)).trans hx560_0
                            replace hx560_1 := (HB.out.cell (World.block_lt_of_cell? w _ hx560_1)).trans hx560_1
                            replace hx560_2 := (HB.out.cell (World.block_lt_of_cell? w _ hx560_2)).trans hx560_2
                            replace hx560_3 := (HB.out.cell (World.block_lt_of_cell? w _ hx560_3)).trans hx560_3
                            replace p560 := eq_true p560
                            replace q560 := eq_true q560
                            try go_wp2_with (first | ((with_reducible refine gate_dst (N := 6) rfl ?_); (try (refine gate_guard (by rfl) ?_; dsimp only)); refine box_event ?hg (N := 6) ?hd (cs := #[.int .i64 0, .int .i64 0, .int .i64 0, .bool false]) (t := 23) ?hr ?_; (case hd => rfl); (case hg => rfl); (case hr => first | (go_simp; done) | (go_simp; rfl)); intro gb561 hg w51 hbox hb; have n0_ := Aside0.mk (blk_below (g := gb557) (o := .cells #[.int .i64 x558000_2, .int .i64 x558001_2, .int .i64 x558002_2, .bool x558003_2] 23 (0, 0)) (by (with_reducible repeat (first | refine blk_drewN ?_ _ | refine blk_drew ?_ | refine blk_alloc ?_ _)); exact BK557.out) hb); have n1_ := Aside0.mk (blk_below (g := gb559) (o := .cells #[.int .i64 ((rd_T23 l0 0).f0), .int .i64 ((rd_T23 l0 0).f1), .int .i64 ((rd_T23 l0 0).f2), .bool x560003_2] 23 (0, 0)) (by (with_reducible repeat (first | refine blk_drewN ?_ _ | refine blk_drew ?_ | refine blk_alloc ?_ _)); exact BK559.out) hb); have n2_ := Aside0.mk (below_step (by repeat (first | (with_reducible first | exact HB.out | apply below_alloc | apply pw_below_drewN | apply below_drew1 | refine below_set ?_ GE557.out | refine below_set ?_ GE559.out) | exact HB.out)) hb); have n3_ := Aside0.mk (hbox); have n4_ := Aside0.mk ((by rw [hg]; exact (below_size (by repeat (first | (with_reducible first | exact HB.out | apply below_alloc | apply pw_below_drewN | apply below_drew1 | refine below_set ?_ GE557.out | refine below_set ?_ GE559.out) | exact HB.out))) : w.heap.size ≤ gb561)); have n5_ := Aside0.mk ((by rw [hg]; exact (below_size (by repeat (first | (with_reducible first | exact HB.out | apply below_alloc | apply pw_below_drewN | apply below_drew1 | refine below_set ?_ GE557.out | refine below_set ?_ GE559.out) | exact HB.out))) : w.heap.size ≤ gb561)); have n6_ := Aside0.mk ((by rw [hg]; exact Nat.ne_of_lt (blk_lt (g := gb557) (o := .cells #[.int .i64 x558000_2, .int .i64 x558001_2, .int .i64 x558002_2, .bool x558003_2] 23 (0, 0)) (by (with_reducible repeat (first | refine blk_drewN ?_ _ | refine blk_drew ?_ | refine blk_alloc ?_ _)); exact BK557.out)) : gb557 ≠ gb561)); have n7_ := Aside0.mk ((by rw [hg]; exact Nat.ne_of_gt (blk_lt (g := gb557) (o := .cells #[.int .i64 x558000_2, .int .i64 x558001_2, .int .i64 x558002_2, .bool x558003_2] 23 (0, 0)) (by (with_reducible repeat (first | refine blk_drewN ?_ _ | refine blk_drew ?_ | refine blk_alloc ?_ _)); exact BK557.out)) : gb561 ≠ gb557)); have n8_ := Aside0.mk ((by rw [hg]; exact Nat.ne_of_lt (blk_lt (g := gb559) (o := .cells #[.int .i64 ((rd_T23 l0 0).f0), .int .i64 ((rd_T23 l0 0).f1), .int .i64 ((rd_T23 l0 0).f2), .bool x560003_2] 23 (0, 0)) (by (with_reducible repeat (first | refine blk_drewN ?_ _ | refine blk_drew ?_ | refine blk_alloc ?_ _)); exact BK559.out)) : gb559 ≠ gb561)); have n9_ := Aside0.mk ((by rw [hg]; exact Nat.ne_of_gt (blk_lt (g := gb559) (o := .cells #[.int .i64 ((rd_T23 l0 0).f0), .int .i64 ((rd_T23 l0 0).f1), .int .i64 ((rd_T23 l0 0).f2), .bool x560003_2] 23 (0, 0)) (by (with_reducible repeat (first | refine blk_drewN ?_ _ | refine blk_drew ?_ | refine blk_alloc ?_ _)); exact BK559.out)) : gb561 ≠ gb559)); clear BK557; clear BK559; clear HB; have BK557 := n0_; have BK559 := n1_; have HB := n2_; have BK561 := n3_; have GW561 := n4_; have GE561 := n5_; have NB557_561 := n6_; have NB561_557 := n7_; have NB559_561 := n8_; have NB561_559 := n9_; clear n0_ n1_ n2_ n3_ n4_ n5_ n6_ n7_ n8_ n9_; clear hb hbox hg; have hnb52 := NB561_557.out; have hnc52 := NB557_561.out; have hnb53 := NB561_559.out; have hnc53 := NB559_561.out; have hcz54_0 : w51.cell? ⟨gb561, 0, none⟩ = some (.int .i64 0) := (blk_cell BK561.out 0).trans rfl; have hcz54_1 : w51.cell? ⟨gb561, 1, none⟩ = some (.int .i64 0) := (blk_cell BK561.out 1).trans rfl; have hcz54_2 : w51.cell? ⟨gb561, 2, none⟩ = some (.int .i64 0) := (blk_cell BK561.out 2).trans rfl; have hcz54_3 : w51.cell? ⟨gb561, 3, none⟩ = some (.bool false) := (blk_cell BK561.out 3).trans rfl; have hfz54_0 := blk_frozen BK561.out 0; have hfz54_1 := blk_frozen BK561.out 1; have hfz54_2 := blk_frozen BK561.out 2; have hfz54_3 := blk_frozen BK561.out 3))
                            have n0_ : Aside0 (((((w51.setCell ⟨gb561, 0, none⟩ (.int .i64 ((rd_T23 l0 x21_2).f0))).setCell ⟨gb561, 1, none⟩ (.int .i64 ((rd_T23 l0 x21_2).f1))).setCell ⟨gb561, 2, none⟩ (.int .i64 ((rd_T23 l0 x21_2).f2))).setCell ⟨gb561, 3, none⟩ (.bool ((rd_T23 l0 x21_2).f3))).heap[gb557]? = some (.cells #[.int .i64 x558000_2, .int .i64 x558001_2, .int .i64 x558002_2, .bool x558003_2] 23 (0, 0))) := ⟨by (with_reducible repeat (first | refine blk_drewN ?_ _ | refine blk_drew ?_ | refine blk_alloc ?_ _)); refine blk_far ?_ NB557_561.out _; (with_reducible repeat (first | refine blk_drewN ?_ _ | refine blk_drew ?_ | refine blk_alloc ?_ _)); refine blk_far ?_ NB557_561.out _; (with_reducible repeat (first | refine blk_drewN ?_ _ | refine blk_drew ?_ | refine blk_alloc ?_ _)); refine blk_far ?_ NB557_561.out _; (with_reducible repeat (first | refine blk_drewN ?_ _ | refine blk_drew ?_ | refine blk_alloc ?_ _)); refine blk_far ?_ NB557_561.out _; (with_reducible repeat (first | refine blk_drewN ?_ _ | refine blk_drew ?_ | refine blk_alloc ?_ _)); exact BK557.out⟩
                            have n1_ : Aside0 (((((w51.setCell ⟨gb561, 0, none⟩ (.int .i64 ((rd_T23 l0 x21_2).f0))).setCell ⟨gb561, 1, none⟩ (.int .i64 ((rd_T23 l0 x21_2).f1))).setCell ⟨gb561, 2, none⟩ (.int .i64 ((rd_T23 l0 x21_2).f2))).setCell ⟨gb561, 3, none⟩ (.bool ((rd_T23 l0 x21_2).f3))).heap[gb559]? = some (.cells #[.int .i64 ((rd_T23 l0 0).f0), .int .i64 ((rd_T23 l0 0).f1), .int .i64 ((rd_T23 l0 0).f2), .bool x560003_2] 23 (0, 0))) := ⟨by (with_reducible repeat (first | refine blk_drewN ?_ _ | refine blk_drew ?_ | refine blk_alloc ?_ _)); refine blk_far ?_ NB559_561.out _; (with_reducible repeat (first | refine blk_drewN ?_ _ | refine blk_drew ?_ | refine blk_alloc ?_ _)); refine blk_far ?_ NB559_561.out _; (with_reducible repeat (first | refine blk_drewN ?_ _ | refine blk_drew ?_ | refine blk_alloc ?_ _)); refine blk_far ?_ NB559_561.out _; (with_reducible repeat (first | refine blk_drewN ?_ _ | refine blk_drew ?_ | refine blk_alloc ?_ _)); refine blk_far ?_ NB559_561.out _; (with_reducible repeat (first | refine blk_drewN ?_ _ | refine blk_drew ?_ | refine blk_alloc ?_ _)); exact BK559.out⟩
                            have n2_ : Aside0 (((((w51.setCell ⟨gb561, 0, none⟩ (.int .i64 ((rd_T23 l0 x21_2).f0))).setCell ⟨gb561, 1, none⟩ (.int .i64 ((rd_T23 l0 x21_2).f1))).setCell ⟨gb561, 2, none⟩ (.int .i64 ((rd_T23 l0 x21_2).f2))).setCell ⟨gb561, 3, none⟩ (.bool ((rd_T23 l0 x21_2).f3))).heap[gb561]? = some (.cells #[.int .i64 ((rd_T23 l0 x21_2).f0), .int .i64 ((rd_T23 l0 x21_2).f1), .int .i64 ((rd_T23 l0 x21_2).f2), .bool ((rd_T23 l0 x21_2).f3)] 23 (0, 0))) := ⟨by (with_reducible repeat (first | refine blk_drewN ?_ _ | refine blk_drew ?_ | refine blk_alloc ?_ _)); refine blk_put (cs := #[.int .i64 ((rd_T23 l0 x21_2).f0), .int .i64 ((rd_T23 l0 x21_2).f1), .int .i64 ((rd_T23 l0 x21_2).f2), .bool false]) ?_ 3 _ rfl; (with_reducible repeat (first | refine blk_drewN ?_ _ | refine blk_drew ?_ | refine blk_alloc ?_ _)); refine blk_put (cs := #[.int .i64 ((rd_T23 l0 x21_2).f0), .int .i64 ((rd_T23 l0 x21_2).f1), .int .i64 0, .bool false]) ?_ 2 _ rfl; (with_reducible repeat (first | refine blk_drewN ?_ _ | refine blk_drew ?_ | refine blk_alloc ?_ _)); refine blk_put (cs := #[.int .i64 ((rd_T23 l0 x21_2).f0), .int .i64 0, .int .i64 0, .bool false]) ?_ 1 _ rfl; (with_reducible repeat (first | refine blk_drewN ?_ _ | refine blk_drew ?_ | refine blk_alloc ?_ _)); refine blk_put (cs := #[.int .i64 0, .int .i64 0, .int .i64 0, .bool false]) ?_ 0 _ rfl; (with_reducible repeat (first | refine blk_drewN ?_ _ | refine blk_drew ?_ | refine blk_alloc ?_ _)); exact BK561.out⟩
                            have n3_ : Aside0 (Below w.heap.size w ((((w51.setCell ⟨gb561, 0, none⟩ (.int .i64 ((rd_T23 l0 x21_2).f0))).setCell ⟨gb561, 1, none⟩ (.int .i64 ((rd_T23 l0 x21_2).f1))).setCell ⟨gb561, 2, none⟩ (.int .i64 ((rd_T23 l0 x21_2).f2))).setCell ⟨gb561, 3, none⟩ (.bool ((rd_T23 l0 x21_2).f3)))) := ⟨by repeat (first | (with_reducible first | exact HB.out | apply below_alloc | apply pw_below_drewN | apply below_drew1 | refine below_set ?_ GE557.out | refine below_set ?_ GE559.out | refine below_set ?_ GE561.out) | exact HB.out)⟩
                            (try clear BK557)
                            (try clear BK559)
                            (try clear BK561)
                            (try clear HB)
                            generalize ((((w51.setCell ⟨gb561, 0, none⟩ (.int .i64 ((rd_T23 l0 x21_2).f0))).setCell ⟨gb561, 1, none⟩ (.int .i64 ((rd_T23 l0 x21_2).f1))).setCell ⟨gb561, 2, none⟩ (.int .i64 ((rd_T23 l0 x21_2).f2))).setCell ⟨gb561, 3, none⟩ (.bool ((rd_T23 l0 x21_2).f3))) = w55 at n0_ n1_ n2_ n3_ ⊢
                            have BK557 := n0_
                            have BK559 := n1_
                            have BK561 := n2_
                            have HB := n3_
                            clear n0_ n1_ n2_ n3_
                            have n0_ := Aside0.mk (blk_drew BK557.out)
                            have n1_ := Aside0.mk (blk_drew BK559.out)
                            have n2_ := Aside0.mk (blk_drew BK561.out)
                            have n3_ := Aside0.mk (below_drew1 HB.out)
                            clear BK557
                            clear BK559
                            clear BK561
                            clear HB
                            have BK557 := n0_
                            have BK559 := n1_
                            have BK561 := n2_
                            have HB := n3_
                            clear n0_ n1_ n2_ n3_
                            have p563 : 0 ≤ (0 : Int) := (by omega)
                            have q563 : 0 < (l0.length : Int) := of_decide_eq_true (by first | (with_reducible assumption) | assumption)
                            obtain ⟨ad563, e563, hx563_0, hx563_1, hx563_2, hx563_3⟩ := at_T23 HR0.out 0 p563 q563
                            have hw563_3 := hx563_3
                            (try rw [show ((0 : Int)).toNat = 0 from rfl] at hw563_3)
                            (try rw [show 0 * 4 = 0 from rfl] at hw563_3)
                            (try rw [Addr.add_zero'] at hw563_3)
                            have hw563_2 := hx563_2
                            (try rw [show ((0 : Int)).toNat = 0 from rfl] at hw563_2)
                            (try rw [show 0 * 4 = 0 from rfl] at hw563_2)
                            (try rw [Addr.add_zero'] at hw563_2)
                            have hw563_1 := hx563_1
                            (try rw [show ((0 : Int)).toNat = 0 from rfl] at hw563_1)
                            (try rw [show 0 * 4 = 0 from rfl] at hw563_1)
                            (try rw [Addr.add_zero'] at hw563_1)
                            have hw563_0 := hx563_0
                            (try rw [show ((0 : Int)).toNat = 0 from rfl] at hw563_0)
                            (try rw [show 0 * 4 = 0 from rfl] at hw563_0)
                            (try rw [Addr.add_zero'] at hw563_0)
                            obtain rfl : ad558 = ad563 := (by injection e563)
                            have qi563 : (0 < l0.length) = True := eq_true (by omega)
                            (try rw [show ((0 : Int)).toNat = 0 from rfl] at hx563_0)
                            (try rw [show 0 * 4 = 0 from rfl] at hx563_0)
                            (try rw [Addr.add_zero'] at hx563_0)
                            (try rw [show ((0 : Int)).toNat = 0 from rfl] at hx563_1)
                            (try rw [show 0 * 4 = 0 from rfl] at hx563_1)
                            (try rw [Addr.add_zero'] at hx563_1)
                            (try rw [show ((0 : Int)).toNat = 0 from rfl] at hx563_2)
                            (try rw [show 0 * 4 = 0 from rfl] at hx563_2)
                            (try rw [Addr.add_zero'] at hx563_2)
                            (try rw [show ((0 : Int)).toNat = 0 from rfl] at hx563_3)
                            (try rw [show 0 * 4 = 0 from rfl] at hx563_3)
                            (try rw [Addr.add_zero'] at hx563_3)
                            replace hx563_0 := (HB.out.cell (World.block_lt_of_cell? w _ hx563_0)).trans hx563_0
                            replace hx563_1 := (HB.out.cell (World.block_lt_of_cell? w _ hx563_1)).trans hx563_1
                            replace hx563_2 := (HB.out.cell (World.block_lt_of_cell? w _ hx563_2)).trans hx563_2
                            replace hx563_3 := (HB.out.cell (World.block_lt_of_cell? w _ hx563_3)).trans hx563_3
                            replace p563 := eq_true p563
                            replace q563 := eq_true q563
                            refine start_ (n := 16) (S := fun w' => w'.cell? ⟨gb561, 0, none⟩ = some (.int .i64 ((rd_T23 l0 x21_2).f0)) ∧ w'.cell? ⟨gb561, 1, none⟩ = some (.int .i64 ((rd_T23 l0 x21_2).f1)) ∧ w'.cell? ⟨gb561, 2, none⟩ = some (.int .i64 ((rd_T23 l0 x21_2).f2)) ∧ w'.cell? ⟨gb561, 3, none⟩ = some (.bool ((rd_T23 l0 x21_2).f3)) ∧ w'.cell? ad558 = some (.int .i64 ((rd_T23 l0 0).f0)) ∧ w'.cell? ⟨ad558.block, ad558.off + 1, none⟩ = some (.int .i64 ((rd_T23 l0 0).f1)) ∧ w'.cell? ⟨ad558.block, ad558.off + 2, none⟩ = some (.int .i64 ((rd_T23 l0 0).f2)) ∧ w'.cell? ⟨ad558.block, ad558.off + 3, none⟩ = some (.bool ((rd_T23 l0 0).f3))) (ds := []) #[false, false, false, false, false, false, false, false, false, false, false, false, false, false, false, false] (by kernel_rfl) rfl rfl ⟨(blk_cell BK561.out 0).trans rfl, (blk_cell BK561.out 1).trans rfl, (blk_cell BK561.out 2).trans rfl, (blk_cell BK561.out 3).trans rfl, ((HB.out.cell (World.block_lt_of_cell? w _ hw563_0)).trans hw563_0), ((HB.out.cell (World.block_lt_of_cell? w _ hw563_1)).trans hw563_1), ((HB.out.cell (World.block_lt_of_cell? w _ hw563_2)).trans hw563_2), ((HB.out.cell (World.block_lt_of_cell? w _ hw563_3)).trans hw563_3)⟩ (fun hHeld => ?_); refine with_tabW juntoref10_List.tab7 juntoref10_List.bits7 (fun HT_ HW_ => ?_)
                            generalize w55.drew = w56 at BK557 BK559 BK561 HB hx563_0 hx563_1 hx563_2 hx563_3 hHeld ⊢
                            refine take_ (i := 0) (N := some 25) (v := ?_) (a' := ?_) #[true, false, false, false, false, false, false, false, false, false, false, false, false, false, false, false] rfl rfl (take_ofW HT_.out HW_.out (by kernel_rfl)) (fun _ _ _ h => h) (Or.inl ⟨by rfl, ?_⟩) hHeld ?_ ?_
                            rotate_left
                            · rintro w' ⟨s0, s1, s2, s3, s4, s5, s6, s7⟩
                              go_simp
                              with_reducible rfl
                            rotate_left
                            · simp only [Act.put, List.setIfInBounds_toArray, List.set_cons_zero, List.set_cons_succ, i64_w, i32_w]
                              rfl
                            refine one_ (i := 1) (N := some 26) #[true, true, false, false, false, false, false, false, false, false, false, false, false, false, false, false] rfl rfl (one_of HT_.out (by kernel_rfl)) (by decide) (fun K hK => ?_)
                            refine goes_ Tryz.func11 (by kernel_rfl) rfl #[.agg #[.int .i64 ((rd_T23 l0 x21_2).f0), .int .i64 ((rd_T23 l0 x21_2).f1), .int .i64 ((rd_T23 l0 x21_2).f2), .bool ((rd_T23 l0 x21_2).f3)]] (by rfl) rfl rfl (by (try simp only [List.map_toArray, List.map_cons, List.map_nil]); first | done | rfl | (simp only [List.length_drop, List.length_take]; rfl)) ?_
                            with_reducible refine (juntoref10_IsType.calls k2 ((rd_T23 l0 x21_2).f0) ((rd_T23 l0 x21_2).f1) ((rd_T23 l0 x21_2).f2) ((rd_T23 l0 x21_2).f3) true _ A14.out).mono ?_
                            rintro e w57 ⟨rfl, hb⟩
                            refine ⟨_, rfl, ?_⟩
                            have n0_ := Aside0.mk (blk_below (g := gb557) (o := .cells #[.int .i64 x558000_2, .int .i64 x558001_2, .int .i64 x558002_2, .bool x558003_2] 23 (0, 0)) (by (with_reducible repeat (first | refine blk_drewN ?_ _ | refine blk_drew ?_ | refine blk_alloc ?_ _)); exact BK557.out) hb)
                            have n1_ := Aside0.mk (blk_below (g := gb559) (o := .cells #[.int .i64 ((rd_T23 l0 0).f0), .int .i64 ((rd_T23 l0 0).f1), .int .i64 ((rd_T23 l0 0).f2), .bool x560003_2] 23 (0, 0)) (by (with_reducible repeat (first | refine blk_drewN ?_ _ | refine blk_drew ?_ | refine blk_alloc ?_ _)); exact BK559.out) hb)
                            have n2_ := Aside0.mk (blk_below (g := gb561) (o := .cells #[.int .i64 ((rd_T23 l0 x21_2).f0), .int .i64 ((rd_T23 l0 x21_2).f1), .int .i64 ((rd_T23 l0 x21_2).f2), .bool ((rd_T23 l0 x21_2).f3)] 23 (0, 0)) (by (with_reducible repeat (first | refine blk_drewN ?_ _ | refine blk_drew ?_ | refine blk_alloc ?_ _)); exact BK561.out) hb)
                            have n3_ := Aside0.mk (below_step (by repeat (first | (with_reducible first | exact HB.out | apply below_alloc | apply pw_below_drewN | apply below_drew1 | refine below_set ?_ GE557.out | refine below_set ?_ GE559.out | refine below_set ?_ GE561.out) | exact HB.out)) hb)
                            clear BK557
                            clear BK559
                            clear BK561
                            clear HB
                            have BK557 := n0_
                            have BK559 := n1_
                            have BK561 := n2_
                            have HB := n3_
                            clear n0_ n1_ n2_ n3_
                            (try clear hb)
                            (try clear hb2)
                            (try clear hk)
                            (try clear hi)
                            refine hK.out _ _ ⟨(blk_cell BK561.out 0).trans rfl, (blk_cell BK561.out 1).trans rfl, (blk_cell BK561.out 2).trans rfl, (blk_cell BK561.out 3).trans rfl, ((HB.out.cell (World.block_lt_of_cell? w _ hw563_0)).trans hw563_0), ((HB.out.cell (World.block_lt_of_cell? w _ hw563_1)).trans hw563_1), ((HB.out.cell (World.block_lt_of_cell? w _ hw563_2)).trans hw563_2), ((HB.out.cell (World.block_lt_of_cell? w _ hw563_3)).trans hw563_3)⟩ (fun hHeld => ?_)
                            clear hK K
                            refine norm_ (a' := ?_) ?_ ?_
                            rotate_left
                            · show Act.put _ (some 26) _ = _
                              simp only [Act.put, List.setIfInBounds_toArray, List.set_cons_zero, List.set_cons_succ, i64_w, i32_w]
                              rfl
                            refine pure_ (i := 2) (N := some 27) (v := ?_) (a' := ?_) #[true, true, true, false, false, false, false, false, false, false, false, false, false, false, false, false] rfl rfl (any_of HT_.out (by kernel_rfl)) (fun _ _ _ h => h) (Or.inl ⟨by rfl, ?_⟩) ?_ ?_
                            rotate_left
                            · intro w'
                              go_simp
                              with_reducible rfl
                            rotate_left
                            · simp only [Act.put, List.setIfInBounds_toArray, List.set_cons_zero, List.set_cons_succ, i64_w, i32_w]
                              rfl
                            refine pure_ (i := 3) (N := some 28) (v := ?_) (a' := ?_) #[true, true, true, true, false, false, false, false, false, false, false, false, false, false, false, false] rfl rfl (any_of HT_.out (by kernel_rfl)) (fun _ _ _ h => h) (Or.inl ⟨by rfl, ?_⟩) ?_ ?_
                            rotate_left
                            · intro w'
                              go_simp
                              with_reducible rfl
                            rotate_left
                            · simp only [Act.put, List.setIfInBounds_toArray, List.set_cons_zero, List.set_cons_succ, i64_w, i32_w]
                              rfl
                            refine pure_ (i := 4) (N := some 29) (v := ?_) (a' := ?_) #[true, true, true, true, true, false, false, false, false, false, false, false, false, false, false, false] rfl rfl (any_of HT_.out (by kernel_rfl)) (fun _ _ _ h => h) (Or.inl ⟨by rfl, ?_⟩) ?_ ?_
                            rotate_left
                            · intro w'
                              go_simp
                              with_reducible rfl
                            rotate_left
                            · simp only [Act.put, List.setIfInBounds_toArray, List.set_cons_zero, List.set_cons_succ, i64_w, i32_w]
                              rfl
                            refine take_ (i := 5) (N := some 30) (v := ?_) (a' := ?_) #[true, true, true, true, true, true, false, false, false, false, false, false, false, false, false, false] rfl rfl (take_ofW HT_.out HW_.out (by kernel_rfl)) (fun _ _ _ h => h) (Or.inl ⟨by rfl, ?_⟩) hHeld ?_ ?_
                            rotate_left
                            · rintro w' ⟨s0, s1, s2, s3, s4, s5, s6, s7⟩
                              go_simp
                              with_reducible rfl
                            rotate_left
                            · simp only [Act.put, List.setIfInBounds_toArray, List.set_cons_zero, List.set_cons_succ, i64_w, i32_w]
                              rfl
                            refine pure_ (i := 6) (N := some 31) (v := ?_) (a' := ?_) #[true, true, true, true, true, true, true, false, false, false, false, false, false, false, false, false] rfl rfl (any_of HT_.out (by kernel_rfl)) (fun _ _ _ h => h) (Or.inl ⟨by rfl, ?_⟩) ?_ ?_
                            rotate_left
                            · intro w'
                              go_simp
                              with_reducible rfl
                            rotate_left
                            · simp only [Act.put, List.setIfInBounds_toArray, List.set_cons_zero, List.set_cons_succ, i64_w, i32_w]
                              rfl
                            refine pure_ (i := 7) (N := some 32) (v := ?_) (a' := ?_) #[true, true, true, true, true, true, true, true, false, false, false, false, false, false, false, false] rfl rfl (any_of HT_.out (by kernel_rfl)) (fun _ _ _ h => h) (Or.inl ⟨by rfl, ?_⟩) ?_ ?_
                            rotate_left
                            · intro w'
                              go_simp
                              with_reducible rfl
                            rotate_left
                            · simp only [Act.put, List.setIfInBounds_toArray, List.set_cons_zero, List.set_cons_succ, i64_w, i32_w]
                              rfl
                            refine pure_ (i := 8) (N := some 33) (v := ?_) (a' := ?_) #[true, true, true, true, true, true, true, true, true, false, false, false, false, false, false, false] rfl rfl (any_of HT_.out (by kernel_rfl)) (fun _ _ _ h => h) (Or.inl ⟨by rfl, ?_⟩) ?_ ?_
                            rotate_left
                            · intro w'
                              go_simp
                              with_reducible rfl
                            rotate_left
                            · simp only [Act.put, List.setIfInBounds_toArray, List.set_cons_zero, List.set_cons_succ, i64_w, i32_w]
                              rfl
                            refine pure_ (i := 10) (N := some 35) (v := ?_) (a' := ?_) #[true, true, true, true, true, true, true, true, true, false, true, false, false, false, false, false] rfl rfl (any_of HT_.out (by kernel_rfl)) (fun _ _ _ h => h) (Or.inl ⟨by rfl, ?_⟩) ?_ ?_
                            rotate_left
                            · intro w'
                              go_simp
                              with_reducible rfl
                            rotate_left
                            · simp only [Act.put, List.setIfInBounds_toArray, List.set_cons_zero, List.set_cons_succ, i64_w, i32_w]
                              rfl
                            refine pure_ (i := 11) (N := some 36) (v := ?_) (a' := ?_) #[true, true, true, true, true, true, true, true, true, false, true, true, false, false, false, false] rfl rfl (any_of HT_.out (by kernel_rfl)) (fun _ _ _ h => h) (Or.inl ⟨by rfl, ?_⟩) ?_ ?_
                            rotate_left
                            · intro w'
                              go_simp
                              with_reducible rfl
                            rotate_left
                            · simp only [Act.put, List.setIfInBounds_toArray, List.set_cons_zero, List.set_cons_succ, i64_w, i32_w]
                              rfl
                            refine take_ (i := 9) (N := some 34) (v := ?_) (a' := ?_) #[true, true, true, true, true, true, true, true, true, true, true, true, false, false, false, false] rfl rfl (take_ofW HT_.out HW_.out (by kernel_rfl)) (fun _ _ _ h => h) (Or.inl ⟨by rfl, ?_⟩) hHeld ?_ ?_
                            rotate_left
                            · rintro w' ⟨s0, s1, s2, s3, s4, s5, s6, s7⟩
                              go_simp
                              with_reducible rfl
                            rotate_left
                            · simp only [Act.put, List.setIfInBounds_toArray, List.set_cons_zero, List.set_cons_succ, i64_w, i32_w]
                              rfl
                            refine take_ (i := 12) (N := some 37) (v := ?_) (a' := ?_) #[true, true, true, true, true, true, true, true, true, true, true, true, true, false, false, false] rfl rfl (take_ofW HT_.out HW_.out (by kernel_rfl)) (fun _ _ _ h => h) (Or.inl ⟨by rfl, ?_⟩) hHeld ?_ ?_
                            rotate_left
                            · rintro w' ⟨s0, s1, s2, s3, s4, s5, s6, s7⟩
                              go_simp
                              with_reducible rfl
                            rotate_left
                            · simp only [Act.put, List.setIfInBounds_toArray, List.set_cons_zero, List.set_cons_succ, i64_w, i32_w]
                              rfl
                            refine one_ (i := 13) (N := some 38) #[true, true, true, true, true, true, true, true, true, true, true, true, true, true, false, false] rfl rfl (one_of HT_.out (by kernel_rfl)) (by decide) (fun K hK => ?_)
                            refine goes_ Tryz.func42 (by kernel_rfl) rfl #[.agg #[.int .i64 ((rd_T23 l0 x21_2).f0), .int .i64 ((rd_T23 l0 x21_2).f1), .int .i64 ((rd_T23 l0 x21_2).f2), .bool ((rd_T23 l0 x21_2).f3)], .agg #[.int .i64 ((rd_T23 l0 0).f0), .int .i64 ((rd_T23 l0 0).f1), .int .i64 ((rd_T23 l0 0).f2), .bool ((rd_T23 l0 0).f3)]] (by rfl) rfl rfl (by (try simp only [List.map_toArray, List.map_cons, List.map_nil]); first | done | rfl | (simp only [List.length_drop, List.length_take]; rfl)) ?_
                            with_reducible refine (juntoref10_Alike.calls ((rd_T23 l0 x21_2).f0) ((rd_T23 l0 x21_2).f1) ((rd_T23 l0 x21_2).f2) ((rd_T23 l0 x21_2).f3) ((rd_T23 l0 0).f0) ((rd_T23 l0 0).f1) ((rd_T23 l0 0).f2) ((rd_T23 l0 0).f3) false _ A27.out).mono ?_
                            rintro e w58 ⟨rfl, hb⟩
                            refine ⟨_, rfl, ?_⟩
                            have n0_ := Aside0.mk (blk_below (g := gb557) (o := .cells #[.int .i64 x558000_2, .int .i64 x558001_2, .int .i64 x558002_2, .bool x558003_2] 23 (0, 0)) (by (with_reducible repeat (first | refine blk_drewN ?_ _ | refine blk_drew ?_ | refine blk_alloc ?_ _)); exact BK557.out) hb)
                            have n1_ := Aside0.mk (blk_below (g := gb559) (o := .cells #[.int .i64 ((rd_T23 l0 0).f0), .int .i64 ((rd_T23 l0 0).f1), .int .i64 ((rd_T23 l0 0).f2), .bool x560003_2] 23 (0, 0)) (by (with_reducible repeat (first | refine blk_drewN ?_ _ | refine blk_drew ?_ | refine blk_alloc ?_ _)); exact BK559.out) hb)
                            have n2_ := Aside0.mk (blk_below (g := gb561) (o := .cells #[.int .i64 ((rd_T23 l0 x21_2).f0), .int .i64 ((rd_T23 l0 x21_2).f1), .int .i64 ((rd_T23 l0 x21_2).f2), .bool ((rd_T23 l0 x21_2).f3)] 23 (0, 0)) (by (with_reducible repeat (first | refine blk_drewN ?_ _ | refine blk_drew ?_ | refine blk_alloc ?_ _)); exact BK561.out) hb)
                            have n3_ := Aside0.mk (below_step (by repeat (first | (with_reducible first | exact HB.out | apply below_alloc | apply pw_below_drewN | apply below_drew1 | refine below_set ?_ GE557.out | refine below_set ?_ GE559.out | refine below_set ?_ GE561.out) | exact HB.out)) hb)
                            clear BK557
                            clear BK559
                            clear BK561
                            clear HB
                            have BK557 := n0_
                            have BK559 := n1_
                            have BK561 := n2_
                            have HB := n3_
                            clear n0_ n1_ n2_ n3_
                            (try clear hb)
                            (try clear hb2)
                            (try clear hk)
                            (try clear hi)
                            refine hK.out _ _ ⟨(blk_cell BK561.out 0).trans rfl, (blk_cell BK561.out 1).trans rfl, (blk_cell BK561.out 2).trans rfl, (blk_cell BK561.out 3).trans rfl, ((HB.out.cell (World.block_lt_of_cell? w _ hw563_0)).trans hw563_0), ((HB.out.cell (World.block_lt_of_cell? w _ hw563_1)).trans hw563_1), ((HB.out.cell (World.block_lt_of_cell? w _ hw563_2)).trans hw563_2), ((HB.out.cell (World.block_lt_of_cell? w _ hw563_3)).trans hw563_3)⟩ (fun hHeld => ?_)
                            clear hK K
                            refine norm_ (a' := ?_) ?_ ?_
                            rotate_left
                            · show Act.put _ (some 38) _ = _
                              simp only [Act.put, List.setIfInBounds_toArray, List.set_cons_zero, List.set_cons_succ, i64_w, i32_w]
                              rfl
                            refine pure_ (i := 14) (N := some 39) (v := ?_) (a' := ?_) #[true, true, true, true, true, true, true, true, true, true, true, true, true, true, true, false] rfl rfl (any_of HT_.out (by kernel_rfl)) (fun _ _ _ h => h) (Or.inl ⟨by rfl, ?_⟩) ?_ ?_
                            rotate_left
                            · intro w'
                              go_simp
                              with_reducible rfl
                            rotate_left
                            · simp only [Act.put, List.setIfInBounds_toArray, List.set_cons_zero, List.set_cons_succ, i64_w, i32_w]
                              rfl
                            refine pure_ (i := 15) (N := some 40) (v := ?_) (a' := ?_) #[true, true, true, true, true, true, true, true, true, true, true, true, true, true, true, true] rfl rfl (any_of HT_.out (by kernel_rfl)) (fun _ _ _ h => h) (Or.inl ⟨by rfl, ?_⟩) ?_ ?_
                            rotate_left
                            · intro w'
                              go_simp
                              with_reducible rfl
                            rotate_left
                            · simp only [Act.put, List.setIfInBounds_toArray, List.set_cons_zero, List.set_cons_succ, i64_w, i32_w]
                              rfl
                            refine done_ (done_of HT_.out (by kernel_rfl)) ?_
                            have hnb59 := NB557_559.out
                            have hnc59 := NB559_557.out
                            have hcz60_0 : w58.cell? ⟨gb557, 0, none⟩ = some (.int .i64 x558000_2) := (blk_cell BK557.out 0).trans rfl
                            have hcz60_1 : w58.cell? ⟨gb557, 1, none⟩ = some (.int .i64 x558001_2) := (blk_cell BK557.out 1).trans rfl
                            have hcz60_2 : w58.cell? ⟨gb557, 2, none⟩ = some (.int .i64 x558002_2) := (blk_cell BK557.out 2).trans rfl
                            have hcz60_3 : w58.cell? ⟨gb557, 3, none⟩ = some (.bool x558003_2) := (blk_cell BK557.out 3).trans rfl
                            have hfz60_0 := blk_frozen BK557.out 0
                            have hfz60_1 := blk_frozen BK557.out 1
                            have hfz60_2 := blk_frozen BK557.out 2
                            have hfz60_3 := blk_frozen BK557.out 3
                            try go_wp2
                            refine bodyPost_ret (results_ct rfl _ _ gb557 23 #[.int .i64 0, .int .i64 0, .int .i64 0, .bool false] (0, 0) _ rfl (by (with_reducible repeat (first | refine blk_drewN ?_ _ | refine blk_drew ?_ | refine blk_alloc ?_ _)); refine blk_put (cs := #[.int .i64 0, .int .i64 0, .int .i64 0, .bool x558003_2]) ?_ 3 _ rfl; (with_reducible repeat (first | refine blk_drewN ?_ _ | refine blk_drew ?_ | refine blk_alloc ?_ _)); refine blk_put (cs := #[.int .i64 0, .int .i64 0, .int .i64 x558002_2, .bool x558003_2]) ?_ 2 _ rfl; (with_reducible repeat (first | refine blk_drewN ?_ _ | refine blk_drew ?_ | refine blk_alloc ?_ _)); refine blk_put (cs := #[.int .i64 0, .int .i64 x558001_2, .int .i64 x558002_2, .bool x558003_2]) ?_ 1 _ rfl; (with_reducible repeat (first | refine blk_drewN ?_ _ | refine blk_drew ?_ | refine blk_alloc ?_ _)); refine blk_put (cs := #[.int .i64 x558000_2, .int .i64 x558001_2, .int .i64 x558002_2, .bool x558003_2]) ?_ 0 _ rfl; (with_reducible repeat (first | refine blk_drewN ?_ _ | refine blk_drew ?_ | refine blk_alloc ?_ _)); exact BK557.out) Tryz.underlying23 rfl (by kernel_rfl)) rfl ?_
                            exact ⟨by first | rfl | (simp [errW_none, errW_some] <;> rfl) | (simp [*, errW_none, errW_some] <;> rfl), by repeat (first | (with_reducible first | exact HB.out | apply below_alloc | apply pw_below_drewN | apply below_drew1 | refine below_set ?_ GE557.out | refine below_set ?_ GE559.out | refine below_set ?_ GE561.out) | exact HB.out)⟩
                        · rw [if_neg c26] at H
                          exact absurd H (by simp)
                    · replace c15 := Bool.eq_false_iff.mpr c15
                      subst c15
                      have H1 : (some (0, 0, 0, false, 9)) = some (r1, r2, r3, r4, r5) := by rw [if_neg (show ¬ (false = true) by decide)] at H; exact H
                      clear H
                      have H := H1
                      clear H1
                      simp only [Option.some.injEq, Prod.mk.injEq] at H
                      obtain ⟨rfl, rfl, rfl, rfl, rfl⟩ := H
                      have p560 : 0 ≤ (x21_2 : Int) := of_decide_eq_true (by first | (with_reducible assumption) | assumption)
                      have q560 : x21_2 < (l0.length : Int) := of_decide_eq_true (by first | (with_reducible assumption) | assumption)
                      obtain ⟨ad560, e560, hx560_0, hx560_1, hx560_2, hx560_3⟩ := at_T23 HR0.out x21_2 p560 q560
                      obtain rfl : ad558 = ad560 := (by injection e560)
                      replace hx560_0 := (HB.out.cell (World.block_lt_of_cell? w _ hx560_0)).trans hx560_0
                      replace hx560_1 := (HB.out.cell (World.block_lt_of_cell? w _ hx560_1)).trans hx560_1
                      replace hx560_2 := (HB.out.cell (World.block_lt_of_cell? w _ hx560_2)).trans hx560_2
                      replace hx560_3 := (HB.out.cell (World.block_lt_of_cell? w _ hx560_3)).trans hx560_3
                      replace p560 := eq_true p560
                      replace q560 := eq_true q560
                      try go_wp2_with (first | ((with_reducible refine gate_dst (N := 6) rfl ?_); (try (refine gate_guard (by rfl) ?_; dsimp only)); refine box_event ?hg (N := 6) ?hd (cs := #[.int .i64 0, .int .i64 0, .int .i64 0, .bool false]) (t := 23) ?hr ?_; (case hd => rfl); (case hg => rfl); (case hr => first | (go_simp; done) | (go_simp; rfl)); intro gb561 hg w61 hbox hb; have n0_ := Aside0.mk (blk_below (g := gb557) (o := .cells #[.int .i64 x558000_2, .int .i64 x558001_2, .int .i64 x558002_2, .bool x558003_2] 23 (0, 0)) (by (with_reducible repeat (first | refine blk_drewN ?_ _ | refine blk_drew ?_ | refine blk_alloc ?_ _)); exact BK557.out) hb); have n1_ := Aside0.mk (blk_below (g := gb559) (o := .cells #[.int .i64 ((rd_T23 l0 0).f0), .int .i64 ((rd_T23 l0 0).f1), .int .i64 ((rd_T23 l0 0).f2), .bool x560003_2] 23 (0, 0)) (by (with_reducible repeat (first | refine blk_drewN ?_ _ | refine blk_drew ?_ | refine blk_alloc ?_ _)); exact BK559.out) hb); have n2_ := Aside0.mk (below_step (by repeat (first | (with_reducible first | exact HB.out | apply below_alloc | apply pw_below_drewN | apply below_drew1 | refine below_set ?_ GE557.out | refine below_set ?_ GE559.out) | exact HB.out)) hb); have n3_ := Aside0.mk (hbox); have n4_ := Aside0.mk ((by rw [hg]; exact (below_size (by repeat (first | (with_reducible first | exact HB.out | apply below_alloc | apply pw_below_drewN | apply below_drew1 | refine below_set ?_ GE557.out | refine below_set ?_ GE559.out) | exact HB.out))) : w.heap.size ≤ gb561)); have n5_ := Aside0.mk ((by rw [hg]; exact (below_size (by repeat (first | (with_reducible first | exact HB.out | apply below_alloc | apply pw_below_drewN | apply below_drew1 | refine below_set ?_ GE557.out | refine below_set ?_ GE559.out) | exact HB.out))) : w.heap.size ≤ gb561)); have n6_ := Aside0.mk ((by rw [hg]; exact Nat.ne_of_lt (blk_lt (g := gb557) (o := .cells #[.int .i64 x558000_2, .int .i64 x558001_2, .int .i64 x558002_2, .bool x558003_2] 23 (0, 0)) (by (with_reducible repeat (first | refine blk_drewN ?_ _ | refine blk_drew ?_ | refine blk_alloc ?_ _)); exact BK557.out)) : gb557 ≠ gb561)); have n7_ := Aside0.mk ((by rw [hg]; exact Nat.ne_of_gt (blk_lt (g := gb557) (o := .cells #[.int .i64 x558000_2, .int .i64 x558001_2, .int .i64 x558002_2, .bool x558003_2] 23 (0, 0)) (by (with_reducible repeat (first | refine blk_drewN ?_ _ | refine blk_drew ?_ | refine blk_alloc ?_ _)); exact BK557.out)) : gb561 ≠ gb557)); have n8_ := Aside0.mk ((by rw [hg]; exact Nat.ne_of_lt (blk_lt (g := gb559) (o := .cells #[.int .i64 ((rd_T23 l0 0).f0), .int .i64 ((rd_T23 l0 0).f1), .int .i64 ((rd_T23 l0 0).f2), .bool x560003_2] 23 (0, 0)) (by (with_reducible repeat (first | refine blk_drewN ?_ _ | refine blk_drew ?_ | refine blk_alloc ?_ _)); exact BK559.out)) : gb559 ≠ gb561)); have n9_ := Aside0.mk ((by rw [hg]; exact Nat.ne_of_gt (blk_lt (g := gb559) (o := .cells #[.int .i64 ((rd_T23 l0 0).f0), .int .i64 ((rd_T23 l0 0).f1), .int .i64 ((rd_T23 l0 0).f2), .bool x560003_2] 23 (0, 0)) (by (with_reducible repeat (first | refine blk_drewN ?_ _ | refine blk_drew ?_ | refine blk_alloc ?_ _)); exact BK559.out)) : gb561 ≠ gb559)); clear BK557; clear BK559; clear HB; have BK557 := n0_; have BK559 := n1_; have HB := n2_; have BK561 := n3_; have GW561 := n4_; have GE561 := n5_; have NB557_561 := n6_; have NB561_557 := n7_; have NB559_561 := n8_; have NB561_559 := n9_; clear n0_ n1_ n2_ n3_ n4_ n5_ n6_ n7_ n8_ n9_; clear hb hbox hg; have hnb62 := NB561_557.out; have hnc62 := NB557_561.out; have hnb63 := NB561_559.out; have hnc63 := NB559_561.out; have hcz64_0 : w61.cell? ⟨gb561, 0, none⟩ = some (.int .i64 0) := (blk_cell BK561.out 0).trans rfl; have hcz64_1 : w61.cell? ⟨gb561, 1, none⟩ = some (.int .i64 0) := (blk_cell BK561.out 1).trans rfl; have hcz64_2 : w61.cell? ⟨gb561, 2, none⟩ = some (.int .i64 0) := (blk_cell BK561.out 2).trans rfl; have hcz64_3 : w61.cell? ⟨gb561, 3, none⟩ = some (.bool false) := (blk_cell BK561.out 3).trans rfl; have hfz64_0 := blk_frozen BK561.out 0; have hfz64_1 := blk_frozen BK561.out 1; have hfz64_2 := blk_frozen BK561.out 2; have hfz64_3 := blk_frozen BK561.out 3))
                      have n0_ : Aside0 (((((w61.setCell ⟨gb561, 0, none⟩ (.int .i64 ((rd_T23 l0 x21_2).f0))).setCell ⟨gb561, 1, none⟩ (.int .i64 ((rd_T23 l0 x21_2).f1))).setCell ⟨gb561, 2, none⟩ (.int .i64 ((rd_T23 l0 x21_2).f2))).setCell ⟨gb561, 3, none⟩ (.bool ((rd_T23 l0 x21_2).f3))).heap[gb557]? = some (.cells #[.int .i64 x558000_2, .int .i64 x558001_2, .int .i64 x558002_2, .bool x558003_2] 23 (0, 0))) := ⟨by (with_reducible repeat (first | refine blk_drewN ?_ _ | refine blk_drew ?_ | refine blk_alloc ?_ _)); refine blk_far ?_ NB557_561.out _; (with_reducible repeat (first | refine blk_drewN ?_ _ | refine blk_drew ?_ | refine blk_alloc ?_ _)); refine blk_far ?_ NB557_561.out _; (with_reducible repeat (first | refine blk_drewN ?_ _ | refine blk_drew ?_ | refine blk_alloc ?_ _)); refine blk_far ?_ NB557_561.out _; (with_reducible repeat (first | refine blk_drewN ?_ _ | refine blk_drew ?_ | refine blk_alloc ?_ _)); refine blk_far ?_ NB557_561.out _; (with_reducible repeat (first | refine blk_drewN ?_ _ | refine blk_drew ?_ | refine blk_alloc ?_ _)); exact BK557.out⟩
                      have n1_ : Aside0 (((((w61.setCell ⟨gb561, 0, none⟩ (.int .i64 ((rd_T23 l0 x21_2).f0))).setCell ⟨gb561, 1, none⟩ (.int .i64 ((rd_T23 l0 x21_2).f1))).setCell ⟨gb561, 2, none⟩ (.int .i64 ((rd_T23 l0 x21_2).f2))).setCell ⟨gb561, 3, none⟩ (.bool ((rd_T23 l0 x21_2).f3))).heap[gb559]? = some (.cells #[.int .i64 ((rd_T23 l0 0).f0), .int .i64 ((rd_T23 l0 0).f1), .int .i64 ((rd_T23 l0 0).f2), .bool x560003_2] 23 (0, 0))) := ⟨by (with_reducible repeat (first | refine blk_drewN ?_ _ | refine blk_drew ?_ | refine blk_alloc ?_ _)); refine blk_far ?_ NB559_561.out _; (with_reducible repeat (first | refine blk_drewN ?_ _ | refine blk_drew ?_ | refine blk_alloc ?_ _)); refine blk_far ?_ NB559_561.out _; (with_reducible repeat (first | refine blk_drewN ?_ _ | refine blk_drew ?_ | refine blk_alloc ?_ _)); refine blk_far ?_ NB559_561.out _; (with_reducible repeat (first | refine blk_drewN ?_ _ | refine blk_drew ?_ | refine blk_alloc ?_ _)); refine blk_far ?_ NB559_561.out _; (with_reducible repeat (first | refine blk_drewN ?_ _ | refine blk_drew ?_ | refine blk_alloc ?_ _)); exact BK559.out⟩
                      have n2_ : Aside0 (((((w61.setCell ⟨gb561, 0, none⟩ (.int .i64 ((rd_T23 l0 x21_2).f0))).setCell ⟨gb561, 1, none⟩ (.int .i64 ((rd_T23 l0 x21_2).f1))).setCell ⟨gb561, 2, none⟩ (.int .i64 ((rd_T23 l0 x21_2).f2))).setCell ⟨gb561, 3, none⟩ (.bool ((rd_T23 l0 x21_2).f3))).heap[gb561]? = some (.cells #[.int .i64 ((rd_T23 l0 x21_2).f0), .int .i64 ((rd_T23 l0 x21_2).f1), .int .i64 ((rd_T23 l0 x21_2).f2), .bool ((rd_T23 l0 x21_2).f3)] 23 (0, 0))) := ⟨by (with_reducible repeat (first | refine blk_drewN ?_ _ | refine blk_drew ?_ | refine blk_alloc ?_ _)); refine blk_put (cs := #[.int .i64 ((rd_T23 l0 x21_2).f0), .int .i64 ((rd_T23 l0 x21_2).f1), .int .i64 ((rd_T23 l0 x21_2).f2), .bool false]) ?_ 3 _ rfl; (with_reducible repeat (first | refine blk_drewN ?_ _ | refine blk_drew ?_ | refine blk_alloc ?_ _)); refine blk_put (cs := #[.int .i64 ((rd_T23 l0 x21_2).f0), .int .i64 ((rd_T23 l0 x21_2).f1), .int .i64 0, .bool false]) ?_ 2 _ rfl; (with_reducible repeat (first | refine blk_drewN ?_ _ | refine blk_drew ?_ | refine blk_alloc ?_ _)); refine blk_put (cs := #[.int .i64 ((rd_T23 l0 x21_2).f0), .int .i64 0, .int .i64 0, .bool false]) ?_ 1 _ rfl; (with_reducible repeat (first | refine blk_drewN ?_ _ | refine blk_drew ?_ | refine blk_alloc ?_ _)); refine blk_put (cs := #[.int .i64 0, .int .i64 0, .int .i64 0, .bool false]) ?_ 0 _ rfl; (with_reducible repeat (first | refine blk_drewN ?_ _ | refine blk_drew ?_ | refine blk_alloc ?_ _)); exact BK561.out⟩
                      have n3_ : Aside0 (Below w.heap.size w ((((w61.setCell ⟨gb561, 0, none⟩ (.int .i64 ((rd_T23 l0 x21_2).f0))).setCell ⟨gb561, 1, none⟩ (.int .i64 ((rd_T23 l0 x21_2).f1))).setCell ⟨gb561, 2, none⟩ (.int .i64 ((rd_T23 l0 x21_2).f2))).setCell ⟨gb561, 3, none⟩ (.bool ((rd_T23 l0 x21_2).f3)))) := ⟨by repeat (first | (with_reducible first | exact HB.out | apply below_alloc | apply pw_below_drewN | apply below_drew1 | refine below_set ?_ GE557.out | refine below_set ?_ GE559.out | refine below_set ?_ GE561.out) | exact HB.out)⟩
                      (try clear BK557)
                      (try clear BK559)
                      (try clear BK561)
                      (try clear HB)
                      generalize ((((w61.setCell ⟨gb561, 0, none⟩ (.int .i64 ((rd_T23 l0 x21_2).f0))).setCell ⟨gb561, 1, none⟩ (.int .i64 ((rd_T23 l0 x21_2).f1))).setCell ⟨gb561, 2, none⟩ (.int .i64 ((rd_T23 l0 x21_2).f2))).setCell ⟨gb561, 3, none⟩ (.bool ((rd_T23 l0 x21_2).f3))) = w65 at n0_ n1_ n2_ n3_ ⊢
                      have BK557 := n0_
                      have BK559 := n1_
                      have BK561 := n2_
                      have HB := n3_
                      clear n0_ n1_ n2_ n3_
                      have n0_ := Aside0.mk (blk_drew BK557.out)
                      have n1_ := Aside0.mk (blk_drew BK559.out)
                      have n2_ := Aside0.mk (blk_drew BK561.out)
                      have n3_ := Aside0.mk (below_drew1 HB.out)
                      clear BK557
                      clear BK559
                      clear BK561
                      clear HB
                      have BK557 := n0_
                      have BK559 := n1_
                      have BK561 := n2_
                      have HB := n3_
                      clear n0_ n1_ n2_ n3_
                      refine start_ (n := 16) (S := fun w' => w'.cell? ⟨gb561, 0, none⟩ = some (.int .i64 ((rd_T23 l0 x21_2).f0)) ∧ w'.cell? ⟨gb561, 1, none⟩ = some (.int .i64 ((rd_T23 l0 x21_2).f1)) ∧ w'.cell? ⟨gb561, 2, none⟩ = some (.int .i64 ((rd_T23 l0 x21_2).f2)) ∧ w'.cell? ⟨gb561, 3, none⟩ = some (.bool ((rd_T23 l0 x21_2).f3))) (ds := []) #[false, false, false, false, false, false, false, false, false, false, false, false, false, false, false, false] (by kernel_rfl) rfl rfl ⟨(blk_cell BK561.out 0).trans rfl, (blk_cell BK561.out 1).trans rfl, (blk_cell BK561.out 2).trans rfl, (blk_cell BK561.out 3).trans rfl⟩ (fun hHeld => ?_); refine with_tabW juntoref10_List.tab7 juntoref10_List.bits7 (fun HT_ HW_ => ?_)
                      generalize w65.drew = w66 at BK557 BK559 BK561 HB hHeld ⊢
                      refine take_ (i := 0) (N := some 25) (v := ?_) (a' := ?_) #[true, false, false, false, false, false, false, false, false, false, false, false, false, false, false, false] rfl rfl (take_ofW HT_.out HW_.out (by kernel_rfl)) (fun _ _ _ h => h) (Or.inl ⟨by rfl, ?_⟩) hHeld ?_ ?_
                      rotate_left
                      · rintro w' ⟨s0, s1, s2, s3⟩
                        go_simp
                        with_reducible rfl
                      rotate_left
                      · simp only [Act.put, List.setIfInBounds_toArray, List.set_cons_zero, List.set_cons_succ, i64_w, i32_w]
                        rfl
                      refine one_ (i := 1) (N := some 26) #[true, true, false, false, false, false, false, false, false, false, false, false, false, false, false, false] rfl rfl (one_of HT_.out (by kernel_rfl)) (by decide) (fun K hK => ?_)
                      refine goes_ Tryz.func11 (by kernel_rfl) rfl #[.agg #[.int .i64 ((rd_T23 l0 x21_2).f0), .int .i64 ((rd_T23 l0 x21_2).f1), .int .i64 ((rd_T23 l0 x21_2).f2), .bool ((rd_T23 l0 x21_2).f3)]] (by rfl) rfl rfl (by (try simp only [List.map_toArray, List.map_cons, List.map_nil]); first | done | rfl | (simp only [List.length_drop, List.length_take]; rfl)) ?_
                      with_reducible refine (juntoref10_IsType.calls k2 ((rd_T23 l0 x21_2).f0) ((rd_T23 l0 x21_2).f1) ((rd_T23 l0 x21_2).f2) ((rd_T23 l0 x21_2).f3) false _ A14.out).mono ?_
                      rintro e w67 ⟨rfl, hb⟩
                      refine ⟨_, rfl, ?_⟩
                      have n0_ := Aside0.mk (blk_below (g := gb557) (o := .cells #[.int .i64 x558000_2, .int .i64 x558001_2, .int .i64 x558002_2, .bool x558003_2] 23 (0, 0)) (by (with_reducible repeat (first | refine blk_drewN ?_ _ | refine blk_drew ?_ | refine blk_alloc ?_ _)); exact BK557.out) hb)
                      have n1_ := Aside0.mk (blk_below (g := gb559) (o := .cells #[.int .i64 ((rd_T23 l0 0).f0), .int .i64 ((rd_T23 l0 0).f1), .int .i64 ((rd_T23 l0 0).f2), .bool x560003_2] 23 (0, 0)) (by (with_reducible repeat (first | refine blk_drewN ?_ _ | refine blk_drew ?_ | refine blk_alloc ?_ _)); exact BK559.out) hb)
                      have n2_ := Aside0.mk (blk_below (g := gb561) (o := .cells #[.int .i64 ((rd_T23 l0 x21_2).f0), .int .i64 ((rd_T23 l0 x21_2).f1), .int .i64 ((rd_T23 l0 x21_2).f2), .bool ((rd_T23 l0 x21_2).f3)] 23 (0, 0)) (by (with_reducible repeat (first | refine blk_drewN ?_ _ | refine blk_drew ?_ | refine blk_alloc ?_ _)); exact BK561.out) hb)
                      have n3_ := Aside0.mk (below_step (by repeat (first | (with_reducible first | exact HB.out | apply below_alloc | apply pw_below_drewN | apply below_drew1 | refine below_set ?_ GE557.out | refine below_set ?_ GE559.out | refine below_set ?_ GE561.out) | exact HB.out)) hb)
                      clear BK557
                      clear BK559
                      clear BK561
                      clear HB
                      have BK557 := n0_
                      have BK559 := n1_
                      have BK561 := n2_
                      have HB := n3_
                      clear n0_ n1_ n2_ n3_
                      (try clear hb)
                      (try clear hb2)
                      (try clear hk)
                      (try clear hi)
                      refine hK.out _ _ ⟨(blk_cell BK561.out 0).trans rfl, (blk_cell BK561.out 1).trans rfl, (blk_cell BK561.out 2).trans rfl, (blk_cell BK561.out 3).trans rfl⟩ (fun hHeld => ?_)
                      clear hK K
                      refine norm_ (a' := ?_) ?_ ?_
                      rotate_left
                      · show Act.put _ (some 26) _ = _
                        simp only [Act.put, List.setIfInBounds_toArray, List.set_cons_zero, List.set_cons_succ, i64_w, i32_w]
                        rfl
                      refine pure_ (i := 2) (N := some 27) (v := ?_) (a' := ?_) #[true, true, true, false, false, false, false, false, false, false, false, false, false, false, false, false] rfl rfl (any_of HT_.out (by kernel_rfl)) (fun _ _ _ h => h) (Or.inl ⟨by rfl, ?_⟩) ?_ ?_
                      rotate_left
                      · intro w'
                        go_simp
                        with_reducible rfl
                      rotate_left
                      · simp only [Act.put, List.setIfInBounds_toArray, List.set_cons_zero, List.set_cons_succ, i64_w, i32_w]
                        rfl
                      refine pure_ (i := 3) (N := some 28) (v := ?_) (a' := ?_) #[true, true, true, true, false, false, false, false, false, false, false, false, false, false, false, false] rfl rfl (any_of HT_.out (by kernel_rfl)) (fun _ _ _ h => h) (Or.inl ⟨by rfl, ?_⟩) ?_ ?_
                      rotate_left
                      · intro w'
                        go_simp
                        with_reducible rfl
                      rotate_left
                      · simp only [Act.put, List.setIfInBounds_toArray, List.set_cons_zero, List.set_cons_succ, i64_w, i32_w]
                        rfl
                      refine pure_ (i := 4) (N := some 29) (v := undef) (a' := ?_) #[true, true, true, true, true, false, false, false, false, false, false, false, false, false, false, false] rfl rfl (any_of HT_.out (by kernel_rfl)) (fun _ _ _ h => h) (Or.inr ⟨by rfl, rfl⟩) ?_ ?_
                      rotate_left
                      · simp only [Act.put, List.setIfInBounds_toArray, List.set_cons_zero, List.set_cons_succ, i64_w, i32_w]
                        rfl
                      refine pure_ (i := 5) (N := some 30) (v := undef) (a' := ?_) #[true, true, true, true, true, true, false, false, false, false, false, false, false, false, false, false] rfl rfl (any_of HT_.out (by kernel_rfl)) (fun _ _ _ h => h) (Or.inr ⟨by rfl, rfl⟩) ?_ ?_
                      rotate_left
                      · simp only [Act.put, List.setIfInBounds_toArray, List.set_cons_zero, List.set_cons_succ, i64_w, i32_w]
                        rfl
                      refine pure_ (i := 6) (N := some 31) (v := undef) (a' := ?_) #[true, true, true, true, true, true, true, false, false, false, false, false, false, false, false, false] rfl rfl (any_of HT_.out (by kernel_rfl)) (fun _ _ _ h => h) (Or.inr ⟨by rfl, rfl⟩) ?_ ?_
                      rotate_left
                      · simp only [Act.put, List.setIfInBounds_toArray, List.set_cons_zero, List.set_cons_succ, i64_w, i32_w]
                        rfl
                      refine pure_ (i := 7) (N := some 32) (v := ?_) (a' := ?_) #[true, true, true, true, true, true, true, true, false, false, false, false, false, false, false, false] rfl rfl (any_of HT_.out (by kernel_rfl)) (fun _ _ _ h => h) (Or.inl ⟨by rfl, ?_⟩) ?_ ?_
                      rotate_left
                      · intro w'
                        go_simp
                        with_reducible rfl
                      rotate_left
                      · simp only [Act.put, List.setIfInBounds_toArray, List.set_cons_zero, List.set_cons_succ, i64_w, i32_w]
                        rfl
                      refine pure_ (i := 8) (N := some 33) (v := ?_) (a' := ?_) #[true, true, true, true, true, true, true, true, true, false, false, false, false, false, false, false] rfl rfl (any_of HT_.out (by kernel_rfl)) (fun _ _ _ h => h) (Or.inl ⟨by rfl, ?_⟩) ?_ ?_
                      rotate_left
                      · intro w'
                        go_simp
                        with_reducible rfl
                      rotate_left
                      · simp only [Act.put, List.setIfInBounds_toArray, List.set_cons_zero, List.set_cons_succ, i64_w, i32_w]
                        rfl
                      refine pure_ (i := 9) (N := some 34) (v := undef) (a' := ?_) #[true, true, true, true, true, true, true, true, true, true, false, false, false, false, false, false] rfl rfl (any_of HT_.out (by kernel_rfl)) (fun _ _ _ h => h) (Or.inr ⟨by rfl, rfl⟩) ?_ ?_
                      rotate_left
                      · simp only [Act.put, List.setIfInBounds_toArray, List.set_cons_zero, List.set_cons_succ, i64_w, i32_w]
                        rfl
                      refine pure_ (i := 10) (N := some 35) (v := undef) (a' := ?_) #[true, true, true, true, true, true, true, true, true, true, true, false, false, false, false, false] rfl rfl (any_of HT_.out (by kernel_rfl)) (fun _ _ _ h => h) (Or.inr ⟨by rfl, rfl⟩) ?_ ?_
                      rotate_left
                      · simp only [Act.put, List.setIfInBounds_toArray, List.set_cons_zero, List.set_cons_succ, i64_w, i32_w]
                        rfl
                      refine pure_ (i := 11) (N := some 36) (v := undef) (a' := ?_) #[true, true, true, true, true, true, true, true, true, true, true, true, false, false, false, false] rfl rfl (any_of HT_.out (by kernel_rfl)) (fun _ _ _ h => h) (Or.inr ⟨by rfl, rfl⟩) ?_ ?_
                      rotate_left
                      · simp only [Act.put, List.setIfInBounds_toArray, List.set_cons_zero, List.set_cons_succ, i64_w, i32_w]
                        rfl
                      refine pure_ (i := 12) (N := some 37) (v := undef) (a' := ?_) #[true, true, true, true, true, true, true, true, true, true, true, true, true, false, false, false] rfl rfl (any_of HT_.out (by kernel_rfl)) (fun _ _ _ h => h) (Or.inr ⟨by rfl, rfl⟩) ?_ ?_
                      rotate_left
                      · simp only [Act.put, List.setIfInBounds_toArray, List.set_cons_zero, List.set_cons_succ, i64_w, i32_w]
                        rfl
                      refine pure_ (i := 13) (N := some 38) (v := undef) (a' := ?_) #[true, true, true, true, true, true, true, true, true, true, true, true, true, true, false, false] rfl rfl (any_of HT_.out (by kernel_rfl)) (fun _ _ _ h => h) (Or.inr ⟨by rfl, rfl⟩) ?_ ?_
                      rotate_left
                      · simp only [Act.put, List.setIfInBounds_toArray, List.set_cons_zero, List.set_cons_succ, i64_w, i32_w]
                        rfl
                      refine pure_ (i := 14) (N := some 39) (v := undef) (a' := ?_) #[true, true, true, true, true, true, true, true, true, true, true, true, true, true, true, false] rfl rfl (any_of HT_.out (by kernel_rfl)) (fun _ _ _ h => h) (Or.inr ⟨by rfl, rfl⟩) ?_ ?_
                      rotate_left
                      · simp only [Act.put, List.setIfInBounds_toArray, List.set_cons_zero, List.set_cons_succ, i64_w, i32_w]
                        rfl
                      refine pure_ (i := 15) (N := some 40) (v := ?_) (a' := ?_) #[true, true, true, true, true, true, true, true, true, true, true, true, true, true, true, true] rfl rfl (any_of HT_.out (by kernel_rfl)) (fun _ _ _ h => h) (Or.inl ⟨by rfl, ?_⟩) ?_ ?_
                      rotate_left
                      · intro w'
                        go_simp
                        with_reducible rfl
                      rotate_left
                      · simp only [Act.put, List.setIfInBounds_toArray, List.set_cons_zero, List.set_cons_succ, i64_w, i32_w]
                        rfl
                      refine done_ (done_of HT_.out (by kernel_rfl)) ?_
                      have hnb68 := NB557_559.out
                      have hnc68 := NB559_557.out
                      have hcz69_0 : w67.cell? ⟨gb557, 0, none⟩ = some (.int .i64 x558000_2) := (blk_cell BK557.out 0).trans rfl
                      have hcz69_1 : w67.cell? ⟨gb557, 1, none⟩ = some (.int .i64 x558001_2) := (blk_cell BK557.out 1).trans rfl
                      have hcz69_2 : w67.cell? ⟨gb557, 2, none⟩ = some (.int .i64 x558002_2) := (blk_cell BK557.out 2).trans rfl
                      have hcz69_3 : w67.cell? ⟨gb557, 3, none⟩ = some (.bool x558003_2) := (blk_cell BK557.out 3).trans rfl
                      have hfz69_0 := blk_frozen BK557.out 0
                      have hfz69_1 := blk_frozen BK557.out 1
                      have hfz69_2 := blk_frozen BK557.out 2
                      have hfz69_3 := blk_frozen BK557.out 3
                      try go_wp2
                      refine bodyPost_ret (results_ct rfl _ _ gb557 23 #[.int .i64 0, .int .i64 0, .int .i64 0, .bool false] (0, 0) _ rfl (by (with_reducible repeat (first | refine blk_drewN ?_ _ | refine blk_drew ?_ | refine blk_alloc ?_ _)); refine blk_put (cs := #[.int .i64 0, .int .i64 0, .int .i64 0, .bool x558003_2]) ?_ 3 _ rfl; (with_reducible repeat (first | refine blk_drewN ?_ _ | refine blk_drew ?_ | refine blk_alloc ?_ _)); refine blk_put (cs := #[.int .i64 0, .int .i64 0, .int .i64 x558002_2, .bool x558003_2]) ?_ 2 _ rfl; (with_reducible repeat (first | refine blk_drewN ?_ _ | refine blk_drew ?_ | refine blk_alloc ?_ _)); refine blk_put (cs := #[.int .i64 0, .int .i64 x558001_2, .int .i64 x558002_2, .bool x558003_2]) ?_ 1 _ rfl; (with_reducible repeat (first | refine blk_drewN ?_ _ | refine blk_drew ?_ | refine blk_alloc ?_ _)); refine blk_put (cs := #[.int .i64 x558000_2, .int .i64 x558001_2, .int .i64 x558002_2, .bool x558003_2]) ?_ 0 _ rfl; (with_reducible repeat (first | refine blk_drewN ?_ _ | refine blk_drew ?_ | refine blk_alloc ?_ _)); exact BK557.out) Tryz.underlying23 rfl (by kernel_rfl)) rfl ?_
                      exact ⟨by first | rfl | (simp [errW_none, errW_some] <;> rfl) | (simp [*, errW_none, errW_some] <;> rfl), by repeat (first | (with_reducible first | exact HB.out | apply below_alloc | apply pw_below_drewN | apply below_drew1 | refine below_set ?_ GE557.out | refine below_set ?_ GE559.out | refine below_set ?_ GE561.out) | exact HB.out)⟩
                  · rw [if_neg c13] at H
                    exact absurd H (by simp)
                · rw [if_neg c12] at H
                  exact absurd H (by simp)
              · rw [if_neg c11] at H
                have c11b0 : decide (x21_2 < (l0.length : Int)) = false := decide_eq_false c11
                clear c11
                simp only [Option.some.injEq, Prod.mk.injEq] at H
                obtain ⟨rfl, rfl, rfl, rfl, rfl⟩ := H
                have hnb70 := NB559_557.out
                have hnc70 := NB557_559.out
                have hcz71_0 : wr.cell? ⟨gb559, 0, none⟩ = some (.int .i64 ((rd_T23 l0 0).f0)) := (blk_cell BK559.out 0).trans rfl
                have hcz71_1 : wr.cell? ⟨gb559, 1, none⟩ = some (.int .i64 ((rd_T23 l0 0).f1)) := (blk_cell BK559.out 1).trans rfl
                have hcz71_2 : wr.cell? ⟨gb559, 2, none⟩ = some (.int .i64 ((rd_T23 l0 0).f2)) := (blk_cell BK559.out 2).trans rfl
                have hcz71_3 : wr.cell? ⟨gb559, 3, none⟩ = some (.bool x560003_2) := (blk_cell BK559.out 3).trans rfl
                have hfz71_0 := blk_frozen BK559.out 0
                have hfz71_1 := blk_frozen BK559.out 1
                have hfz71_2 := blk_frozen BK559.out 2
                have hfz71_3 := blk_frozen BK559.out 3
                have hcz72_0 : wr.cell? ⟨gb557, 0, none⟩ = some (.int .i64 x558000_2) := (blk_cell BK557.out 0).trans rfl
                have hcz72_1 : wr.cell? ⟨gb557, 1, none⟩ = some (.int .i64 x558001_2) := (blk_cell BK557.out 1).trans rfl
                have hcz72_2 : wr.cell? ⟨gb557, 2, none⟩ = some (.int .i64 x558002_2) := (blk_cell BK557.out 2).trans rfl
                have hcz72_3 : wr.cell? ⟨gb557, 3, none⟩ = some (.bool x558003_2) := (blk_cell BK557.out 3).trans rfl
                have hfz72_0 := blk_frozen BK557.out 0
                have hfz72_1 := blk_frozen BK557.out 1
                have hfz72_2 := blk_frozen BK557.out 2
                have hfz72_3 := blk_frozen BK557.out 3
                go_wp2
                refine bodyPost_ret (results_ct rfl _ _ gb557 23 #[.int .i64 ((rd_T23 l0 0).f0), .int .i64 ((rd_T23 l0 0).f1), .int .i64 (l0.length : Int), .bool x560003_2] (0, 0) _ rfl (by (with_reducible repeat (first | refine blk_drewN ?_ _ | refine blk_drew ?_ | refine blk_alloc ?_ _)); refine blk_put (cs := #[.int .i64 ((rd_T23 l0 0).f0), .int .i64 ((rd_T23 l0 0).f1), .int .i64 (l0.length : Int), .bool x558003_2]) ?_ 3 _ rfl; (with_reducible repeat (first | refine blk_drewN ?_ _ | refine blk_drew ?_ | refine blk_alloc ?_ _)); refine blk_put (cs := #[.int .i64 ((rd_T23 l0 0).f0), .int .i64 ((rd_T23 l0 0).f1), .int .i64 x558002_2, .bool x558003_2]) ?_ 2 _ rfl; (with_reducible repeat (first | refine blk_drewN ?_ _ | refine blk_drew ?_ | refine blk_alloc ?_ _)); refine blk_put (cs := #[.int .i64 ((rd_T23 l0 0).f0), .int .i64 x558001_2, .int .i64 x558002_2, .bool x558003_2]) ?_ 1 _ rfl; (with_reducible repeat (first | refine blk_drewN ?_ _ | refine blk_drew ?_ | refine blk_alloc ?_ _)); refine blk_put (cs := #[.int .i64 x558000_2, .int .i64 x558001_2, .int .i64 x558002_2, .bool x558003_2]) ?_ 0 _ rfl; (with_reducible repeat (first | refine blk_drewN ?_ _ | refine blk_drew ?_ | refine blk_alloc ?_ _)); refine blk_far ?_ NB557_559.out _; (with_reducible repeat (first | refine blk_drewN ?_ _ | refine blk_drew ?_ | refine blk_alloc ?_ _)); exact BK557.out) Tryz.underlying23 rfl (by kernel_rfl)) rfl ?_
                exact ⟨by first | rfl | (simp [errW_none, errW_some] <;> rfl) | (simp [*, errW_none, errW_some] <;> rfl), by repeat (first | (with_reducible first | exact HB.out | apply below_alloc | apply pw_below_drewN | apply below_drew1 | refine below_set ?_ GE557.out | refine below_set ?_ GE559.out) | exact HB.out)⟩
        · rw [if_neg c7] at H
          exact absurd H (by simp)

end Go.Proofs.YtefhaojjohddaaaGreatDoor.J

/- What Go functions of the program compute, as plain Lean functions, and that the machine comes to just these answers (written by a program for this seat). -/
namespace Go.Proofs.YtefhaojjohddaaaGreatDoor.J
open Go.RowKit Go.Proofs.YtefhaojjohddaaaGreatDoorW.PrintWords Go.Proofs.YtefhaojjohddaaaGreatDoorW.PrintLast Go.Proofs.YtefhaojjohddaaaGreatDoorW.PrintMore
attribute [local go_sem] max2_int min2_int max_two min_two max_three min_three max_four min_four   -- for this text's walks alone
set_option linter.unusedVariables false
set_option linter.unusedSimpArgs false

attribute [local go_sem high] eqA23
/-! ### juntolaw10_CheckLists: function 5 -/
def juntolaw10_CheckLists.f (k : Nat) (l0 : List (S23)) : Option (Bool) := (check_List.f k l0).bind fun bt565 => ((juntoref10_List.f k l0).bind fun bt571 => (if (bt565.1 == bt571.1 && (bt565.2.1 == bt571.2.1 && (bt565.2.2.1 == bt571.2.2.1 && (bt565.2.2.2.1 == bt571.2.2.2.1)))) = true then (if bt565.2.2.2.2 = bt571.2.2.2.2 then ((juntolaw10_alive.f).bind fun t577 => (some t577)) else (some false)) else (some false)))
theorem juntolaw10_CheckLists.mono : ∀ a0 k, LeO (juntolaw10_CheckLists.f k a0) (juntolaw10_CheckLists.f (k + 1) a0) := by
  intro a0 k
  unfold juntolaw10_CheckLists.f
  repeat' first
      | (with_reducible exact check_List.mono _ _)
      | (with_reducible exact juntoref10_List.mono _ _)
      | (with_reducible exact LeO.refl _)
      | (with_reducible exact LeO.none _)
      | (with_reducible refine LeO.ite ?_ ?_)
      | (with_reducible refine LeO.bind ?_ (fun _ => ?_))
      | exact check_List.mono _ _
      | exact juntoref10_List.mono _ _
      | exact LeO.none _
      | refine LeO.ite ?_ ?_
      | refine LeO.bind ?_ (fun _ => ?_)
set_option maxHeartbeats 8000000 in
set_option maxRecDepth 100000 in
theorem juntolaw10_CheckLists.calls (k : Nat) (A0 : Option Addr) (c0 : Nat) (l0 : List (S23)) (r : Bool) (w : World) (hl : AM.AscLaid w) (hr0 : Kd.C k23 w A0 l0.length l0) (hc0 : l0.length ≤ c0) (h : juntolaw10_CheckLists.f k l0 = some r) (hrt : r = true := by rfl) :
    Calls Tryz.prog 5 #[.slice A0 l0.length c0] w fun e w' => e = .returned (.bool r) ∧ Below w.heap.size w w' := by
  have HASC := Aside0.mk hl
  clear hl
  have HRT := Aside0.mk hrt
  clear hrt
  have hu23 := Tryz.underlying23
  have HR0 := Aside0.mk hr0
  have HC0 := Aside0.mk hc0
  clear hr0 hc0
  have HB := Aside0.mk (Below.refl w.heap.size w)
  have H : ((check_List.f k l0).bind fun bt565 => ((juntoref10_List.f k l0).bind fun bt571 => (if (bt565.1 == bt571.1 && (bt565.2.1 == bt571.2.1 && (bt565.2.2.1 == bt571.2.2.1 && (bt565.2.2.2.1 == bt571.2.2.2.1)))) = true then (if bt565.2.2.2.2 = bt571.2.2.2.2 then ((juntolaw10_alive.f).bind fun t577 => (some t577)) else (some false)) else (some false)))) = some r := h
  clear h
  replace H := Option.bind_eq_some_iff.mp H
  obtain ⟨⟨t565, t566, t567, t568, t569⟩, A20, H⟩ := H
  replace H : ((juntoref10_List.f k l0).bind fun bt571 => (if (t565 == bt571.1 && (t566 == bt571.2.1 && (t567 == bt571.2.2.1 && (t568 == bt571.2.2.2.1)))) = true then (if t569 = bt571.2.2.2.2 then ((juntolaw10_alive.f).bind fun t577 => (some t577)) else (some false)) else (some false))) = some r := H
  have A2 := Aside0.mk A20
  clear A20
  replace H := Option.bind_eq_some_iff.mp H
  obtain ⟨⟨t571, t572, t573, t574, t575⟩, A30, H⟩ := H
  replace H : (if (t565 == t571 && (t566 == t572 && (t567 == t573 && (t568 == t574)))) = true then (if t569 = t575 then ((juntolaw10_alive.f).bind fun t577 => (some t577)) else (some false)) else (some false)) = some r := H
  have A3 := Aside0.mk A30
  clear A30
  by_cases c4 : (t565 == t571 && (t566 == t572 && (t567 == t573 && (t568 == t574)))) = true
  · rw [if_pos c4] at H
    have c4b0 : (t565 == t571 && (t566 == t572 && (t567 == t573 && (t568 == t574)))) = true := c4
    (try (have c4b1 : decide (t565 = t571 && (t566 == t572 && (t567 == t573 && (t568 == t574)))) = true := by simpa using c4))
    (try (have c4b2 : (t565 == t571 && (t566 == t572 && (t567 == t573 && (t568 == t574)))) = true := by simpa using c4))
    clear c4
    by_cases c5 : t569 = t575
    · rw [if_pos c5] at H
      have c5b0 : (t569 == t575) = true := beq_iff_eq.mpr c5
      have c5b1 : (t569 != t575) = false := bne_eq_false_iff_eq.mpr c5
      clear c5
      replace H := Option.bind_eq_some_iff.mp H
      obtain ⟨t577, A60, H⟩ := H
      replace H : (some t577) = some r := H
      have A6 := Aside0.mk A60
      clear A60
      obtain rfl := Option.some.inj H
      go_enter Tryz.func5, Tryz.ntmps5
      go_wp2_with (first | ((with_reducible refine gate_callee (f := 21) rfl ?_); refine goesL_ (some 9) rfl rfl Tryz.func21 (by kernel_rfl) rfl #[.slice A0 l0.length c0] rfl (by (try simp only [List.map_toArray, List.map_cons, List.map_nil]); first | done | rfl | (simp only [List.length_drop, List.length_take]; rfl)) ?_; (with_reducible refine (check_List.calls k _ _ l0 t565 t566 t567 t568 t569 _ ?side1 ?side2 A2.out).mono ?_); (case side1 => repeat (first | exact HR0.out | (with_reducible refine Kd.C_alloc ?_ _) | (with_reducible refine Kd.C_drewN ?_ _) | (with_reducible refine Kd.C_drew ?_))); (case side2 => exact HC0.out); rintro e w7 ⟨rfl, hb⟩; refine ⟨_, rfl, ?_⟩; have n0_ := Aside0.mk (below_step (by repeat (first | (with_reducible first | exact HB.out | apply below_alloc | apply pw_below_drewN | apply below_drew1) | exact HB.out)) hb); clear HB; have HB := n0_; clear n0_; (try clear hb); (try clear hb2); (try clear hk); (try clear hi)) | ((with_reducible refine gate_dst (N := 3) rfl ?_); refine box_event ?hg (N := 3) ?hd (cs := #[.int .i64 0, .int .i64 0, .int .i64 0, .bool false]) (t := 23) ?hr ?_; (case hd => rfl); (case hg => rfl); (case hr => first | (go_simp; done) | (go_simp; rfl)); intro gb570 hg w8 hbox hb; have n0_ := Aside0.mk (below_step (by repeat (first | (with_reducible first | exact HB.out | apply below_alloc | apply pw_below_drewN | apply below_drew1) | exact HB.out)) hb); have n1_ := Aside0.mk (hbox); have n2_ := Aside0.mk ((by rw [hg]; exact (below_size (by repeat (first | (with_reducible first | exact HB.out | apply below_alloc | apply pw_below_drewN | apply below_drew1) | exact HB.out))) : w.heap.size ≤ gb570)); have n3_ := Aside0.mk ((by rw [hg]; exact (below_size (by repeat (first | (with_reducible first | exact HB.out | apply below_alloc | apply pw_below_drewN | apply below_drew1) | exact HB.out))) : w.heap.size ≤ gb570)); clear HB; have HB := n0_; have BK570 := n1_; have GW570 := n2_; have GE570 := n3_; clear n0_ n1_ n2_ n3_; clear hb hbox hg; have hcz9_0 : w8.cell? ⟨gb570, 0, none⟩ = some (.int .i64 0) := (blk_cell BK570.out 0).trans rfl; have hcz9_1 : w8.cell? ⟨gb570, 1, none⟩ = some (.int .i64 0) := (blk_cell BK570.out 1).trans rfl; have hcz9_2 : w8.cell? ⟨gb570, 2, none⟩ = some (.int .i64 0) := (blk_cell BK570.out 2).trans rfl; have hcz9_3 : w8.cell? ⟨gb570, 3, none⟩ = some (.bool false) := (blk_cell BK570.out 3).trans rfl; have hfz9_0 := blk_frozen BK570.out 0; have hfz9_1 := blk_frozen BK570.out 1; have hfz9_2 := blk_frozen BK570.out 2; have hfz9_3 := blk_frozen BK570.out 3) | ((with_reducible refine gate_callee (f := 22) rfl ?_); refine goesL_ (some 14) rfl rfl Tryz.func22 (by kernel_rfl) rfl #[.slice A0 l0.length c0] rfl (by (try simp only [List.map_toArray, List.map_cons, List.map_nil]); first | done | rfl | (simp only [List.length_drop, List.length_take]; rfl)) ?_; (with_reducible refine (juntoref10_List.calls k _ _ l0 t571 t572 t573 t574 t575 _ ?side1 ?side2 A3.out).mono ?_); (case side1 => exact Kd.C_below HR0.out (by repeat (first | (with_reducible first | exact HB.out | apply below_alloc | apply pw_below_drewN | apply below_drew1 | refine below_set ?_ GE570.out) | exact HB.out))); (case side2 => exact HC0.out); rintro e w10 ⟨rfl, hb⟩; refine ⟨_, rfl, ?_⟩; have n0_ := Aside0.mk (blk_below (g := gb570) (o := .cells #[.int .i64 t565, .int .i64 t566, .int .i64 t567, .bool t568] 23 (0, 0)) (by (with_reducible repeat (first | refine blk_drewN ?_ _ | refine blk_drew ?_ | refine blk_alloc ?_ _)); refine blk_put (cs := #[.int .i64 t565, .int .i64 t566, .int .i64 t567, .bool false]) ?_ 3 _ rfl; (with_reducible repeat (first | refine blk_drewN ?_ _ | refine blk_drew ?_ | refine blk_alloc ?_ _)); refine blk_put (cs := #[.int .i64 t565, .int .i64 t566, .int .i64 0, .bool false]) ?_ 2 _ rfl; (with_reducible repeat (first | refine blk_drewN ?_ _ | refine blk_drew ?_ | refine blk_alloc ?_ _)); refine blk_put (cs := #[.int .i64 t565, .int .i64 0, .int .i64 0, .bool false]) ?_ 1 _ rfl; (with_reducible repeat (first | refine blk_drewN ?_ _ | refine blk_drew ?_ | refine blk_alloc ?_ _)); refine blk_put (cs := #[.int .i64 0, .int .i64 0, .int .i64 0, .bool false]) ?_ 0 _ rfl; (with_reducible repeat (first | refine blk_drewN ?_ _ | refine blk_drew ?_ | refine blk_alloc ?_ _)); exact BK570.out) hb); have n1_ := Aside0.mk (below_step (by repeat (first | (with_reducible first | exact HB.out | apply below_alloc | apply pw_below_drewN | apply below_drew1 | refine below_set ?_ GE570.out) | exact HB.out)) hb); clear BK570; clear HB; have BK570 := n0_; have HB := n1_; clear n0_ n1_; (try clear hb); (try clear hb2); (try clear hk); (try clear hi)) | ((with_reducible refine gate_dst (N := 5) rfl ?_); refine box_event ?hg (N := 5) ?hd (cs := #[.int .i64 0, .int .i64 0, .int .i64 0, .bool false]) (t := 23) ?hr ?_; (case hd => rfl); (case hg => rfl); (case hr => first | (go_simp; done) | (go_simp; rfl)); intro gb576 hg w11 hbox hb; have n0_ := Aside0.mk (blk_below (g := gb570) (o := .cells #[.int .i64 t565, .int .i64 t566, .int .i64 t567, .bool t568] 23 (0, 0)) (by (with_reducible repeat (first | refine blk_drewN ?_ _ | refine blk_drew ?_ | refine blk_alloc ?_ _)); exact BK570.out) hb); have n1_ := Aside0.mk (below_step (by repeat (first | (with_reducible first | exact HB.out | apply below_alloc | apply pw_below_drewN | apply below_drew1 | refine below_set ?_ GE570.out) | exact HB.out)) hb); have n2_ := Aside0.mk (hbox); have n3_ := Aside0.mk ((by rw [hg]; exact (below_size (by repeat (first | (with_reducible first | exact HB.out | apply below_alloc | apply pw_below_drewN | apply below_drew1 | refine below_set ?_ GE570.out) | exact HB.out))) : w.heap.size ≤ gb576)); have n4_ := Aside0.mk ((by rw [hg]; exact (below_size (by repeat (first | (with_reducible first | exact HB.out | apply below_alloc | apply pw_below_drewN | apply below_drew1 | refine below_set ?_ GE570.out) | exact HB.out))) : w.heap.size ≤ gb576)); have n5_ := Aside0.mk ((by rw [hg]; exact Nat.ne_of_lt (blk_lt (g := gb570) (o := .cells #[.int .i64 t565, .int .i64 t566, .int .i64 t567, .bool t568] 23 (0, 0)) (by (with_reducible repeat (first | refine blk_drewN ?_ _ | refine blk_drew ?_ | refine blk_alloc ?_ _)); exact BK570.out)) : gb570 ≠ gb576)); have n6_ := Aside0.mk ((by rw [hg]; exact Nat.ne_of_gt (blk_lt (g := gb570) (o := .cells #[.int .i64 t565, .int .i64 t566, .int .i64 t567, .bool t568] 23 (0, 0)) (by (with_reducible repeat (first | refine blk_drewN ?_ _ | refine blk_drew ?_ | refine blk_alloc ?_ _)); exact BK570.out)) : gb576 ≠ gb570)); clear BK570; clear HB; have BK570 := n0_; have HB := n1_; have BK576 := n2_; have GW576 := n3_; have GE576 := n4_; have NB570_576 := n5_; have NB576_570 := n6_; clear n0_ n1_ n2_ n3_ n4_ n5_ n6_; clear hb hbox hg; have hnb12 := NB576_570.out; have hnc12 := NB570_576.out; have hcz13_0 : w11.cell? ⟨gb576, 0, none⟩ = some (.int .i64 0) := (blk_cell BK576.out 0).trans rfl; have hcz13_1 : w11.cell? ⟨gb576, 1, none⟩ = some (.int .i64 0) := (blk_cell BK576.out 1).trans rfl; have hcz13_2 : w11.cell? ⟨gb576, 2, none⟩ = some (.int .i64 0) := (blk_cell BK576.out 2).trans rfl; have hcz13_3 : w11.cell? ⟨gb576, 3, none⟩ = some (.bool false) := (blk_cell BK576.out 3).trans rfl; have hfz13_0 := blk_frozen BK576.out 0; have hfz13_1 := blk_frozen BK576.out 1; have hfz13_2 := blk_frozen BK576.out 2; have hfz13_3 := blk_frozen BK576.out 3; have hcz14_0 : w11.cell? ⟨gb570, 0, none⟩ = some (.int .i64 t565) := (blk_cell BK570.out 0).trans rfl; have hcz14_1 : w11.cell? ⟨gb570, 1, none⟩ = some (.int .i64 t566) := (blk_cell BK570.out 1).trans rfl; have hcz14_2 : w11.cell? ⟨gb570, 2, none⟩ = some (.int .i64 t567) := (blk_cell BK570.out 2).trans rfl; have hcz14_3 : w11.cell? ⟨gb570, 3, none⟩ = some (.bool t568) := (blk_cell BK570.out 3).trans rfl; have hfz14_0 := blk_frozen BK570.out 0; have hfz14_1 := blk_frozen BK570.out 1; have hfz14_2 := blk_frozen BK570.out 2; have hfz14_3 := blk_frozen BK570.out 3) | (go_at_call 14; (with_reducible refine (juntolaw10_alive.calls  t577 _ (AM.AscLaid.below HASC.out (by repeat (first | (with_reducible first | exact HB.out | apply below_alloc | apply pw_below_drewN | apply below_drew1 | refine below_set ?_ GE570.out | refine below_set ?_ GE576.out) | exact HB.out))) A6.out (by first | rfl | exact HRT.out)).mono ?_); rintro e w15 ⟨rfl, hb⟩; have n0_ := Aside0.mk (blk_below (g := gb570) (o := .cells #[.int .i64 t565, .int .i64 t566, .int .i64 t567, .bool t568] 23 (0, 0)) (by (with_reducible repeat (first | refine blk_drewN ?_ _ | refine blk_drew ?_ | refine blk_alloc ?_ _)); refine blk_far ?_ NB570_576.out _; (with_reducible repeat (first | refine blk_drewN ?_ _ | refine blk_drew ?_ | refine blk_alloc ?_ _)); refine blk_far ?_ NB570_576.out _; (with_reducible repeat (first | refine blk_drewN ?_ _ | refine blk_drew ?_ | refine blk_alloc ?_ _)); refine blk_far ?_ NB570_576.out _; (with_reducible repeat (first | refine blk_drewN ?_ _ | refine blk_drew ?_ | refine blk_alloc ?_ _)); refine blk_far ?_ NB570_576.out _; (with_reducible repeat (first | refine blk_drewN ?_ _ | refine blk_drew ?_ | refine blk_alloc ?_ _)); exact BK570.out) hb); have n1_ := Aside0.mk (blk_below (g := gb576) (o := .cells #[.int .i64 t571, .int .i64 t572, .int .i64 t573, .bool t574] 23 (0, 0)) (by (with_reducible repeat (first | refine blk_drewN ?_ _ | refine blk_drew ?_ | refine blk_alloc ?_ _)); refine blk_put (cs := #[.int .i64 t571, .int .i64 t572, .int .i64 t573, .bool false]) ?_ 3 _ rfl; (with_reducible repeat (first | refine blk_drewN ?_ _ | refine blk_drew ?_ | refine blk_alloc ?_ _)); refine blk_put (cs := #[.int .i64 t571, .int .i64 t572, .int .i64 0, .bool false]) ?_ 2 _ rfl; (with_reducible repeat (first | refine blk_drewN ?_ _ | refine blk_drew ?_ | refine blk_alloc ?_ _)); refine blk_put (cs := #[.int .i64 t571, .int .i64 0, .int .i64 0, .bool false]) ?_ 1 _ rfl; (with_reducible repeat (first | refine blk_drewN ?_ _ | refine blk_drew ?_ | refine blk_alloc ?_ _)); refine blk_put (cs := #[.int .i64 0, .int .i64 0, .int .i64 0, .bool false]) ?_ 0 _ rfl; (with_reducible repeat (first | refine blk_drewN ?_ _ | refine blk_drew ?_ | refine blk_alloc ?_ _)); exact BK576.out) hb); have n2_ := Aside0.mk (below_step (by repeat (first | (with_reducible first | exact HB.out | apply below_alloc | apply pw_below_drewN | apply below_drew1 | refine below_set ?_ GE570.out | refine below_set ?_ GE576.out) | exact HB.out)) hb); clear BK570; clear BK576; clear HB; have BK570 := n0_; have BK576 := n1_; have HB := n2_; clear n0_ n1_ n2_; (try clear hb); (try clear hb2); (try clear hk); (try clear hi)))
      go_ret
      exact ⟨by first | rfl | (simp [errW_none, errW_some] <;> rfl) | (simp [*, errW_none, errW_some] <;> rfl), by repeat (first | (with_reducible first | exact HB.out | apply below_alloc | apply pw_below_drewN | apply below_drew1 | refine below_set ?_ GE570.out | refine below_set ?_ GE576.out) | exact HB.out)⟩
    · rw [if_neg c5] at H
      have c5b0 : (t569 == t575) = false := beq_eq_false_iff_ne.mpr c5
      have c5b1 : (t569 != t575) = true := bne_iff_ne.mpr c5
      exact absurd ((Option.some.inj H).trans HRT.out) (by decide)
  · rw [if_neg c4] at H
    have c4b0 : (t565 == t571 && (t566 == t572 && (t567 == t573 && (t568 == t574)))) = false := by simpa using c4
    (try (have c4b1 : decide (t565 = t571 && (t566 == t572 && (t567 == t573 && (t568 == t574)))) = false := by simpa using c4))
    (try (have c4b2 : (t565 == t571 && (t566 == t572 && (t567 == t573 && (t568 == t574)))) = false := by simpa using c4))
    (try (have c4b3 : ¬ (t565 = t571 && (t566 == t572 && (t567 == t573 && (t568 == t574)))) := by simpa using c4))
    clear c4
    exact absurd ((Option.some.inj H).trans HRT.out) (by decide)

end Go.Proofs.YtefhaojjohddaaaGreatDoor.J

/- What comes in laid out as a type says is a value of a kind, within the bounds that its weights leave: once for every type. -/
namespace Go.Proofs.YtefhaojjohddaaaGreatDoor.Op
open Go.RowKit Go.Proofs.YtefhaojjohddaaaGreatDoorW.PrintWords Go.Proofs.YtefhaojjohddaaaGreatDoorW.PrintLast Go.Proofs.YtefhaojjohddaaaGreatDoorW.PrintMore

def Opens {α : Type} (P : Program) (d : Kd α) (t : TypeId) (wf : α → Prop) : Prop :=
  ∀ (H : Type) (enc : TypeId × Value → H) (w : World) (base fuel : Nat) (spare : Nat → Bool) (held : Bool) (cs : List Value) (x : DataW H × List MemPlace), cs.length = d.sz →
    DataW.trod enc P w base spare held fuel t cs = some x → (x.1.weights P t).all (· ≤ reachBytes) = true → ∃ a, d.K w a cs ∧ wf a

theorem op_int {P : Program} {t : TypeId} {k : IntKind} (ht : P.underlying t = some (.int k)) : Opens P (Kd.int k) t (fun n => (Lit.int k n).wf = true) := by
  intro H enc w base fuel spare held cs x _ h _
  obtain ⟨n, rfl, _, hw⟩ := DataW.trod_int ht h
  exact ⟨n, rfl, hw⟩

theorem op_bool {P : Program} {t : TypeId} (ht : P.underlying t = some .bool) : Opens P Kd.bool t (fun _ => True) := by
  intro H enc w base fuel spare held cs x _ h _
  obtain ⟨n, rfl, _⟩ := DataW.trod_bool ht h
  exact ⟨n, rfl, trivial⟩

theorem all_weights {H : Type} {P : Program} {e : TypeId} {p : Nat → Bool} : ∀ (ds : List (DataW H)), (DataW.weightsAll P e ds).all p = true → ∀ d ∈ ds, (d.weights P e).all p = true
  | [], _, d, hd => by simp at hd
  | a :: r, h, d, hd => by
    unfold DataW.weightsAll at h
    rw [List.all_append, Bool.and_eq_true] at h
    rcases List.mem_cons.1 hd with rfl | hd
    · exact h.1
    · exact all_weights r h.2 d hd

theorem add_add_ (a : Addr) (i j : Nat) : a.add (i + j) = (a.add i).add j := by
  cases a
  unfold Addr.add
  rcases Nat.eq_zero_or_pos i with hi | hi <;> rcases Nat.eq_zero_or_pos j with hj | hj
  · simp [hi, hj]
  · simp [hi, show j ≠ 0 by omega]
  · simp [hj, show i ≠ 0 by omega]
  · simp [show i ≠ 0 by omega, show j ≠ 0 by omega, Nat.add_assoc]

theorem pick {β : Type} {p : Nat → β → Prop} : ∀ n, (∀ i : Nat, i < n → ∃ q, p i q) → ∃ l : List β, l.length = n ∧ ∀ (i : Nat) (q : β), l[i]? = some q → p i q
  | 0, _ => ⟨[], rfl, fun i q h => by simp at h⟩
  | n + 1, h => by
    obtain ⟨l, hl, hp⟩ := pick n (fun i hi => h i (by omega))
    obtain ⟨q, hq⟩ := h n (by omega)
    refine ⟨l ++ [q], by simp [hl], fun i r hr => ?_⟩
    rcases Nat.lt_or_ge i l.length with hi | hi
    · rw [List.getElem?_append_left hi] at hr
      exact hp i r hr
    · rw [List.getElem?_append_right hi] at hr
      have h0 : i - l.length = 0 := by
        rcases Nat.eq_zero_or_pos (i - l.length) with h' | h'
        · exact h'
        · rw [List.getElem?_eq_none (by simp; omega)] at hr; cases hr
      rw [h0] at hr
      obtain rfl : q = r := by simpa using hr
      have : i = n := by omega
      rw [this]; exact hq

theorem weights_at {H : Type} {P : Program} {p : Nat → Bool} : ∀ (ts : List TypeId) (ds : List (DataW H)) (j : Nat) {t : TypeId} {d : DataW H}, (DataW.weightsEach P ts ds).all p = true → ts[j]? = some t → ds[j]? = some d → (d.weights P t).all p = true
  | [], _, _, _, _, _, ht, _ => by simp at ht
  | _ :: _, [], _, _, _, _, _, hd => by simp at hd
  | t :: ts, d :: ds, j, t', d', h, ht, hd => by
    unfold DataW.weightsEach at h
    rw [List.all_append, Bool.and_eq_true] at h
    match j, ht, hd with
    | 0, ht, hd =>
      obtain rfl : t = t' := by simpa using ht
      obtain rfl : d = d' := by simpa using hd
      exact h.1
    | j + 1, ht, hd => exact weights_at ts ds j h.2 (by simpa using ht) (by simpa using hd)

theorem op_slice {α : Type} {P : Program} {d : Kd α} {t e : TypeId} {B : Nat} {wf : α → Prop} (ht : P.underlying t = some (.slice e)) (hB : P.bytesOf e = B) (hsz : P.cellsOf e = d.sz) (he : Opens P d e wf) :
    Opens P (Kd.slice e d) t (fun l => l.length ≤ maxLen ∧ l.length * B ≤ 140737488351232 ∧ ∀ a ∈ l, wf a) := by
  intro H enc w base fuel spare held cs x _ h hw
  rcases Go.Deep.open_slice ht h with ⟨rfl, _⟩ | ⟨a, len, cap, m, n, D, Pl, rfl, hb, hl, hm, hmm, rfl, hx⟩
  · exact ⟨[], ⟨none, 0, rfl, Nat.le_refl _, rfl, Nat.zero_le _, fun h0 => absurd h0 (by simp)⟩, by simp, by simp, fun a ha => by simp at ha⟩
  · have hlm : len ≤ m := by rw [hmm]; split <;> omega
    simp only [DataW.weights, ht, List.all_cons, List.all_append, Bool.and_eq_true, List.length_map, List.length_range] at hw
    obtain ⟨hw0, hw1, _⟩ := hw
    have each : ∀ i : Nat, i < len → ∃ q : α, wf q ∧ ∃ c : List Value, c.length = d.sz ∧ d.K w q c ∧ ∀ j u, c[j]? = some u → w.cell? (a.add (i * d.sz + j)) = some u := by
      intro i hi
      obtain ⟨cs', h1, h2⟩ := hx i (by omega)
      rw [hsz] at h1
      obtain ⟨_, hlen, hcell⟩ := World.cells?_some h1
      obtain ⟨y, hK, hwf⟩ := he H enc w base n spare held cs' _ hlen h2 (all_weights _ hw1 _ (List.mem_map.2 ⟨i, List.mem_range.2 hi, rfl⟩))
      refine ⟨y, hwf, cs', hlen, hK, fun j u hu => ?_⟩
      have hj : j < d.sz := by
        rw [← hlen]
        rcases Nat.lt_or_ge j cs'.length with h' | h'
        · exact h'
        · rw [List.getElem?_eq_none h'] at hu; cases hu
      have := hcell j hj
      rw [hu] at this
      rw [show a.add (i * d.sz + j) = (a.add (i * d.sz)).add j from add_add_ _ _ _]
      exact this
    obtain ⟨l, rfl, hl2⟩ := pick len each
    refine ⟨l, ⟨some a, cap, rfl, hl, rfl, Nat.le_trans hl hm, fun _ => ⟨a, rfl, fun j p hj => (hl2 j p hj).2⟩⟩, Nat.le_trans hl hm, ?_, ?_⟩
    · have hw2 := of_decide_eq_true hw0
      rw [hB] at hw2
      exact Nat.le_trans (Nat.mul_le_mul_right _ (by omega)) hw2
    · intro y hy
      obtain ⟨j, hj⟩ := List.mem_iff_getElem?.1 hy
      exact (hl2 j y hj).1

/-- Fields in line, from the place o on. -/
def OpL {β : Type} (P : Program) (d : Kd β) (fs : List Field) (o : Nat) (wf : β → Prop) : Prop :=
  ∀ (H : Type) (enc : TypeId × Value → H) (w : World) (base n : Nat) (spare : Nat → Bool) (held : Bool) (cs : List Value) (xs : List (DataW H × List MemPlace)), cs.length = d.sz → xs.length = fs.length →
    (∀ (i : Nat) (f : Field), fs[i]? = some f → DataW.trod enc P w base spare held n f.type ((cs.drop (f.offset - o)).take (P.cellsOf f.type)) = xs[i]?) →
    (DataW.weightsEach P (fs.map (·.type)) (xs.map (·.1))).all (· ≤ reachBytes) = true → ∃ a, d.K w a cs ∧ wf a

theorem opL_one {β : Type} {P : Program} {d : Kd β} {f : Field} {o : Nat} {wf : β → Prop} (ho : f.offset = o) (hc : P.cellsOf f.type = d.sz) (h : Opens P d f.type wf) : OpL P d [f] o wf := by
  intro H enc w base n spare held cs xs hl hx hf hw
  match xs, hx with
  | [y], _ =>
    have h0 := hf 0 f rfl
    rw [ho, Nat.sub_self, List.drop_zero, hc, ← hl, List.take_length] at h0
    simp only [List.map_cons, List.map_nil, DataW.weightsEach, List.append_nil] at hw
    exact h H enc w base n spare held cs y hl h0 hw

theorem opL_cons {α β : Type} {P : Program} {d1 : Kd α} {d : Kd β} {f : Field} {fs : List Field} {o : Nat} {wf1 : α → Prop} {wf : β → Prop} (ho : f.offset = o) (hc : P.cellsOf f.type = d1.sz) (h1 : Opens P d1 f.type wf1)
    (hfs0 : (fs.all fun g => decide (o + d1.sz ≤ g.offset)) = true) (h : OpL P d fs (o + d1.sz) wf) : OpL P (Kd.pair d1 d) (f :: fs) o (fun x => wf1 x.1 ∧ wf x.2) := by
  have hfs : ∀ g ∈ fs, o + d1.sz ≤ g.offset := fun g hg => of_decide_eq_true (List.all_eq_true.1 hfs0 g hg)
  intro H enc w base n spare held cs xs hl hx hf hw
  have hl' : cs.length = d1.sz + d.sz := hl
  match xs, hx with
  | y :: ys, hx =>
    have h0 := hf 0 f rfl
    rw [ho, Nat.sub_self, List.drop_zero, hc] at h0
    simp only [List.map_cons, DataW.weightsEach, List.all_append, Bool.and_eq_true] at hw
    obtain ⟨a, ka, wa⟩ := h1 H enc w base n spare held (cs.take d1.sz) y (by rw [List.length_take]; omega) h0 hw.1
    obtain ⟨b, kb, wb⟩ := h H enc w base n spare held (cs.drop d1.sz) ys (by rw [List.length_drop]; omega) (by simpa using hx) (fun i g hg => by
      have := hf (i + 1) g (by simpa using hg)
      rw [List.drop_drop]
      have hg2 := hfs g (List.mem_of_getElem? hg)
      rw [show d1.sz + (g.offset - (o + d1.sz)) = g.offset - o by omega, this]
      simp) hw.2
    exact ⟨(a, b), ⟨cs.take d1.sz, cs.drop d1.sz, (List.take_append_drop _ _).symm, ka, kb⟩, wa, wb⟩

theorem op_struct {α β : Type} {P : Program} {d : Kd α} {t : TypeId} {fs : Array Field} {wf : α → Prop} {p : β → α} (g : α → β) (hg : ∀ a, p (g a) = a) (ht : P.underlying t = some (.struct fs)) (h : OpL P d fs.toList 0 wf) :
    Opens P (Kd.iso d p) t (fun b => wf (p b)) := by
  intro H enc w base fuel spare held cs x hl hx hw
  obtain ⟨xs, n, rfl, rfl, _, hxl, hf⟩ := DataW.trod_struct ht hx
  simp only [DataW.weights, ht] at hw
  obtain ⟨a, ka, wa⟩ := h H enc w base n spare held cs xs hl (by simpa using hxl) (fun i f hi => by
    rw [Nat.sub_zero]
    exact hf i f (by simpa using hi)) hw
  refine ⟨g a, ?_, ?_⟩
  · show d.K w (p (g a)) cs
    rw [hg]; exact ka
  · show wf (p (g a))
    rw [hg]; exact wa

theorem op_agg {α : Type} {P : Program} {d : Kd α} {t : TypeId} {fs : Array Field} {wf : α → Prop} (ht : P.underlying t = some (.struct fs)) (h : OpL P d fs.toList 0 wf) : Opens P d t wf :=
  op_struct (d := d) (p := fun a => a) (fun a => a) (fun _ => rfl) ht h

/-- An array of two. -/
theorem op_array2 {α : Type} {P : Program} {d : Kd α} {t e : TypeId} {wf : α → Prop} (ht : P.underlying t = some (.array 2 e)) (hc : P.cellsOf e = d.sz) (h : Opens P d e wf) : Opens P (Kd.pair d d) t (fun x => wf x.1 ∧ wf x.2) := by
  intro H enc w base fuel spare held cs x hl hx hw
  obtain ⟨xs, m, rfl, rfl, _, hxl, hf⟩ := DataW.trod_array ht hx
  simp only [DataW.weights, ht] at hw
  have hl' : cs.length = d.sz + d.sz := hl
  match xs, hxl with
  | [y, z], _ =>
    have h0 := hf 0 (by omega)
    have h1 := hf 1 (by omega)
    rw [Nat.zero_mul, List.drop_zero, hc] at h0
    rw [Nat.one_mul, hc, List.take_of_length_le (by rw [List.length_drop]; omega)] at h1
    simp only [List.map_cons, List.map_nil, DataW.weightsAll, List.all_append, Bool.and_eq_true] at hw
    obtain ⟨a, ka, wa⟩ := h H enc w base m spare held (cs.take d.sz) y (by rw [List.length_take]; omega) h0 hw.1
    obtain ⟨b, kb, wb⟩ := h H enc w base m spare held (cs.drop d.sz) z (by rw [List.length_drop]; omega) h1 hw.2.1
    exact ⟨(a, b), ⟨cs.take d.sz, cs.drop d.sz, (List.take_append_drop _ _).symm, ka, kb⟩, wa, wb⟩

theorem okWide_arr {P : Program} {W : World} {r : Reach} {b0 : Nat} {t e : TypeId} {n : Nat} {v : Value} (ht : P.underlying t = some (.array n e)) (h : Value.okWide P W r b0 t v) : ∃ cs, v = .agg cs ∧ cs.size = P.cellsOf t := by
  simp only [Value.okWide, ht] at h
  obtain ⟨cs, h1, h2, _⟩ := h
  exact ⟨cs, h1, h2⟩

theorem okWide_agg {P : Program} {W : World} {r : Reach} {b0 : Nat} {t : TypeId} {fs : Array Field} {v : Value} (ht : P.underlying t = some (.struct fs)) (h : Value.okWide P W r b0 t v) : ∃ cs, v = .agg cs ∧ cs.size = P.cellsOf t := by
  simp only [Value.okWide, ht] at h
  obtain ⟨cs, h1, h2, _⟩ := h
  exact ⟨cs, h1, h2⟩

/-- One argument. -/
theorem arg {α H : Type} {enc : TypeId × Value → H} {P : Program} {d : Kd α} {t : TypeId} {wf : α → Prop} (h : Opens P d t wf) {w : World} {base : Nat} {spare : Nat → Bool} {held : Bool} {v : Value} {x : DataW H} {ps : List MemPlace}
    (hl : v.cells.toList.length = d.sz) (hv : DataW.Trod enc P w base spare held t v x ps) {ts : List TypeId} {ds : List (DataW H)} {j : Nat} (hsz : (DataW.weightsEach P ts ds).all (· ≤ reachBytes) = true) (ht : ts[j]? = some t) (hd : ds[j]? = some x) :
    ∃ a, d.K w a v.cells.toList ∧ wf a := by
  obtain ⟨fuel, hf⟩ := hv
  exact h H enc w base fuel spare held _ _ hl hf (weights_at ts ds j hsz ht hd)

end Go.Proofs.YtefhaojjohddaaaGreatDoor.Op

/- What a type is, how large it is, and when two are alike: both checkers answer so. -/
namespace Go.Proofs.YtefhaojjohddaaaGreatDoor.L
open Go.RowKit Go.Proofs.YtefhaojjohddaaaGreatDoorW.PrintWords Go.Proofs.YtefhaojjohddaaaGreatDoorW.PrintMore Go.Proofs.YtefhaojjohddaaaGreatDoor.J
set_option linter.unusedVariables false
set_option linter.unusedSimpArgs false

theorem w64_small {n : Int} (h0 : -9223372036854775808 ≤ n) (h1 : n < 9223372036854775808) : wrap64 n = n := by
  unfold wrap64
  omega
/-- A kind, a width and a number of items are a type. -/
def typV (a b c : Int) : Bool := if c < 0 ∨ c > 32 then false else if a = 3 then decide (b ≥ 1) && decide (b ≤ 16) else if a = 1 ∨ a = 2 then b == 0 else false
theorem is_j0 (a b c : Int) (s : Bool) (x : Bool) : Ev (fun k => check_IsType.j0 k x a b c s) (if x = true then false else if a = 3 then decide (b ≥ 1) && decide (b ≤ 16) else if a = 1 ∨ a = 2 then b == 0 else false) := by
  refine Ev.step (f := fun _ => some (if x = true then false else if a = 3 then decide (b ≥ 1) && decide (b ≤ 16) else if a = 1 ∨ a = 2 then b == 0 else false)) (fun k => ?_) (Ev.now _)
  simp only [check_IsType.j0]
  by_cases hx : x = true
  · simp [hx]
  by_cases h3 : a = 3
  · by_cases h1 : b ≥ 1 <;> simp [hx, h3, h1]
  by_cases h1 : a = 1
  · simp [hx, h1]
  by_cases h2 : a = 2
  · simp [hx, h2]
  simp [hx, h3, h1, h2]
theorem check_is (a b c : Int) (s : Bool) : Ev (fun k => check_IsType.f k a b c s) (typV a b c) := by
  unfold check_IsType.f typV
  by_cases h0 : c < 0
  · simp only [h0, if_true, true_or]
    exact is_j0 a b c s true
  · simp only [h0, if_false, false_or]
    by_cases h1 : c > 32
    · simp only [h1, if_true, decide_true]
      exact is_j0 a b c s true
    · simp only [h1, if_false, decide_false]
      have := is_j0 a b c s false
      simpa only [Bool.false_eq_true, if_false] using this
theorem is_same : ∀ k x a b c s, juntoref10_IsType.j0 k x a b c s = check_IsType.j0 k x a b c s
  | 0, _, _, _, _, _ => rfl
  | _ + 1, _, _, _, _, _ => rfl
theorem ref_is (a b c : Int) (s : Bool) : Ev (fun k => juntoref10_IsType.f k a b c s) (typV a b c) :=
  Ev.congr (fun k => by unfold juntoref10_IsType.f check_IsType.f; simp only [is_same]) (check_is a b c s)
/-! slices.Contains -/
theorem rd_int (l : List Int) (i : Nat) (h : i < l.length) : rd l (i : Int) = l[i] := by
  simp [rd, List.getD_eq_getElem?_getD, h]
theorem rd_bool (l : List Bool) (i : Nat) (h : i < l.length) : rdOf false l (i : Int) = l[i] := by
  simp [rdOf, List.getD_eq_getElem?_getD, h]
def idxI (x : Int) : List Int → Int → Int
  | [], _ => -1
  | y :: ys, i => if x = y then i else idxI x ys (i + 1)
theorem idxI_has (x : Int) : ∀ (l : List Int) (i : Int), 0 ≤ i → decide (idxI x l i ≥ 0) = l.contains x
  | [], i, _ => by simp [idxI]
  | y :: ys, i, h => by
    by_cases e : x = y
    · simp [idxI, e]; omega
    · rw [idxI, if_neg e, idxI_has x ys (i + 1) (by omega), List.contains_cons]
      simp [e]
theorem idx_int (l : List Int) (x : Int) (hl : l.length ≤ maxLen) (m : Nat) : ∀ i : Nat, i + m = l.length → Ev (fun k => slices_Index_int_int.l0 k l x (l.length : Int) (i : Int)) (idxI x (l.drop i) (i : Int)) := by
  induction m with
  | zero =>
    intro i hi
    rw [List.drop_of_length_le (by omega)]
    refine Ev.step (f := fun _ => some (-1)) (fun k => ?_) (Ev.now _)
    simp only [slices_Index_int_int.l0]
    rw [if_neg (by omega)]
  | succ m ih =>
    intro i hi
    have hlt : i < l.length := by omega
    have hm : maxLen = 9223372036854775807 := by decide
    have hw : wrap64 ((i : Int) + 1) = ((i + 1 : Nat) : Int) := by rw [w64_small (by omega) (by omega)]; omega
    rw [List.drop_eq_getElem_cons hlt, idxI]
    by_cases e : x = l[i]
    · rw [if_pos e]
      refine Ev.step (f := fun _ => some (i : Int)) (fun k => ?_) (Ev.now _)
      conv => lhs; simp only [slices_Index_int_int.l0]
      rw [if_pos (by omega), if_pos (by omega), if_pos (by omega), rd_int l i hlt, if_pos e]
    · rw [if_neg e]
      refine Ev.step (f := fun k => slices_Index_int_int.l0 k l x (l.length : Int) ((i + 1 : Nat) : Int)) (fun k => ?_) (ih (i + 1) (by omega))
      conv => lhs; simp only [slices_Index_int_int.l0]
      rw [if_pos (by omega), if_pos (by omega), if_pos (by omega), rd_int l i hlt, if_neg e, hw]
theorem has_int (l : List Int) (x : Int) (hl : l.length ≤ maxLen) : Ev (fun k => slices_Contains_int_int.f k l x) (l.contains x) := by
  unfold slices_Contains_int_int.f slices_Index_int_int.f
  have h := idx_int l x hl l.length 0 (by omega)
  refine Ev.bind h ?_
  rw [← idxI_has x l 0 (by omega)]
  exact Ev.now _
def idxB (x : Bool) : List Bool → Int → Int
  | [], _ => -1
  | y :: ys, i => if (x == y) = true then i else idxB x ys (i + 1)
theorem idxB_has (x : Bool) : ∀ (l : List Bool) (i : Int), 0 ≤ i → decide (idxB x l i ≥ 0) = l.contains x
  | [], i, _ => by simp [idxB]
  | y :: ys, i, h => by
    by_cases e : (x == y) = true
    · rw [idxB, if_pos e, List.contains_cons, e]; simp; omega
    · rw [idxB, if_neg e, idxB_has x ys (i + 1) (by omega), List.contains_cons]
      rw [Bool.not_eq_true] at e
      rw [e]; simp
theorem idx_bool (l : List Bool) (x : Bool) (hl : l.length ≤ maxLen) (m : Nat) : ∀ i : Nat, i + m = l.length → Ev (fun k => slices_Index_bool_bool.l0 k l x (l.length : Int) (i : Int)) (idxB x (l.drop i) (i : Int)) := by
  induction m with
  | zero =>
    intro i hi
    rw [List.drop_of_length_le (by omega)]
    refine Ev.step (f := fun _ => some (-1)) (fun k => ?_) (Ev.now _)
    simp only [slices_Index_bool_bool.l0]
    rw [if_neg (by omega)]
  | succ m ih =>
    intro i hi
    have hlt : i < l.length := by omega
    have hm : maxLen = 9223372036854775807 := by decide
    have hw : wrap64 ((i : Int) + 1) = ((i + 1 : Nat) : Int) := by rw [w64_small (by omega) (by omega)]; omega
    rw [List.drop_eq_getElem_cons hlt, idxB]
    by_cases e : (x == l[i]) = true
    · rw [if_pos e]
      refine Ev.step (f := fun _ => some (i : Int)) (fun k => ?_) (Ev.now _)
      conv => lhs; simp only [slices_Index_bool_bool.l0]
      rw [if_pos (by omega), if_pos (by omega), if_pos (by omega), rd_bool l i hlt, if_pos e]
    · rw [if_neg e]
      refine Ev.step (f := fun k => slices_Index_bool_bool.l0 k l x (l.length : Int) ((i + 1 : Nat) : Int)) (fun k => ?_) (ih (i + 1) (by omega))
      conv => lhs; simp only [slices_Index_bool_bool.l0]
      rw [if_pos (by omega), if_pos (by omega), if_pos (by omega), rd_bool l i hlt, if_neg e, hw]
theorem has_bool (l : List Bool) (x : Bool) (hl : l.length ≤ maxLen) : Ev (fun k => slices_Contains_bool_bool.f k l x) (l.contains x) := by
  unfold slices_Contains_bool_bool.f slices_Index_bool_bool.f
  have h := idx_bool l x hl l.length 0 (by omega)
  refine Ev.bind h ?_
  rw [← idxB_has x l 0 (by omega)]
  exact Ev.now _
theorem plain_ev (a b c : Int) (s : Bool) (l : List Int) (hl : l.length ≤ maxLen) : Ev (fun k => check_plain.f k a b c s l) (typV a b c && (c == 0 && l.contains a)) := by
  unfold check_plain.f
  refine Ev.bind (check_is a b c s) ?_
  by_cases h : typV a b c = true
  · simp only [h, if_true, Bool.true_and]
    by_cases h0 : c = 0
    · simp only [h0, if_true, beq_self_eq_true, Bool.true_and]
      exact Ev.bind (has_int l a hl) (Ev.now _)
    · simp only [h0, if_false]
      rw [beq_eq_false_iff_ne.mpr h0]
      exact Ev.now _
  · rw [Bool.not_eq_true] at h
    simp only [h, Bool.false_eq_true, if_false, Bool.false_and]
    exact Ev.now _
theorem hides_ev (a b c : Int) (s : Bool) (l : List Bool) (hl : l.length ≤ maxLen) : Ev (fun k => check_hides.f k a b c s l) (a, b, c, s || l.contains true) := by
  unfold check_hides.f
  by_cases h : s = true
  · simp only [h, if_true, Bool.true_or]; exact Ev.now _
  · rw [Bool.not_eq_true] at h
    simp only [h, Bool.false_eq_true, if_false, Bool.false_or]
    exact Ev.bind (has_bool l true hl) (Ev.now _)
theorem typV_kind {a b c : Int} (h : typV a b c = true) : (a = 1 ∨ a = 2 ∨ a = 3) ∧ 0 ≤ c ∧ c ≤ 32 := by
  unfold typV at h
  split at h
  · cases h
  · split at h
    · omega
    · split at h
      · omega
      · cases h
theorem alive10L : juntolaw10_alive.f = some true := rfl
end Go.Proofs.YtefhaojjohddaaaGreatDoor.L

/- The statement CheckLists as plain Lean: what it wants, and the law. -/
namespace Go.Proofs.YtefhaojjohddaaaGreatDoor.L
open Go.RowKit Go.Proofs.YtefhaojjohddaaaGreatDoorW.PrintWords Go.Proofs.YtefhaojjohddaaaGreatDoorW.PrintMore Go.Proofs.YtefhaojjohddaaaGreatDoor.J
set_option linter.unusedVariables false
set_option linter.unusedSimpArgs false

theorem rd_T (l : List S23) (i : Nat) (h : i < l.length) : rd_T23 l (i : Int) = l[i] := by
  simp [rd_T23, List.getD_eq_getElem?_getD, h]
/-- Two types are alike: but for what is secret. -/
def likeV (x y : S23) : Bool := x.f0 == y.f0 && (x.f1 == y.f1 && x.f2 == y.f2)
theorem likeV_eq {x y : S23} (h : likeV x y = true) : x.f0 = y.f0 ∧ x.f1 = y.f1 ∧ x.f2 = y.f2 := by
  simpa [likeV] using h
def badL : Int × Int × Int × Bool × Int := (0, 0, 0, false, 9)
/-- What the rest of the elements gives. -/
def restV (x0 : S23) (n : Int) (a b : Int) : List S23 → Bool → Int × Int × Int × Bool × Int
  | [], s => (a, b, n, s, 0)
  | x :: xs, s => if likeV x x0 = true then restV x0 n a b xs (s || x.f3) else badL
theorem list_loop (l : List S23) (hl : l.length ≤ 32) (x0 : S23) (h0 : 0 < l.length) (hx : rd_T23 l 0 = x0) (a b c : Int) (m : Nat) : ∀ (i : Nat) (s : Bool), i + m = l.length →
    Ev (fun k => check_List.l0 k l l (l.length : Int) (i : Int) a b c s) (restV x0 (l.length : Int) a b (l.drop i) s) := by
  induction m with
  | zero =>
    intro i s hi
    rw [List.drop_of_length_le (by omega), restV]
    refine Ev.step (f := fun _ => some (a, b, (l.length : Int), s, 0)) (fun k => ?_) (Ev.now _)
    simp only [check_List.l0]
    rw [if_neg (by omega)]
  | succ m ih =>
    intro i s hi
    have hlt : i < l.length := by omega
    have hw : wrap64 ((i : Int) + 1) = ((i + 1 : Nat) : Int) := by rw [w64_small (by omega) (by omega)]; omega
    rw [List.drop_eq_getElem_cons hlt, restV]
    by_cases e : likeV l[i] x0 = true
    · rw [if_pos e]
      refine Ev.step (f := fun k => (check_hides.f k a b c s [l[i].f3]).bind fun bt296 => check_List.l0 k l l (l.length : Int) ((i + 1 : Nat) : Int) bt296.1 bt296.2.1 bt296.2.2.1 bt296.2.2.2) (fun k => ?_) (Ev.bind (hides_ev a b c s [l[i].f3] (by simp [maxLen])) ?_)
      · conv => lhs; simp only [check_List.l0]
        rw [if_pos (by omega), if_pos (by omega), if_pos (by omega), if_pos (by omega), rd_T l i hlt, hx, hw]
        show (some (likeV l[i] x0)).bind _ = _
        rw [e, Option.bind_some, if_pos rfl]
      · have := ih (i + 1) (s || l[i].f3) (by omega)
        have e2 : ([l[i].f3].contains true) = l[i].f3 := by cases l[i].f3 <;> rfl
        simp only [e2]
        exact this
    · rw [if_neg e]
      refine Ev.step (f := fun _ => some badL) (fun k => ?_) (Ev.now _)
      conv => lhs; simp only [check_List.l0]
      rw [if_pos (by omega), if_pos (by omega), if_pos (by omega), if_pos (by omega), rd_T l i hlt, hx]
      show (some (likeV l[i] x0)).bind _ = _
      rw [Bool.not_eq_true] at e
      rw [e, Option.bind_some, if_neg (by decide)]
      rfl
theorem ref_loop (l : List S23) (hl : l.length ≤ 32) (x0 : S23) (h0 : 0 < l.length) (hx : rd_T23 l 0 = x0) (ht : typV x0.f0 x0.f1 x0.f2 = true) (hz : x0.f2 = 0) (a b c : Int) (m : Nat) : ∀ (i : Nat) (s : Bool), i + m = l.length →
    Ev (fun k => juntoref10_List.l0 k l l (l.length : Int) (i : Int) a b c s) (restV x0 (l.length : Int) a b (l.drop i) s) := by
  induction m with
  | zero =>
    intro i s hi
    rw [List.drop_of_length_le (by omega), restV]
    refine Ev.step (f := fun _ => some (a, b, (l.length : Int), s, 0)) (fun k => ?_) (Ev.now _)
    simp only [juntoref10_List.l0]
    rw [if_neg (by omega)]
  | succ m ih =>
    intro i s hi
    have hlt : i < l.length := by omega
    have hw : wrap64 ((i : Int) + 1) = ((i + 1 : Nat) : Int) := by rw [w64_small (by omega) (by omega)]; omega
    rw [List.drop_eq_getElem_cons hlt, restV]
    refine Ev.step (f := fun k => (juntoref10_IsType.f k l[i].f0 l[i].f1 l[i].f2 l[i].f3).bind fun t562 => (if t562 = true then (if l[i].f2 > 0 then (some badL) else (if likeV l[i] x0 = true then (if s = true then (juntoref10_List.l0 k l l (l.length : Int) ((i + 1 : Nat) : Int) a b c true) else (juntoref10_List.l0 k l l (l.length : Int) ((i + 1 : Nat) : Int) a b c l[i].f3)) else (some badL))) else (some badL))) (fun k => ?_) (Ev.bind (ref_is _ _ _ _) ?_)
    · have h0' : (0 : Int) < (l.length : Int) := by omega
      conv => lhs; simp only [juntoref10_List.l0, h0', if_true]
      rw [if_pos (by omega), if_pos (by omega), if_pos (by omega), rd_T l i hlt, hx, hw]
      rfl
    · by_cases e : likeV l[i] x0 = true
      · obtain ⟨e1, e2, e3⟩ := likeV_eq e
        rw [e1, e2, e3, ht, hz]
        simp only [e, if_true, show ¬ ((0 : Int) > 0) by omega, if_false]
        have := ih (i + 1) (s || l[i].f3) (by omega)
        by_cases hs : s = true
        · simp only [hs, if_true, Bool.true_or] at this ⊢
          exact this
        · rw [Bool.not_eq_true] at hs
          simp only [hs, Bool.false_eq_true, if_false, Bool.false_or] at this ⊢
          exact this
      · rw [Bool.not_eq_true] at e
        simp only [e, Bool.false_eq_true, if_false, ite_self]
        exact Ev.now _
/-- What an array literal's type is. -/
def listV (l : List S23) : Int × Int × Int × Bool × Int :=
  if l.length < 1 ∨ l.length > 32 then badL else
    if typV (rd_T23 l 0).f0 (rd_T23 l 0).f1 (rd_T23 l 0).f2 = true ∧ (rd_T23 l 0).f2 = 0 then restV (rd_T23 l 0) (l.length : Int) (rd_T23 l 0).f0 (rd_T23 l 0).f1 l (rd_T23 l 0).f3 else badL
theorem check_list (l : List S23) (hm : l.length ≤ maxLen) : Ev (fun k => check_List.f k l) (listV l) := by
  have out : Ev (fun k => check_List.j0 k l true) badL := Ev.step (f := fun _ => some badL) (fun k => by simp only [check_List.j0, if_true]; rfl) (Ev.now _)
  unfold check_List.f listV
  by_cases h1 : l.length < 1
  · simp only [show (l.length : Int) < 1 by omega, h1, if_true, true_or]; exact out
  by_cases h2 : l.length > 32
  · simp only [show ¬ (l.length : Int) < 1 by omega, show (l.length : Int) > 32 by omega, h2, if_true, if_false, or_true]; exact out
  simp only [show ¬ (l.length : Int) < 1 by omega, show ¬ (l.length : Int) > 32 by omega, show (0 : Int) < (l.length : Int) by omega, h1, h2, if_true, if_false, or_self]
  refine Ev.bind (plain_ev _ _ _ _ [1, 2, 3] (by simp [maxLen])) ?_
  by_cases ht : typV (rd_T23 l 0).f0 (rd_T23 l 0).f1 (rd_T23 l 0).f2 = true ∧ (rd_T23 l 0).f2 = 0
  · have hk := typV_kind ht.1
    have hc : ([1, 2, 3] : List Int).contains (rd_T23 l 0).f0 = true := by
      rcases hk.1 with h | h | h <;> rw [h] <;> decide
    rw [if_pos ht, ht.1, ht.2, hc]
    refine Ev.step (f := fun k => check_List.l0 k l l (l.length : Int) ((0 : Nat) : Int) (rd_T23 l 0).f0 (rd_T23 l 0).f1 (rd_T23 l 0).f2 (rd_T23 l 0).f3) (fun k => ?_) (list_loop l (by omega) _ (by omega) rfl _ _ _ l.length 0 _ (by omega))
    simp only [check_List.j0, Bool.false_eq_true, if_false, beq_self_eq_true, Bool.true_and, Bool.not_true, show (0 : Int) < (l.length : Int) by omega, if_true]
    rw [ht.2]
    rfl
  · rw [if_neg ht]
    have : (!(typV (rd_T23 l 0).f0 (rd_T23 l 0).f1 (rd_T23 l 0).f2 && ((rd_T23 l 0).f2 == 0 && ([1, 2, 3] : List Int).contains (rd_T23 l 0).f0))) = true := by
      rw [Bool.not_eq_true', Bool.and_eq_false_iff]
      by_cases h : typV (rd_T23 l 0).f0 (rd_T23 l 0).f1 (rd_T23 l 0).f2 = true
      · right
        rw [beq_eq_false_iff_ne.mpr (fun e => ht ⟨h, e⟩)]
        rfl
      · left; rwa [Bool.not_eq_true] at h
    rw [this]
    exact out
theorem ref_list (l : List S23) : Ev (fun k => juntoref10_List.f k l) (listV l) := by
  have out : Ev (fun k => juntoref10_List.j0 k l true) badL := Ev.step (f := fun _ => some badL) (fun k => by simp only [juntoref10_List.j0, if_true]; rfl) (Ev.now _)
  unfold juntoref10_List.f listV
  by_cases h1 : l.length < 1
  · simp only [show (l.length : Int) < 1 by omega, h1, if_true, true_or]; exact out
  by_cases h2 : l.length > 32
  · simp only [show ¬ (l.length : Int) < 1 by omega, show (l.length : Int) > 32 by omega, h2, if_true, if_false, or_true, decide_true]; exact out
  simp only [show ¬ (l.length : Int) < 1 by omega, show ¬ (l.length : Int) > 32 by omega, h1, h2, if_true, if_false, or_self, decide_false]
  refine Ev.step (f := fun k => juntoref10_List.l0 k l l (l.length : Int) ((0 : Nat) : Int) (rd_T23 l 0).f0 (rd_T23 l 0).f1 (rd_T23 l 0).f2 (rd_T23 l 0).f3) (fun k => ?_) ?_
  · simp only [juntoref10_List.j0, Bool.false_eq_true, if_false, show (0 : Int) < (l.length : Int) by omega, if_true]
    rfl
  by_cases ht : typV (rd_T23 l 0).f0 (rd_T23 l 0).f1 (rd_T23 l 0).f2 = true ∧ (rd_T23 l 0).f2 = 0
  · rw [if_pos ht]
    exact ref_loop l (by omega) _ (by omega) rfl ht.1 ht.2 _ _ _ l.length 0 _ (by omega)
  · rw [if_neg ht]
    have hz : ((0 : Nat) : Int) = 0 := rfl
    refine Ev.step (f := fun k => (juntoref10_IsType.f k (rd_T23 l 0).f0 (rd_T23 l 0).f1 (rd_T23 l 0).f2 (rd_T23 l 0).f3).bind fun t562 => (if t562 = true then (if (rd_T23 l 0).f2 > 0 then (some badL) else (if likeV (rd_T23 l 0) (rd_T23 l 0) = true then (if (rd_T23 l 0).f3 = true then (juntoref10_List.l0 k l l (l.length : Int) (wrap64 (0 + 1)) (rd_T23 l 0).f0 (rd_T23 l 0).f1 (rd_T23 l 0).f2 true) else (juntoref10_List.l0 k l l (l.length : Int) (wrap64 (0 + 1)) (rd_T23 l 0).f0 (rd_T23 l 0).f1 (rd_T23 l 0).f2 (rd_T23 l 0).f3)) else (some badL))) else (some badL))) (fun k => ?_) (Ev.bind (ref_is _ _ _ _) ?_)
    · have h0' : (0 : Int) < (l.length : Int) := by omega
      conv => lhs; simp only [juntoref10_List.l0, hz, h0', if_true]
      rw [if_pos (by omega)]
      rfl
    · by_cases h : typV (rd_T23 l 0).f0 (rd_T23 l 0).f1 (rd_T23 l 0).f2 = true
      · have hk := typV_kind h
        have hp : (rd_T23 l 0).f2 > 0 := by
          have : (rd_T23 l 0).f2 ≠ 0 := fun e => ht ⟨h, e⟩
          omega
        simp only [h, if_true, hp]
        exact Ev.now _
      · simp only [h, if_false]
        exact Ev.now _
theorem checkLists (x0 : List S23) (w0 : x0.length ≤ maxLen ∧ x0.length * 32 ≤ 140737488351232 ∧ ∀ x0' ∈ x0, (Lit.int .i64 x0'.f0).wf = true ∧ (Lit.int .i64 x0'.f1).wf = true ∧ (Lit.int .i64 x0'.f2).wf = true ∧ True) : ∃ k, juntolaw10_CheckLists.f k x0 = some true := by
  suffices h : Ev (fun k => juntolaw10_CheckLists.f k x0) true from h.rounds
  unfold juntolaw10_CheckLists.f
  refine Ev.bind (check_list x0 w0.1) (Ev.bind (ref_list x0) ?_)
  simp only [beq_self_eq_true, Bool.and_self, if_true, alive10L, Option.bind_some]
  exact Ev.now _
end Go.Proofs.YtefhaojjohddaaaGreatDoor.L

/- The row of CheckLists: for every input the call returns true and changes nothing; no conditions. Out of the contract of the function and the plain law. -/
namespace Go.Proofs.YtefhaojjohddaaaGreatDoor.checkLists
open Go.ChangeShapes Go.WideShapes Go.ChangeAt Go.RowKit Go.Proofs.YtefhaojjohddaaaGreatDoorW.PrintWords Go.Proofs.YtefhaojjohddaaaGreatDoor.J Go.Proofs.YtefhaojjohddaaaGreatDoor.Op
set_option linter.unusedVariables false
theorem own : ownKnob Tryz.prog.godebug = none := by kernel_rfl
theorem laidOut : laidOutB Tryz.prog = true := by kernel_rfl
set_option maxRecDepth 100000 in
theorem op0 : Opens Tryz.prog (Kd.slice 23 (k23)) 33 (fun l => l.length ≤ maxLen ∧ l.length * 32 ≤ 140737488351232 ∧ ∀ a ∈ l, (fun b : S23 => (fun x => (fun n => (Lit.int .i64 n).wf = true) x.1 ∧ (fun x => (fun n => (Lit.int .i64 n).wf = true) x.1 ∧ (fun x => (fun n => (Lit.int .i64 n).wf = true) x.1 ∧ (fun _ => True) x.2) x.2) x.2) (b.f0, b.f1, b.f2, b.f3)) a) := (op_slice Tryz.underlying33 (by kernel_rfl) (by kernel_rfl) (op_struct (fun x => (⟨x.1, x.2.1, x.2.2.1, x.2.2.2⟩ : S23)) (fun _ => rfl) Tryz.underlying23 (opL_cons (by kernel_rfl) (by kernel_rfl) (op_int Tryz.underlying3) (by kernel_rfl) (opL_cons (by kernel_rfl) (by kernel_rfl) (op_int Tryz.underlying3) (by kernel_rfl) (opL_cons (by kernel_rfl) (by kernel_rfl) (op_int Tryz.underlying3) (by kernel_rfl) (opL_one (by kernel_rfl) (by kernel_rfl) (op_bool Tryz.underlying4)))))))
/-- What the row lists. -/
def laid2 : List (String × DataW Unit) := [("unicode.White_Space", Rows.laid_unicode_White_Space), ("strings.asciiSpace", Rows.laid_strings_asciiSpace)]
theorem door_met (os : Os) (args : Array Value) : laidMetH Tryz.prog laid2 ((World.doorLaid Tryz.prog 33 os).forCall (fun _ _ => 0) ⟨#[], args, []⟩).memory :=
  laidMetH_of_parts3 (fuel := 8) (laidMet_of_run' 8 (by kernel_rfl) (by kernel_rfl)) (by kernel_rfl) (by kernel_rfl)
set_option maxRecDepth 100000 in
theorem lifted (os : Os) (started : os.Started) (H : Type) (enc : TypeId × Value → H) :
    ReturnsInHanded {} Tryz.checked os 5 .any (fun w args => (Rows.checkListsSpec.pre enc Tryz.prog Tryz.f5 [] false w args ∧ laidMetH Tryz.prog laid2 w) ∧ sizedMet enc Tryz.prog Tryz.f5 (OpenSpec.ofChange Rows.checkListsSpec) false w args) (Rows.checkListsSpec.post enc Tryz.prog Tryz.f5 false true false false) := by
  refine returnsInHanded_of_change_and (C := Tryz.checked) (X := fun w _ => laidMetH Tryz.prog laid2 w) (fun _ _ _ hh h => h.of_heap hh) own started (by kernel_rfl) Tryz.func5
    (ChangeSpec.witness_shaped (enc := enc) (C := Tryz.checked) (os := os) (X := fun w _ => laidMetH Tryz.prog laid2 w) false (World.doorLaid Tryz.prog 33 os) #[.slice none 0 0] 8 rfl (World.shaped_of_RefB (by kernel_rfl) (by kernel_rfl)) (by kernel_rfl) (by kernel_rfl) (by kernel_rfl) (door_met os _)) ?_
  intro W base args ds gs before hval0 hW _ hsz0 hL _
  have hasc := AM.ascLaid_of hL
  have hsz : (DataW.weightsEach Tryz.prog (Tryz.f5.params.toList ++ Rows.checkListsSpec.plain.varTypes Tryz.prog) (ds ++ gs)).all (· ≤ reachBytes) = true := hsz0
  have hval : ∀ (j : Nat) t v, Tryz.f5.params[j]? = some t → args[j]? = some v → Value.okWide Tryz.prog W .any base t v := hval0
  have hW' := hW
  obtain ⟨p, q, hA0, hV, rfl, hfz, hnd⟩ := hW
  have hA : DataW.TrodAll enc Tryz.prog W 0 (fun _ => true) true Tryz.f5.params.toList args.toList ds p := hA0
  rw [Tryz.params5] at hA hval hsz
  obtain ⟨v0, vs0, d0, ds0, p0, q0, hargs, rfl, rfl, h0, r0⟩ := trodAll_cons hA
  obtain ⟨rfl, rfl, rfl⟩ := trodAll_nil r0
  obtain rfl : args = #[v0] := by cases args; simp_all
  obtain ⟨rfl, rfl⟩ := trodVars_none hV
  have k0 := h0
  have lt0 : ∀ x ∈ p0, x.block < W.heap.size := by obtain ⟨m, hm⟩ := k0; exact DataW.trod_lt m _ _ _ hm
  obtain ⟨a0, len0, cap0, rfl⟩ := okWide_slice Tryz.underlying33 (hval 0 33 v0 rfl rfl)
  obtain ⟨x0, ⟨A0, c0, e0, hc0, hr0⟩, w0⟩ := arg op0 rfl h0 hsz (j := 0) rfl rfl
  have e0' : [Value.slice a0 len0 cap0] = [Value.slice A0 x0.length c0] := e0
  obtain ⟨rfl, rfl, rfl⟩ : a0 = A0 ∧ len0 = x0.length ∧ cap0 = c0 := by simpa using e0'
  clear hA0 hval0 hsz0 hsz
  obtain ⟨k, h⟩ := L.checkLists x0 w0
  refine (juntolaw10_CheckLists.calls k _ _ x0 true W hasc hr0 hc0 h).mono fun e W' ⟨he, bel⟩ => ?_
  subst he
  exact ⟨_, rfl, _, _, _, [], _, [], hW', trodAll_mk1 (shut_bool Tryz.underlying4 _), (trodAll_cons_mk (Below.trod laidOut (by kernel_rfl) (of_decide_eq_true (by kernel_rfl)) k0 bel lt0) trodAll_mk0), rfl, bel.frame _, fun h => by cases h⟩
set_option maxRecDepth 100000 in
theorem closed : joinedFacts Tryz.pinned.checked.prog 5 Tryz.f5 Rows.checkListsSpec Rows.checkListsRow = true := by
  unfold joinedFacts
  repeat' with_reducible refine Bool.and_eq_true_iff.2 ⟨?_, ?_⟩
  all_goals first
    | kernel_rfl
theorem over : Rows.checkListsRow.holds Tryz.pinned (OpenSpec.ofChange Rows.checkListsSpec) :=
  OpenClaim.holds_of_wide 5 Tryz.f5 rfl rfl rfl rfl rfl rfl rfl ⟨rfl, rfl, rfl, rfl, rfl⟩ rfl rfl rfl rfl rfl (by kernel_rfl) Tryz.func5 closed
    (of_decide_eq_true (by kernel_rfl)) (by unfold Func.isWrapper; first | (rw [if_pos (by decide +kernel)]; kernel_rfl) | (rw [if_neg (by decide +kernel)]; exact ⟨rfl, rfl⟩))
    (fun os started H enc _ => lifted os started H enc)
theorem proved : Rows.CheckListsSaid := over
theorem card_holds : Rows.CheckListsCardSaid :=
  Claim7.holds_tied_plain_at .later [] [.listed, .data] true (true, "0156f14c0dc15db6296d7a58e9abe46c8e32931e183022a01e7069d4872d65f3") true
    proved (fun _ h => by cases h) (by kernel_rfl) (fun _ h => by cases h) checkLists_row_tie rfl ⟨rfl, rfl⟩ (by kernel_rfl) rfl
    (fun f fn hf hfn => by
      obtain rfl : f = 5 := Option.some.inj ((show Tryz.prog.funcNamed "junto/juntolaw10.CheckLists" = some 5 by kernel_rfl).symm.trans hf) |>.symm
      obtain rfl : fn = Tryz.f5 := (Option.some.inj (Tryz.func5.symm.trans hfn)).symm
      exact ⟨by kernel_rfl, fun j t ht => by
        rw [Tryz.params5] at ht
        have hm : t ∈ [33] := by simpa using Array.mem_of_getElem? ht
        have hall : ([33].all fun u => !Tryz.prog.wantsStandIn u) = true := by kernel_rfl
        exact (show Tryz.prog.wantsStandIn t = false by simpa using List.all_eq_true.1 hall t hm)⟩)
    (by kernel_rfl)
#print axioms card_holds
end Go.Proofs.YtefhaojjohddaaaGreatDoor.checkLists
namespace Go.Proofs.YtefhaojjohddaaaGreatDoor
/-- The card, under a short name, for the claim. -/
theorem checkLists_holds : Rows.CheckListsCardSaid := checkLists.card_holds
end Go.Proofs.YtefhaojjohddaaaGreatDoor
