/- Part 3 of the proof of ShareSums: what the functions compute as plain Lean functions, that the machine comes to just these answers, and that the answer is true; no conditions. -/
import Derived.Test.YtjjnfobeeflnhaaShareSumsZ0
import Derived.Test.YtjjnfobeeflnhaaShareSumsZ1
import Derived.Test.YtjjnfobeeflnhaaShareSumsZ2
import Derived.Deep.Slices
import Derived.ChangeArms
import Derived.DataReads
import Derived.SizedLaws
import Derived.WideShapes
/- What Go functions of the program compute, as plain Lean functions, and that the machine comes to just these answers (written by a program for this seat). -/
namespace Go.Proofs.Ytjjnfobeeflnhaa.J
open Go.RowKit Go.Proofs.YtjjnfobeeflnhaaW.PrintWords Go.Proofs.YtjjnfobeeflnhaaW.PrintLast Go.Proofs.YtjjnfobeeflnhaaW.PrintMore
attribute [local go_sem] max2_int min2_int max_two min_two max_three min_three max_four min_four   -- for this text's walks alone
set_option linter.unusedVariables false
set_option linter.unusedSimpArgs false

/-! ### share_are: function 146 -/
def share_are.l0 : Nat → List (List Int) → Int → Int → Int → Int → Int → Option (Int)
  | 0, _, _, _, _, _, _ => none
  | k + 1, x7, x8, x9, x823000, x823001, x823002 => if x9 < x8 then (if 0 ≤ x9 then (if x9 < (x7.length : Int) then (if ((rd_L3 x7 x9).length : Int) = x823001 then ((field_Below.f k x823000 (rd_L3 x7 x9)).bind fun t824 => (if t824 = 0 then (share_are.l0 k x7 x8 (wrap64 (x9 + 1)) x823000 x823001 x823002) else (some 2))) else (some 2)) else (none)) else (none)) else (some 0)
def share_are.f (k : Nat) (a0_0 : Int) (a0_1 : Int) (a0_2 : Int) (l1 : List (List Int)) : Option (Int) := share_are.l0 k l1 (l1.length : Int) 0 a0_0 a0_1 a0_2
theorem share_are.mono_l : ∀ k, (∀ y0 y1 y2 y3 y4 y5, LeO (share_are.l0 k y0 y1 y2 y3 y4 y5) (share_are.l0 (k + 1) y0 y1 y2 y3 y4 y5))
  | 0 => fun _ _ _ _ _ _ r h => by simp [share_are.l0] at h
  | k + 1 => by
    have ih0 := share_are.mono_l k
    · intro y0 y1 y2 y3 y4 y5
      unfold share_are.l0
      repeat' first
      | (with_reducible exact ih0 _ _ _ _ _ _)
      | (with_reducible exact field_Below.mono _ _ _)
      | (with_reducible exact LeO.refl _)
      | (with_reducible exact LeO.none _)
      | (with_reducible refine LeO.ite ?_ ?_)
      | (with_reducible refine LeO.bind ?_ (fun _ => ?_))
      | exact ih0 _ _ _ _ _ _
      | exact field_Below.mono _ _ _
      | exact LeO.none _
      | refine LeO.ite ?_ ?_
      | refine LeO.bind ?_ (fun _ => ?_)
theorem share_are.mono : ∀ a0 a1 a2 a3 k, LeO (share_are.f k a0 a1 a2 a3) (share_are.f (k + 1) a0 a1 a2 a3) := by
  intro a0 a1 a2 a3 k
  have ih0 := share_are.mono_l k
  unfold share_are.f
  repeat' first
      | (with_reducible exact ih0 _ _ _ _ _ _)
      | (with_reducible exact field_Below.mono _ _ _)
      | (with_reducible exact LeO.refl _)
      | (with_reducible exact LeO.none _)
      | (with_reducible refine LeO.ite ?_ ?_)
      | (with_reducible refine LeO.bind ?_ (fun _ => ?_))
      | exact ih0 _ _ _ _ _ _
      | exact field_Below.mono _ _ _
      | exact LeO.none _
      | refine LeO.ite ?_ ?_
      | refine LeO.bind ?_ (fun _ => ?_)
set_option maxHeartbeats 8000000 in
set_option maxRecDepth 100000 in
theorem share_are.calls (k : Nat) (a0_0 : Int) (a0_1 : Int) (a0_2 : Int) (A1 : Option Addr) (c1 : Nat) (l1 : List (List Int)) (r : Int) (w : World) (hr1 : Kd.C (Kd.slice 22 (Kd.int .u64)) w A1 l1.length l1) (hc1 : l1.length ≤ c1) (h : share_are.f k a0_0 a0_1 a0_2 l1 = some r) :
    Calls Try.prog 146 #[.agg #[.int .u64 a0_0, .int .i64 a0_1, .int .i64 a0_2], .slice A1 l1.length c1] w fun e w' => e = .returned (.int .i64 r) ∧ Below w.heap.size w w' := by
  have hu24 := Try.underlying24
  have HR1 := Aside0.mk hr1
  have HC1 := Aside0.mk hc1
  clear hr1 hc1
  have HB := Aside0.mk (Below.refl w.heap.size w)
  have H : (share_are.l0 k l1 (l1.length : Int) 0 a0_0 a0_1 a0_2) = some r := h
  clear h
  have H' := Aside0.mk H
  clear H
  go_enter Try.func146, Try.ntmps146
  go_wp2_with (first | ((with_reducible refine gate_dst (N := 2) rfl ?_); refine box_event ?hg (N := 2) ?hd (cs := #[.int .u64 a0_0, .int .i64 a0_1, .int .i64 a0_2]) (t := 24) ?hr ?_; (case hd => rfl); (case hg => rfl); (case hr => first | (go_simp; done) | (go_simp; rfl)); intro gb822 hg w3 hbox hb; have n0_ := Aside0.mk (below_step (by repeat (first | (with_reducible first | exact HB.out | apply below_alloc | apply pw_below_drewN | apply below_drew1) | exact HB.out)) hb); have n1_ := Aside0.mk (hbox); have n2_ := Aside0.mk ((by rw [hg]; exact (below_size (by repeat (first | (with_reducible first | exact HB.out | apply below_alloc | apply pw_below_drewN | apply below_drew1) | exact HB.out))) : w.heap.size ≤ gb822)); have n3_ := Aside0.mk ((by rw [hg]; exact (below_size (by repeat (first | (with_reducible first | exact HB.out | apply below_alloc | apply pw_below_drewN | apply below_drew1) | exact HB.out))) : w.heap.size ≤ gb822)); clear HB; have HB := n0_; have BK822 := n1_; have GW822 := n2_; have GE822 := n3_; clear n0_ n1_ n2_ n3_; clear hb hbox hg))
  go_loopg [9] k (fun kq v9 w' => ∃ (x9_1 : Int), v9 = .int .i64 x9_1 ∧ Aside0 (share_are.l0 kq l1 (l1.length : Int) x9_1 a0_0 a0_1 a0_2 = some r) ∧ Aside0 (kq ≤ k) ∧ Aside0 (w'.heap[gb822]? = some (.cells #[.int .u64 a0_0, .int .i64 a0_1, .int .i64 a0_2] 24 (0, 0))) ∧ Aside0 (Below w.heap.size w w'))
  case atStart => exact ⟨(0), (by first | rfl | (simp; done) | (simp [*]; done)), H', ⟨Nat.le_refl _⟩, ⟨by (with_reducible repeat (first | refine blk_drewN ?_ _ | refine blk_drew ?_ | refine blk_alloc ?_ _)); exact BK822.out⟩, ⟨by repeat (first | (with_reducible first | exact HB.out | apply below_alloc | apply pw_below_drewN | apply below_drew1 | refine below_set ?_ GE822.out) | exact HB.out)⟩⟩
  case round =>
    clear H'
    try clear c1
    try clear p2
    obtain ⟨x9_1, rfl, HA, HK1, BK822, HB⟩ := hrel
    cases gk with
    | zero => exact absurd HA.out (by simp [share_are.l0])
    | succ k1 =>
      have H := HA.out
      clear HA
      simp only [share_are.l0] at H
      by_cases c4 : x9_1 < (l1.length : Int)
      · rw [if_pos c4] at H
        have c4b0 : decide (x9_1 < (l1.length : Int)) = true := decide_eq_true c4
        clear c4
        by_cases c5 : 0 ≤ x9_1
        · rw [if_pos c5] at H
          have c5b0 : decide (0 ≤ x9_1) = true := decide_eq_true c5
          clear c5
          by_cases c6 : x9_1 < (l1.length : Int)
          · rw [if_pos c6] at H
            have c6b0 : decide (x9_1 < (l1.length : Int)) = true := decide_eq_true c6
            clear c6
            by_cases c7 : ((rd_L3 l1 x9_1).length : Int) = a0_1
            · rw [if_pos c7] at H
              have c7b0 : (((rd_L3 l1 x9_1).length : Int) == a0_1) = true := beq_iff_eq.mpr c7
              have c7b1 : (((rd_L3 l1 x9_1).length : Int) != a0_1) = false := bne_eq_false_iff_eq.mpr c7
              clear c7
              replace H := Option.bind_eq_some_iff.mp H
              obtain ⟨t824, A80, H⟩ := H
              replace H : (if t824 = 0 then (share_are.l0 k1 l1 (l1.length : Int) (wrap64 (x9_1 + 1)) a0_0 a0_1 a0_2) else (some 2)) = some r := H
              have A8 := Aside0.mk A80
              clear A80
              by_cases c9 : t824 = 0
              · rw [if_pos c9] at H
                have c9b0 : (t824 == 0) = true := beq_iff_eq.mpr c9
                have c9b1 : (t824 != 0) = false := bne_eq_false_iff_eq.mpr c9
                clear c9
                have H' := Aside0.mk H
                clear H
                have p823 : 0 ≤ (x9_1 : Int) := of_decide_eq_true (by first | (with_reducible assumption) | assumption)
                have q823 : x9_1 < (l1.length : Int) := of_decide_eq_true (by first | (with_reducible assumption) | assumption)
                obtain ⟨ad823, A823_0, c823_0, e823, hx823_0, hl823_0, hi823_0⟩ := at_L3 HR1.out x9_1 p823 q823
                cases e823
                replace hx823_0 := (HB.out.cell (World.block_lt_of_cell? w _ hx823_0)).trans hx823_0
                have HR823_0 := Aside0.mk hi823_0
                have HC823_0 := Aside0.mk hl823_0
                clear hi823_0 hl823_0
                replace p823 := eq_true p823
                replace q823 := eq_true q823
                have hcz10_0 : wr.cell? ⟨gb822, 0, none⟩ = some (.int .u64 a0_0) := (blk_cell BK822.out 0).trans rfl
                have hcz10_1 : wr.cell? ⟨gb822, 1, none⟩ = some (.int .i64 a0_1) := (blk_cell BK822.out 1).trans rfl
                have hcz10_2 : wr.cell? ⟨gb822, 2, none⟩ = some (.int .i64 a0_2) := (blk_cell BK822.out 2).trans rfl
                have hfz10_0 := blk_frozen BK822.out 0
                have hfz10_1 := blk_frozen BK822.out 1
                have hfz10_2 := blk_frozen BK822.out 2
                go_wp2_with (first | (go_at_call 123; (with_reducible refine (field_Below.calls k1 a0_0 _ _ (rd_L3 l1 x9_1) t824 _ ?side1 ?side2 A8.out).mono ?_); (case side1 => repeat (first | exact (Kd.C_below HR823_0.out HB.out) | (with_reducible refine Kd.C_alloc ?_ _) | (with_reducible refine Kd.C_drewN ?_ _) | (with_reducible refine Kd.C_drew ?_))); (case side2 => exact HC823_0.out); rintro e w' ⟨rfl, ⟨nd, rfl⟩⟩))
                go_roundg k1
                case measure => have := HK1.out; omega
                case rel => exact ⟨(wrap64 (x9_1 + 1)), (by first | rfl | (simp; done) | (simp [*]; done)), H', ⟨by have := HK1.out; omega⟩, ⟨by (with_reducible repeat (first | refine blk_drewN ?_ _ | refine blk_drew ?_ | refine blk_alloc ?_ _)); exact BK822.out⟩, ⟨by repeat (first | (with_reducible first | exact HB.out | apply below_alloc | apply pw_below_drewN | apply below_drew1 | refine below_set ?_ GE822.out) | exact HB.out)⟩⟩
              · rw [if_neg c9] at H
                have c9b0 : (t824 == 0) = false := beq_eq_false_iff_ne.mpr c9
                have c9b1 : (t824 != 0) = true := bne_iff_ne.mpr c9
                obtain rfl := Option.some.inj H
                have p823 : 0 ≤ (x9_1 : Int) := of_decide_eq_true (by first | (with_reducible assumption) | assumption)
                have q823 : x9_1 < (l1.length : Int) := of_decide_eq_true (by first | (with_reducible assumption) | assumption)
                obtain ⟨ad823, A823_0, c823_0, e823, hx823_0, hl823_0, hi823_0⟩ := at_L3 HR1.out x9_1 p823 q823
                cases e823
                replace hx823_0 := (HB.out.cell (World.block_lt_of_cell? w _ hx823_0)).trans hx823_0
                have HR823_0 := Aside0.mk hi823_0
                have HC823_0 := Aside0.mk hl823_0
                clear hi823_0 hl823_0
                replace p823 := eq_true p823
                replace q823 := eq_true q823
                have hcz11_0 : wr.cell? ⟨gb822, 0, none⟩ = some (.int .u64 a0_0) := (blk_cell BK822.out 0).trans rfl
                have hcz11_1 : wr.cell? ⟨gb822, 1, none⟩ = some (.int .i64 a0_1) := (blk_cell BK822.out 1).trans rfl
                have hcz11_2 : wr.cell? ⟨gb822, 2, none⟩ = some (.int .i64 a0_2) := (blk_cell BK822.out 2).trans rfl
                have hfz11_0 := blk_frozen BK822.out 0
                have hfz11_1 := blk_frozen BK822.out 1
                have hfz11_2 := blk_frozen BK822.out 2
                go_wp2_with (first | (go_at_call 123; (with_reducible refine (field_Below.calls k1 a0_0 _ _ (rd_L3 l1 x9_1) t824 _ ?side1 ?side2 A8.out).mono ?_); (case side1 => repeat (first | exact (Kd.C_below HR823_0.out HB.out) | (with_reducible refine Kd.C_alloc ?_ _) | (with_reducible refine Kd.C_drewN ?_ _) | (with_reducible refine Kd.C_drew ?_))); (case side2 => exact HC823_0.out); rintro e w' ⟨rfl, ⟨nd, rfl⟩⟩))
                go_ret
                exact ⟨by first | rfl | (simp [errW_none, errW_some] <;> rfl) | (simp [*, errW_none, errW_some] <;> rfl), by repeat (first | (with_reducible first | exact HB.out | apply below_alloc | apply pw_below_drewN | apply below_drew1 | refine below_set ?_ GE822.out) | exact HB.out)⟩
            · rw [if_neg c7] at H
              have c7b0 : (((rd_L3 l1 x9_1).length : Int) == a0_1) = false := beq_eq_false_iff_ne.mpr c7
              have c7b1 : (((rd_L3 l1 x9_1).length : Int) != a0_1) = true := bne_iff_ne.mpr c7
              obtain rfl := Option.some.inj H
              have p823 : 0 ≤ (x9_1 : Int) := of_decide_eq_true (by first | (with_reducible assumption) | assumption)
              have q823 : x9_1 < (l1.length : Int) := of_decide_eq_true (by first | (with_reducible assumption) | assumption)
              obtain ⟨ad823, A823_0, c823_0, e823, hx823_0, hl823_0, hi823_0⟩ := at_L3 HR1.out x9_1 p823 q823
              cases e823
              replace hx823_0 := (HB.out.cell (World.block_lt_of_cell? w _ hx823_0)).trans hx823_0
              have HR823_0 := Aside0.mk hi823_0
              have HC823_0 := Aside0.mk hl823_0
              clear hi823_0 hl823_0
              replace p823 := eq_true p823
              replace q823 := eq_true q823
              have hcz12_0 : wr.cell? ⟨gb822, 0, none⟩ = some (.int .u64 a0_0) := (blk_cell BK822.out 0).trans rfl
              have hcz12_1 : wr.cell? ⟨gb822, 1, none⟩ = some (.int .i64 a0_1) := (blk_cell BK822.out 1).trans rfl
              have hcz12_2 : wr.cell? ⟨gb822, 2, none⟩ = some (.int .i64 a0_2) := (blk_cell BK822.out 2).trans rfl
              have hfz12_0 := blk_frozen BK822.out 0
              have hfz12_1 := blk_frozen BK822.out 1
              have hfz12_2 := blk_frozen BK822.out 2
              go_wp2
              go_ret
              exact ⟨by first | rfl | (simp [errW_none, errW_some] <;> rfl) | (simp [*, errW_none, errW_some] <;> rfl), by repeat (first | (with_reducible first | exact HB.out | apply below_alloc | apply pw_below_drewN | apply below_drew1 | refine below_set ?_ GE822.out) | exact HB.out)⟩
          · rw [if_neg c6] at H
            exact absurd H (by simp)
        · rw [if_neg c5] at H
          exact absurd H (by simp)
      · rw [if_neg c4] at H
        have c4b0 : decide (x9_1 < (l1.length : Int)) = false := decide_eq_false c4
        clear c4
        obtain rfl := Option.some.inj H
        go_wp2
        go_ret
        exact ⟨by first | rfl | (simp [errW_none, errW_some] <;> rfl) | (simp [*, errW_none, errW_some] <;> rfl), by repeat (first | (with_reducible first | exact HB.out | apply below_alloc | apply pw_below_drewN | apply below_drew1 | refine below_set ?_ GE822.out) | exact HB.out)⟩

/-! ### share_Sum: function 78 -/
mutual
def share_Sum.l0 : Nat → List Int → List (List Int) → Int → Int → Int → Int → Int → Option (List Int × Int)
  | 0, _, _, _, _, _, _, _ => none
  | k + 1, x8, x27, x28, x29, x826000, x826001, x826002 => if x29 < x28 then (if 0 ≤ x29 then (if x29 < (x27.length : Int) then (share_Sum.l1 k x8 x27 x28 x29 (rd_L3 x27 x29) ((rd_L3 x27 x29).length : Int) 0 x826000 x826001 x826002) else (none)) else (none)) else (some (x8, 0))
def share_Sum.l1 : Nat → List Int → List (List Int) → Int → Int → List Int → Int → Int → Int → Int → Int → Option (List Int × Int)
  | 0, _, _, _, _, _, _, _, _, _, _ => none
  | k + 1, x8, x27, x28, x29, x33, x34, x35, x826000, x826001, x826002 => if x35 < x34 then (if 0 ≤ x35 then (if x35 < (x33.length : Int) then (if x35 < (x8.length : Int) then ((field_Plus.f x826000 (rd x8 x35) (rd x33 x35)).bind fun t834 => (share_Sum.l1 k (x8.set (x35 : Int).toNat t834) x27 x28 x29 x33 x34 (wrap64 (x35 + 1)) x826000 x826001 x826002)) else (none)) else (none)) else (none)) else (share_Sum.l0 k x8 x27 x28 (wrap64 (x29 + 1)) x826000 x826001 x826002)
end
def share_Sum.f (k : Nat) (a0_0 : Int) (a0_1 : Int) (a0_2 : Int) (l1 : List (List Int)) : Option (List Int × Int) := (share_Setup.f k a0_0 a0_1 a0_2).bind fun t826 => (if t826 = 0 then ((share_are.f k a0_0 a0_1 a0_2 l1).bind fun t827 => (if t827 = 0 then (if 0 ≤ a0_1 then (if (a0_1 : Int).toNat ≤ 35184372088832 then (share_Sum.l0 k (List.replicate (a0_1 : Int).toNat 0) l1 (l1.length : Int) 0 a0_0 a0_1 a0_2) else (none)) else (none)) else (some (([] : List Int), t827)))) else (some (([] : List Int), t826)))
theorem share_Sum.mono_l : ∀ k, (∀ y0 y1 y2 y3 y4 y5 y6, LeO (share_Sum.l0 k y0 y1 y2 y3 y4 y5 y6) (share_Sum.l0 (k + 1) y0 y1 y2 y3 y4 y5 y6)) ∧ (∀ y0 y1 y2 y3 y4 y5 y6 y7 y8 y9, LeO (share_Sum.l1 k y0 y1 y2 y3 y4 y5 y6 y7 y8 y9) (share_Sum.l1 (k + 1) y0 y1 y2 y3 y4 y5 y6 y7 y8 y9))
  | 0 => ⟨fun _ _ _ _ _ _ _ r h => by simp [share_Sum.l0] at h, fun _ _ _ _ _ _ _ _ _ _ r h => by simp [share_Sum.l1] at h⟩
  | k + 1 => by
    obtain ⟨ih0, ih1⟩ := share_Sum.mono_l k
    refine ⟨?_, ?_⟩
    · intro y0 y1 y2 y3 y4 y5 y6
      unfold share_Sum.l0
      repeat' first
      | (with_reducible exact ih0 _ _ _ _ _ _ _)
      | (with_reducible exact ih1 _ _ _ _ _ _ _ _ _ _)
      | (with_reducible exact share_Setup.mono _ _ _ _)
      | (with_reducible exact share_are.mono _ _ _ _ _)
      | (with_reducible exact LeO.refl _)
      | (with_reducible exact LeO.none _)
      | (with_reducible refine LeO.ite ?_ ?_)
      | (with_reducible refine LeO.bind ?_ (fun _ => ?_))
      | exact ih0 _ _ _ _ _ _ _
      | exact ih1 _ _ _ _ _ _ _ _ _ _
      | exact share_Setup.mono _ _ _ _
      | exact share_are.mono _ _ _ _ _
      | exact LeO.none _
      | refine LeO.ite ?_ ?_
      | refine LeO.bind ?_ (fun _ => ?_)
    · intro y0 y1 y2 y3 y4 y5 y6 y7 y8 y9
      unfold share_Sum.l1
      repeat' first
      | (with_reducible exact ih0 _ _ _ _ _ _ _)
      | (with_reducible exact ih1 _ _ _ _ _ _ _ _ _ _)
      | (with_reducible exact share_Setup.mono _ _ _ _)
      | (with_reducible exact share_are.mono _ _ _ _ _)
      | (with_reducible exact LeO.refl _)
      | (with_reducible exact LeO.none _)
      | (with_reducible refine LeO.ite ?_ ?_)
      | (with_reducible refine LeO.bind ?_ (fun _ => ?_))
      | exact ih0 _ _ _ _ _ _ _
      | exact ih1 _ _ _ _ _ _ _ _ _ _
      | exact share_Setup.mono _ _ _ _
      | exact share_are.mono _ _ _ _ _
      | exact LeO.none _
      | refine LeO.ite ?_ ?_
      | refine LeO.bind ?_ (fun _ => ?_)
theorem share_Sum.mono : ∀ a0 a1 a2 a3 k, LeO (share_Sum.f k a0 a1 a2 a3) (share_Sum.f (k + 1) a0 a1 a2 a3) := by
  intro a0 a1 a2 a3 k
  obtain ⟨ih0, ih1⟩ := share_Sum.mono_l k
  unfold share_Sum.f
  repeat' first
      | (with_reducible exact ih0 _ _ _ _ _ _ _)
      | (with_reducible exact ih1 _ _ _ _ _ _ _ _ _ _)
      | (with_reducible exact share_Setup.mono _ _ _ _)
      | (with_reducible exact share_are.mono _ _ _ _ _)
      | (with_reducible exact LeO.refl _)
      | (with_reducible exact LeO.none _)
      | (with_reducible refine LeO.ite ?_ ?_)
      | (with_reducible refine LeO.bind ?_ (fun _ => ?_))
      | exact ih0 _ _ _ _ _ _ _
      | exact ih1 _ _ _ _ _ _ _ _ _ _
      | exact share_Setup.mono _ _ _ _
      | exact share_are.mono _ _ _ _ _
      | exact LeO.none _
      | refine LeO.ite ?_ ?_
      | refine LeO.bind ?_ (fun _ => ?_)
def share_Sum.T14 : Bool × List (List Nat × List Nat) := (true, [([], []), ([], []), ([], []), ([2], [2]), ([], []), ([], []), ([4, 5], [4, 5]), ([6], [6]), ([], []), ([3, 7, 8], [3, 7, 8]), ([0, 1, 0, 1, 2, 3, 4, 5, 6, 7, 8, 9], [0, 1]), ([10, 9, 9, 0, 1, 2, 3, 4, 5, 6, 7, 8, 9], [9, 10])])
def share_Sum.B14 : List Nat := [0, 0, 0, 4, 0, 0, 48, 112, 0, 508, 1023, 2047]
theorem share_Sum.tab14 : rtab .any (opsOf Try.f78 14) = share_Sum.T14 := by kernel_rfl
theorem share_Sum.bits14 : waitsOk share_Sum.T14.2 share_Sum.B14 = true := by kernel_rfl
set_option maxHeartbeats 8000000 in
set_option maxRecDepth 100000 in
theorem share_Sum.calls (k : Nat) (a0_0 : Int) (a0_1 : Int) (a0_2 : Int) (A1 : Option Addr) (c1 : Nat) (l1 : List (List Int)) (r1 : List Int) (r2 : Int) (w : World) (hr1 : Kd.C (Kd.slice 22 (Kd.int .u64)) w A1 l1.length l1) (hc1 : l1.length ≤ c1) (h : share_Sum.f k a0_0 a0_1 a0_2 l1 = some (r1, r2)) :
    Calls Try.prog 78 #[.agg #[.int .u64 a0_0, .int .i64 a0_1, .int .i64 a0_2], .slice A1 l1.length c1] w fun e w' => ∃ v0_ : Value, e = .returned (.tuple #[v0_, .int .i64 r2]) ∧ Kd.R (Kd.int .u64) 22 w' w.heap.size (fun _ => True) v0_ r1 ∧ Below w.heap.size w w' := by
  have hu24 := Try.underlying24
  have HR1 := Aside0.mk hr1
  have HC1 := Aside0.mk hc1
  clear hr1 hc1
  have HB := Aside0.mk (Below.refl w.heap.size w)
  have H : ((share_Setup.f k a0_0 a0_1 a0_2).bind fun t826 => (if t826 = 0 then ((share_are.f k a0_0 a0_1 a0_2 l1).bind fun t827 => (if t827 = 0 then (if 0 ≤ a0_1 then (if (a0_1 : Int).toNat ≤ 35184372088832 then (share_Sum.l0 k (List.replicate (a0_1 : Int).toNat 0) l1 (l1.length : Int) 0 a0_0 a0_1 a0_2) else (none)) else (none)) else (some (([] : List Int), t827)))) else (some (([] : List Int), t826)))) = some (r1, r2) := h
  clear h
  replace H := Option.bind_eq_some_iff.mp H
  obtain ⟨t826, A30, H⟩ := H
  replace H : (if t826 = 0 then ((share_are.f k a0_0 a0_1 a0_2 l1).bind fun t827 => (if t827 = 0 then (if 0 ≤ a0_1 then (if (a0_1 : Int).toNat ≤ 35184372088832 then (share_Sum.l0 k (List.replicate (a0_1 : Int).toNat 0) l1 (l1.length : Int) 0 a0_0 a0_1 a0_2) else (none)) else (none)) else (some (([] : List Int), t827)))) else (some (([] : List Int), t826))) = some (r1, r2) := H
  have A3 := Aside0.mk A30
  clear A30
  by_cases c4 : t826 = 0
  · rw [if_pos c4] at H
    have c4b0 : (t826 == 0) = true := beq_iff_eq.mpr c4
    have c4b1 : (t826 != 0) = false := bne_eq_false_iff_eq.mpr c4
    clear c4
    replace H := Option.bind_eq_some_iff.mp H
    obtain ⟨t827, A50, H⟩ := H
    replace H : (if t827 = 0 then (if 0 ≤ a0_1 then (if (a0_1 : Int).toNat ≤ 35184372088832 then (share_Sum.l0 k (List.replicate (a0_1 : Int).toNat 0) l1 (l1.length : Int) 0 a0_0 a0_1 a0_2) else (none)) else (none)) else (some (([] : List Int), t827))) = some (r1, r2) := H
    have A5 := Aside0.mk A50
    clear A50
    by_cases c6 : t827 = 0
    · rw [if_pos c6] at H
      have c6b0 : (t827 == 0) = true := beq_iff_eq.mpr c6
      have c6b1 : (t827 != 0) = false := bne_eq_false_iff_eq.mpr c6
      clear c6
      by_cases c7 : 0 ≤ a0_1
      · rw [if_pos c7] at H
        have c7b0 := eq_true c7
        have c7b1 : decide (0 ≤ a0_1) = true := decide_eq_true c7
        clear c7
        by_cases c8 : (a0_1 : Int).toNat ≤ 35184372088832
        · rw [if_pos c8] at H
          have c8b0 := eq_true c8
          have c8b1 : decide ((a0_1 : Int).toNat ≤ 35184372088832) = true := decide_eq_true c8
          clear c8
          obtain ⟨y828, hy828⟩ : ∃ y_ : List Int, y_ = (List.replicate (a0_1 : Int).toNat 0) := ⟨_, rfl⟩
          replace H : (share_Sum.l0 k y828 l1 (l1.length : Int) 0 a0_0 a0_1 a0_2) = some (r1, r2) := by first | (rw [hy828]; with_reducible exact H) | (have H2_ := (Option.bind_some _ _).symm.trans H; rw [hy828]; with_reducible exact H2_) | (have H2_ := (Option.bind_some _ _).symm.trans H; with_reducible exact H2_) | with_reducible exact H | (rw [hy828]; exact H) | exact H
          have Ny828 := Aside0.mk hy828
          clear hy828
          have H' := Aside0.mk H
          clear H
          go_enter Try.func78, Try.ntmps78
          go_wp2_with (first | ((with_reducible refine gate_dst (N := 2) rfl ?_); refine box_event ?hg (N := 2) ?hd (cs := #[.int .u64 a0_0, .int .i64 a0_1, .int .i64 a0_2]) (t := 24) ?hr ?_; (case hd => rfl); (case hg => rfl); (case hr => first | (go_simp; done) | (go_simp; rfl)); intro gb825 hg w9 hbox hb; have n0_ := Aside0.mk (below_step (by repeat (first | (with_reducible first | exact HB.out | apply below_alloc | apply pw_below_drewN | apply below_drew1) | exact HB.out)) hb); have n1_ := Aside0.mk (hbox); have n2_ := Aside0.mk ((by rw [hg]; exact (below_size (by repeat (first | (with_reducible first | exact HB.out | apply below_alloc | apply pw_below_drewN | apply below_drew1) | exact HB.out))) : w.heap.size ≤ gb825)); have n3_ := Aside0.mk ((by rw [hg]; exact (below_size (by repeat (first | (with_reducible first | exact HB.out | apply below_alloc | apply pw_below_drewN | apply below_drew1) | exact HB.out))) : w.heap.size ≤ gb825)); clear HB; have HB := n0_; have BK825 := n1_; have GW825 := n2_; have GE825 := n3_; clear n0_ n1_ n2_ n3_; clear hb hbox hg; have hcz10_0 : w9.cell? ⟨gb825, 0, none⟩ = some (.int .u64 a0_0) := (blk_cell BK825.out 0).trans rfl; have hcz10_1 : w9.cell? ⟨gb825, 1, none⟩ = some (.int .i64 a0_1) := (blk_cell BK825.out 1).trans rfl; have hcz10_2 : w9.cell? ⟨gb825, 2, none⟩ = some (.int .i64 a0_2) := (blk_cell BK825.out 2).trans rfl; have hfz10_0 := blk_frozen BK825.out 0; have hfz10_1 := blk_frozen BK825.out 1; have hfz10_2 := blk_frozen BK825.out 2) | ((with_reducible refine gate_callee (f := 64) rfl ?_); refine goesL_ (some 14) rfl rfl Try.func64 (by kernel_rfl) rfl #[.agg #[.int .u64 a0_0, .int .i64 a0_1, .int .i64 a0_2]] rfl (by (try simp only [List.map_toArray, List.map_cons, List.map_nil]); first | done | rfl | (simp only [List.length_drop, List.length_take]; rfl)) ?_; (with_reducible refine (share_Setup.calls k a0_0 a0_1 a0_2 t826 _ A3.out).mono ?_); rintro e w11 ⟨rfl, hb⟩; refine ⟨_, rfl, ?_⟩; have n0_ := Aside0.mk (blk_below (g := gb825) (o := .cells #[.int .u64 a0_0, .int .i64 a0_1, .int .i64 a0_2] 24 (0, 0)) (by (with_reducible repeat (first | refine blk_drewN ?_ _ | refine blk_drew ?_ | refine blk_alloc ?_ _)); exact BK825.out) hb); have n1_ := Aside0.mk (below_step (by repeat (first | (with_reducible first | exact HB.out | apply below_alloc | apply pw_below_drewN | apply below_drew1 | refine below_set ?_ GE825.out) | exact HB.out)) hb); clear BK825; clear HB; have BK825 := n0_; have HB := n1_; clear n0_ n1_; (try clear hb); (try clear hb2); (try clear hk); (try clear hi); have hcz12_0 : w11.cell? ⟨gb825, 0, none⟩ = some (.int .u64 a0_0) := (blk_cell BK825.out 0).trans rfl; have hcz12_1 : w11.cell? ⟨gb825, 1, none⟩ = some (.int .i64 a0_1) := (blk_cell BK825.out 1).trans rfl; have hcz12_2 : w11.cell? ⟨gb825, 2, none⟩ = some (.int .i64 a0_2) := (blk_cell BK825.out 2).trans rfl; have hfz12_0 := blk_frozen BK825.out 0; have hfz12_1 := blk_frozen BK825.out 1; have hfz12_2 := blk_frozen BK825.out 2) | ((with_reducible refine gate_callee (f := 146) rfl ?_); refine goesL_ (some 20) rfl rfl Try.func146 (by kernel_rfl) rfl #[.agg #[.int .u64 a0_0, .int .i64 a0_1, .int .i64 a0_2], .slice A1 l1.length c1] rfl (by (try simp only [List.map_toArray, List.map_cons, List.map_nil]); first | done | rfl | (simp only [List.length_drop, List.length_take]; rfl)) ?_; (with_reducible refine (share_are.calls k a0_0 a0_1 a0_2 _ _ l1 t827 _ ?side1 ?side2 A5.out).mono ?_); (case side1 => repeat (first | exact (Kd.C_below HR1.out HB.out) | (with_reducible refine Kd.C_alloc ?_ _) | (with_reducible refine Kd.C_drewN ?_ _) | (with_reducible refine Kd.C_drew ?_))); (case side2 => exact HC1.out); rintro e w13 ⟨rfl, hb⟩; refine ⟨_, rfl, ?_⟩; have n0_ := Aside0.mk (blk_below (g := gb825) (o := .cells #[.int .u64 a0_0, .int .i64 a0_1, .int .i64 a0_2] 24 (0, 0)) (by (with_reducible repeat (first | refine blk_drewN ?_ _ | refine blk_drew ?_ | refine blk_alloc ?_ _)); exact BK825.out) hb); have n1_ := Aside0.mk (below_step (by repeat (first | (with_reducible first | exact HB.out | apply below_alloc | apply pw_below_drewN | apply below_drew1 | refine below_set ?_ GE825.out) | exact HB.out)) hb); clear BK825; clear HB; have BK825 := n0_; have HB := n1_; clear n0_ n1_; (try clear hb); (try clear hb2); (try clear hk); (try clear hi); have hcz14_0 : w13.cell? ⟨gb825, 0, none⟩ = some (.int .u64 a0_0) := (blk_cell BK825.out 0).trans rfl; have hcz14_1 : w13.cell? ⟨gb825, 1, none⟩ = some (.int .i64 a0_1) := (blk_cell BK825.out 1).trans rfl; have hcz14_2 : w13.cell? ⟨gb825, 2, none⟩ = some (.int .i64 a0_2) := (blk_cell BK825.out 2).trans rfl; have hfz14_0 := blk_frozen BK825.out 0; have hfz14_1 := blk_frozen BK825.out 1; have hfz14_2 := blk_frozen BK825.out 2) | ((with_reducible refine gate_dst (N := 26) rfl ?_); refine Kd.R_make (Kd.int .u64) _ 22 rfl (N := 26) rfl 31 _ _ rfl a0_1 rfl rfl Try.underlying31 (.int .u64 0) 8 info22 rfl (by decide) (by omega) 0 (ok := fun _ => True) (okp := fun _ => True) rfl (fun _ hk => hk) trivial (of_decide_eq_true (by first | (with_reducible assumption) | assumption)) (Nat.le_trans (Nat.mul_le_mul_right _ (of_decide_eq_true (by first | (with_reducible assumption) | assumption) : a0_1.toNat ≤ 35184372088832)) (by omega)) (Below.refl _ _) (Nat.le_refl _) ?_; intro v829 w15 ho16 hb hg_ hnew_; clear hg_ hnew_; (first | rw [← Ny828.out] at ho16 | (simp only [Int.reduceToNat] at ho16; rw [← Ny828.out] at ho16)); have n0_ := Aside0.mk (Kd.R_lower ho16 (below_size (by repeat (first | (with_reducible first | exact HB.out | apply below_alloc | apply pw_below_drewN | apply below_drew1 | refine below_set ?_ GE825.out) | exact HB.out)))); have n1_ := Aside0.mk (blk_below (g := gb825) (o := .cells #[.int .u64 a0_0, .int .i64 a0_1, .int .i64 a0_2] 24 (0, 0)) (by (with_reducible repeat (first | refine blk_drewN ?_ _ | refine blk_drew ?_ | refine blk_alloc ?_ _)); exact BK825.out) hb); have n2_ := Aside0.mk (below_step (by repeat (first | (with_reducible first | exact HB.out | apply below_alloc | apply pw_below_drewN | apply below_drew1 | refine below_set ?_ GE825.out) | exact HB.out)) hb); clear BK825; clear HB; have HO830 := n0_; have BK825 := n1_; have HB := n2_; clear n0_ n1_ n2_; clear hb ho16))
          go_loopg [29] k (fun kq v29 w' => ∃ (x8_1 : List Int) (x29_1 : Int), v29 = .int .i64 x29_1 ∧ Aside0 (share_Sum.l0 kq x8_1 l1 (l1.length : Int) x29_1 a0_0 a0_1 a0_2 = some (r1, r2)) ∧ Aside0 (kq ≤ k) ∧ Aside0 (Kd.R (Kd.int .u64) 22 w' w.heap.size (fun _ => True) v829 x8_1) ∧ Aside0 (w'.heap[gb825]? = some (.cells #[.int .u64 a0_0, .int .i64 a0_1, .int .i64 a0_2] 24 (0, 0))) ∧ Aside0 (Below w.heap.size w w'))
          case atStart => exact ⟨(y828), (0), (by first | rfl | (simp; done) | (simp [*]; done)), H', ⟨Nat.le_refl _⟩, ⟨by (with_reducible repeat (first | apply Kd.R_alloc | apply Kd.R_drewN | apply Kd.R_drew)); exact HO830.out⟩, ⟨by (with_reducible repeat (first | refine blk_drewN ?_ _ | refine blk_drew ?_ | refine blk_alloc ?_ _)); exact BK825.out⟩, ⟨by repeat (first | (with_reducible first | exact HB.out | apply below_alloc | apply pw_below_drewN | apply below_drew1 | refine below_set ?_ GE825.out) | exact HB.out)⟩⟩
          case round =>
            clear H'
            try clear c1
            try clear p2
            try clear c4
            try clear c4b0
            try clear c4b1
            try clear c6
            try clear c6b0
            try clear c6b1
            try clear c7
            try clear c7b0
            try clear c7b1
            try clear c8
            try clear c8b0
            try clear c8b1
            try clear c14
            try clear hcz10_0
            try clear hcz10_1
            try clear hcz10_2
            try clear hcz12_0
            try clear hcz12_1
            try clear hcz12_2
            try clear hcz14_0
            try clear hcz14_1
            try clear hcz14_2
            try clear hfz10_0
            try clear hfz10_1
            try clear hfz10_2
            try clear hfz12_0
            try clear hfz12_1
            try clear hfz12_2
            try clear hfz14_0
            try clear hfz14_1
            try clear hfz14_2
            obtain ⟨x8_1, x29_1, rfl, HA, HK1, HO_8, BK825, HB⟩ := hrel
            cases gk with
            | zero => exact absurd HA.out (by simp [share_Sum.l0])
            | succ k1 =>
              have H := HA.out
              clear HA
              simp only [share_Sum.l0] at H
              by_cases c17 : x29_1 < (l1.length : Int)
              · rw [if_pos c17] at H
                have c17b0 : decide (x29_1 < (l1.length : Int)) = true := decide_eq_true c17
                clear c17
                by_cases c18 : 0 ≤ x29_1
                · rw [if_pos c18] at H
                  have c18b0 : decide (0 ≤ x29_1) = true := decide_eq_true c18
                  clear c18
                  by_cases c19 : x29_1 < (l1.length : Int)
                  · rw [if_pos c19] at H
                    have c19b0 : decide (x29_1 < (l1.length : Int)) = true := decide_eq_true c19
                    clear c19
                    have H' := Aside0.mk H
                    clear H
                    have p831 : 0 ≤ (x29_1 : Int) := of_decide_eq_true (by first | (with_reducible assumption) | assumption)
                    have q831 : x29_1 < (l1.length : Int) := of_decide_eq_true (by first | (with_reducible assumption) | assumption)
                    obtain ⟨ad831, A831_0, c831_0, e831, hx831_0, hl831_0, hi831_0⟩ := at_L3 HR1.out x29_1 p831 q831
                    cases e831
                    replace hx831_0 := (HB.out.cell (World.block_lt_of_cell? w _ hx831_0)).trans hx831_0
                    have HR831_0 := Aside0.mk hi831_0
                    have HC831_0 := Aside0.mk hl831_0
                    clear hi831_0 hl831_0
                    replace p831 := eq_true p831
                    replace q831 := eq_true q831
                    go_wp2
                    go_loopg [35] k1 (fun kq v35 w' => ∃ (x8_2 : List Int) (x35_2 : Int), v35 = .int .i64 x35_2 ∧ Aside0 (share_Sum.l1 kq x8_2 l1 (l1.length : Int) x29_1 (rd_L3 l1 x29_1) ((rd_L3 l1 x29_1).length : Int) x35_2 a0_0 a0_1 a0_2 = some (r1, r2)) ∧ Aside0 (kq ≤ k1) ∧ Aside0 (Kd.R (Kd.int .u64) 22 w' w.heap.size (fun _ => True) v829 x8_2) ∧ Aside0 (w'.heap[gb825]? = some (.cells #[.int .u64 a0_0, .int .i64 a0_1, .int .i64 a0_2] 24 (0, 0))) ∧ Aside0 (Below w.heap.size w w'))
                    case atStart => exact ⟨(x8_1), (0), (by first | rfl | (simp; done) | (simp [*]; done)), H', ⟨Nat.le_refl _⟩, ⟨by (with_reducible repeat (first | apply Kd.R_alloc | apply Kd.R_drewN | apply Kd.R_drew)); exact HO_8.out⟩, ⟨by (with_reducible repeat (first | refine blk_drewN ?_ _ | refine blk_drew ?_ | refine blk_alloc ?_ _)); exact BK825.out⟩, ⟨by repeat (first | (with_reducible first | exact HB.out | apply below_alloc | apply pw_below_drewN | apply below_drew1 | refine below_set ?_ GE825.out) | exact HB.out)⟩⟩
                    case round =>
                      clear H'
                      try clear c1
                      try clear p2
                      try clear c4
                      try clear c4b0
                      try clear c4b1
                      try clear c6
                      try clear c6b0
                      try clear c6b1
                      try clear c7
                      try clear c7b0
                      try clear c7b1
                      try clear c8
                      try clear c8b0
                      try clear c8b1
                      try clear p8
                      try clear q8
                      try clear hx8
                      try clear c14
                      try clear c17
                      try clear c17b0
                      try clear c18
                      try clear c18b0
                      try clear c19
                      try clear c19b0
                      try clear hcz10_0
                      try clear hcz10_1
                      try clear hcz10_2
                      try clear hcz12_0
                      try clear hcz12_1
                      try clear hcz12_2
                      try clear hcz14_0
                      try clear hcz14_1
                      try clear hcz14_2
                      try clear hfz10_0
                      try clear hfz10_1
                      try clear hfz10_2
                      try clear hfz12_0
                      try clear hfz12_1
                      try clear hfz12_2
                      try clear hfz14_0
                      try clear hfz14_1
                      try clear hfz14_2
                      try clear hx831_0
                      try clear p2
                      try clear p831
                      try clear q831
                      obtain ⟨x8_2, x35_2, rfl, HA, HK2, HO_8, BK825, HB⟩ := hrel
                      cases gk with
                      | zero => exact absurd HA.out (by simp [share_Sum.l1])
                      | succ k2 =>
                        have H := HA.out
                        clear HA
                        simp only [share_Sum.l1] at H
                        by_cases c20 : x35_2 < ((rd_L3 l1 x29_1).length : Int)
                        · rw [if_pos c20] at H
                          have c20b0 : decide (x35_2 < ((rd_L3 l1 x29_1).length : Int)) = true := decide_eq_true c20
                          clear c20
                          by_cases c21 : 0 ≤ x35_2
                          · rw [if_pos c21] at H
                            have c21b0 : decide (0 ≤ x35_2) = true := decide_eq_true c21
                            clear c21
                            by_cases c22 : x35_2 < ((rd_L3 l1 x29_1).length : Int)
                            · rw [if_pos c22] at H
                              have c22b0 : decide (x35_2 < ((rd_L3 l1 x29_1).length : Int)) = true := decide_eq_true c22
                              clear c22
                              by_cases c23 : x35_2 < (x8_2.length : Int)
                              · rw [if_pos c23] at H
                                have c23b0 : decide (x35_2 < (x8_2.length : Int)) = true := decide_eq_true c23
                                clear c23
                                replace H := Option.bind_eq_some_iff.mp H
                                obtain ⟨t834, A240, H⟩ := H
                                replace H : (share_Sum.l1 k2 (x8_2.set (x35_2 : Int).toNat t834) l1 (l1.length : Int) x29_1 (rd_L3 l1 x29_1) ((rd_L3 l1 x29_1).length : Int) (wrap64 (x35_2 + 1)) a0_0 a0_1 a0_2) = some (r1, r2) := H
                                have A24 := Aside0.mk A240
                                clear A240
                                obtain ⟨y835, hy835⟩ : ∃ y_ : List Int, y_ = (x8_2.set (x35_2 : Int).toNat t834) := ⟨_, rfl⟩
                                replace H : (share_Sum.l1 k2 y835 l1 (l1.length : Int) x29_1 (rd_L3 l1 x29_1) ((rd_L3 l1 x29_1).length : Int) (wrap64 (x35_2 + 1)) a0_0 a0_1 a0_2) = some (r1, r2) := by first | (rw [hy835]; with_reducible exact H) | (have H2_ := (Option.bind_some _ _).symm.trans H; rw [hy835]; with_reducible exact H2_) | (have H2_ := (Option.bind_some _ _).symm.trans H; with_reducible exact H2_) | with_reducible exact H | (rw [hy835]; exact H) | exact H
                                have Ny835 := Aside0.mk hy835
                                clear hy835
                                have H' := Aside0.mk H
                                clear H
                                have p832 : 0 ≤ (x35_2 : Int) := of_decide_eq_true (by first | (with_reducible assumption) | assumption)
                                have q832 : x35_2 < ((rd_L3 l1 x29_1).length : Int) := of_decide_eq_true (by first | (with_reducible assumption) | assumption)
                                obtain ⟨ad832, e832, hx832_0⟩ := Kd.at_int HR831_0.out x35_2 p832 q832
                                cases e832
                                replace hx832_0 := (HB.out.cell (World.block_lt_of_cell? w _ hx832_0)).trans hx832_0
                                replace p832 := eq_true p832
                                replace q832 := eq_true q832
                                try go_wp2
                                have n0_ := Aside0.mk (Kd.R_drew HO_8.out)
                                have n1_ := Aside0.mk (blk_drew BK825.out)
                                have n2_ := Aside0.mk (below_drew1 HB.out)
                                clear HO_8
                                clear BK825
                                clear HB
                                have HO_8 := n0_
                                have BK825 := n1_
                                have HB := n2_
                                clear n0_ n1_ n2_
                                obtain ⟨Ao27, co27, eo27⟩ := Kd.R_slice HO_8.out
                                (first | subst eo27 | (injection eo27 with f1_ f2_ f3_; have f4_ := f1_.symm; have f5_ := f3_.symm; clear f1_ f2_ f3_; subst f4_; subst f5_))
                                have p833 : 0 ≤ (x35_2 : Int) := of_decide_eq_true (by first | (with_reducible assumption) | assumption)
                                have q833 : x35_2 < (x8_2.length : Int) := of_decide_eq_true (by first | (with_reducible assumption) | assumption)
                                obtain ⟨ad833, e833, hx833_0⟩ := Kd.at_int (Kd.R_reads' HO_8.out).2.2 x35_2 p833 q833
                                cases e833
                                replace p833 := eq_true p833
                                replace q833 := eq_true q833
                                refine start_ (n := 12) (S := fun w' => w'.cell? ⟨gb825, 0, none⟩ = some (.int .u64 a0_0) ∧ w'.cell? ⟨gb825, 1, none⟩ = some (.int .i64 a0_1) ∧ w'.cell? ⟨gb825, 2, none⟩ = some (.int .i64 a0_2) ∧ w'.cell? (ad833.add (x35_2).toNat) = some (.int .u64 (rd x8_2 x35_2))) (ds := [11]) #[false, false, false, false, false, false, false, false, false, false, false, false] (by kernel_rfl) rfl rfl ⟨(blk_cell BK825.out 0).trans rfl, (blk_cell BK825.out 1).trans rfl, (blk_cell BK825.out 2).trans rfl, hx833_0⟩ (fun hHeld => ?_); refine with_tabW share_Sum.tab14 share_Sum.bits14 (fun HT_ HW_ => ?_)
                                generalize wr.drew = w26 at HO_8 BK825 HB hx833_0 hHeld ⊢
                                refine pure_ (i := 0) (N := some 40) (v := ?_) (a' := ?_) #[true, false, false, false, false, false, false, false, false, false, false, false] rfl rfl (any_of HT_.out (by kernel_rfl)) (fun _ _ _ h => h) (Or.inl ⟨by rfl, ?_⟩) ?_ ?_
                                rotate_left
                                · intro w'
                                  go_simp
                                  with_reducible rfl
                                rotate_left
                                · simp only [Act.put, List.setIfInBounds_toArray, List.set_cons_zero, List.set_cons_succ, i64_w, i32_w]
                                  rfl
                                refine pure_ (i := 1) (N := some 41) (v := ?_) (a' := ?_) #[true, true, false, false, false, false, false, false, false, false, false, false] rfl rfl (any_of HT_.out (by kernel_rfl)) (fun _ _ _ h => h) (Or.inl ⟨by rfl, ?_⟩) ?_ ?_
                                rotate_left
                                · intro w'
                                  go_simp
                                  with_reducible rfl
                                rotate_left
                                · simp only [Act.put, List.setIfInBounds_toArray, List.set_cons_zero, List.set_cons_succ, i64_w, i32_w]
                                  rfl
                                refine pure_ (i := 2) (N := some 42) (v := ?_) (a' := ?_) #[true, true, true, false, false, false, false, false, false, false, false, false] rfl rfl (any_of HT_.out (by kernel_rfl)) (fun _ _ _ h => h) (Or.inl ⟨by rfl, ?_⟩) ?_ ?_
                                rotate_left
                                · intro w'
                                  go_simp
                                  with_reducible rfl
                                rotate_left
                                · simp only [Act.put, List.setIfInBounds_toArray, List.set_cons_zero, List.set_cons_succ, i64_w, i32_w]
                                  rfl
                                refine pure_ (i := 4) (N := some 44) (v := ?_) (a' := ?_) #[true, true, true, false, true, false, false, false, false, false, false, false] rfl rfl (any_of HT_.out (by kernel_rfl)) (fun _ _ _ h => h) (Or.inl ⟨by rfl, ?_⟩) ?_ ?_
                                rotate_left
                                · intro w'
                                  go_simp
                                  with_reducible rfl
                                rotate_left
                                · simp only [Act.put, List.setIfInBounds_toArray, List.set_cons_zero, List.set_cons_succ, i64_w, i32_w]
                                  rfl
                                refine pure_ (i := 5) (N := some 45) (v := ?_) (a' := ?_) #[true, true, true, false, true, true, false, false, false, false, false, false] rfl rfl (any_of HT_.out (by kernel_rfl)) (fun _ _ _ h => h) (Or.inl ⟨by rfl, ?_⟩) ?_ ?_
                                rotate_left
                                · intro w'
                                  go_simp
                                  with_reducible rfl
                                rotate_left
                                · simp only [Act.put, List.setIfInBounds_toArray, List.set_cons_zero, List.set_cons_succ, i64_w, i32_w]
                                  rfl
                                refine pure_ (i := 6) (N := some 46) (v := ?_) (a' := ?_) #[true, true, true, false, true, true, true, false, false, false, false, false] rfl rfl (any_of HT_.out (by kernel_rfl)) (fun _ _ _ h => h) (Or.inl ⟨by rfl, ?_⟩) ?_ ?_
                                rotate_left
                                · intro w'
                                  go_simp
                                  with_reducible rfl
                                rotate_left
                                · simp only [Act.put, List.setIfInBounds_toArray, List.set_cons_zero, List.set_cons_succ, i64_w, i32_w]
                                  rfl
                                refine pure_ (i := 8) (N := some 48) (v := ?_) (a' := ?_) #[true, true, true, false, true, true, true, false, true, false, false, false] rfl rfl (any_of HT_.out (by kernel_rfl)) (fun _ _ _ h => h) (Or.inl ⟨by rfl, ?_⟩) ?_ ?_
                                rotate_left
                                · intro w'
                                  go_simp
                                  with_reducible rfl
                                rotate_left
                                · simp only [Act.put, List.setIfInBounds_toArray, List.set_cons_zero, List.set_cons_succ, i64_w, i32_w]
                                  rfl
                                refine take_ (i := 3) (N := some 43) (v := ?_) (a' := ?_) #[true, true, true, true, true, true, true, false, true, false, false, false] rfl rfl (take_ofW HT_.out HW_.out (by kernel_rfl)) (fun _ _ _ h => h) (Or.inl ⟨by rfl, ?_⟩) hHeld ?_ ?_
                                rotate_left
                                · rintro w' ⟨s0, s1, s2, s3⟩
                                  go_simp
                                  with_reducible rfl
                                rotate_left
                                · simp only [Act.put, List.setIfInBounds_toArray, List.set_cons_zero, List.set_cons_succ, i64_w, i32_w]
                                  rfl
                                refine take_ (i := 7) (N := some 47) (v := ?_) (a' := ?_) #[true, true, true, true, true, true, true, true, true, false, false, false] rfl rfl (take_ofW HT_.out HW_.out (by kernel_rfl)) (fun _ _ _ h => h) (Or.inl ⟨by rfl, ?_⟩) hHeld ?_ ?_
                                rotate_left
                                · rintro w' ⟨s0, s1, s2, s3⟩
                                  go_simp
                                  with_reducible rfl
                                rotate_left
                                · simp only [Act.put, List.setIfInBounds_toArray, List.set_cons_zero, List.set_cons_succ, i64_w, i32_w]
                                  rfl
                                refine one_ (i := 9) (N := some 49) #[true, true, true, true, true, true, true, true, true, true, false, false] rfl rfl (one_of HT_.out (by kernel_rfl)) (by decide) (fun K hK => ?_)
                                refine goes_ Try.func147 (by kernel_rfl) rfl #[.int .u64 a0_0, .int .u64 (rd x8_2 x35_2), .int .u64 (rd (rd_L3 l1 x29_1) x35_2)] (by rfl) rfl rfl (by (try simp only [List.map_toArray, List.map_cons, List.map_nil]); first | done | rfl | (simp only [List.length_drop, List.length_take]; rfl)) ?_
                                with_reducible refine (field_Plus.calls a0_0 (rd x8_2 x35_2) (rd (rd_L3 l1 x29_1) x35_2) t834 _ A24.out).mono ?_
                                rintro e w' ⟨rfl, ⟨nd, rfl⟩⟩
                                refine ⟨_, rfl, ?_⟩
                                have p25 : 0 ≤ (x35_2 : Int) := of_decide_eq_true (by first | (with_reducible assumption) | assumption)
                                have q25 : (x35_2 : Int) < ((x8_2.length : Int) : Int) := of_decide_eq_true (by first | (with_reducible assumption) | assumption)
                                obtain ⟨go25, co25, eo25, gb25, gl25, cl25, HG25⟩ := Kd.R_form HO_8.out (by omega)
                                (first | cases eo25 | (injection eo25 with ea_ en_ ec_; (first | subst ea_ | (injection ea_ with ea_; subst ea_)); subst ec_; clear en_))
                                have GB25 := Aside0.mk gb25
                                have GG25 := Aside0.mk HG25
                                clear gb25 gl25 HG25
                                (first | simp only [add_plain] at hx833_0 | skip)
                                obtain ⟨hx25_0, hf25_0⟩ := Kd.R_celln 0 HO_8.out (x35_2 : Int) p25 q25
                                replace p25 := eq_true p25
                                replace q25 := eq_true q25
                                have HP28 := Kd.R_putn HO_8.out (x35_2 : Int) t834
                                rw [← Ny835.out] at HP28
                                have HQ28 := Aside0.mk HP28
                                clear HP28
                                refine hK.out _ _ ⟨(blk_cell BK825.out 0).trans rfl, (blk_cell BK825.out 1).trans rfl, (blk_cell BK825.out 2).trans rfl, hHeld.2.2.2⟩ (fun hHeld => ?_)
                                clear hK K
                                refine norm_ (a' := ?_) ?_ ?_
                                rotate_left
                                · show Act.put _ (some 49) _ = _
                                  simp only [Act.put, List.setIfInBounds_toArray, List.set_cons_zero, List.set_cons_succ, i64_w, i32_w]
                                  rfl
                                refine pure_ (i := 10) (N := some 50) (v := ?_) (a' := ?_) #[true, true, true, true, true, true, true, true, true, true, true, false] rfl rfl (any_of HT_.out (by kernel_rfl)) (fun _ _ _ h => h) (Or.inl ⟨by rfl, ?_⟩) ?_ ?_
                                rotate_left
                                · intro w'
                                  go_simp
                                  with_reducible rfl
                                rotate_left
                                · simp only [Act.put, List.setIfInBounds_toArray, List.set_cons_zero, List.set_cons_succ, i64_w, i32_w]
                                  rfl
                                refine last_ (i := 11) (N := none) #[true, true, true, true, true, true, true, true, true, true, true, true] rfl rfl (one_of HT_.out (by kernel_rfl)) (by decide) (fun K hK => ?_)
                                refine skip_ (w1 := ?_) (by rfl) rfl ?_ ?_
                                rotate_left
                                · go_simp
                                  rfl
                                refine hK.out _ _ ?_
                                clear hK K
                                refine done_ (done_of HT_.out (by kernel_rfl)) ?_
                                try go_wp2
                                go_roundg k2
                                case measure => have := HK1.out; have := HK2.out; omega
                                case rel => exact ⟨(y835), (wrap64 (x35_2 + 1)), (by first | rfl | (simp; done) | (simp [*]; done)), H', ⟨by have := HK1.out; have := HK2.out; omega⟩, ⟨by (with_reducible repeat (first | apply Kd.R_alloc | apply Kd.R_drewN | apply Kd.R_drew)); exact HQ28.out⟩, ⟨by (with_reducible repeat (first | refine blk_drewN ?_ _ | refine blk_drew ?_ | refine blk_alloc ?_ _)); refine blk_far ?_ (by have h_ := Kd.R_ne HO_8.out BK825.out (by decide); intro e_; exact h_ (by rw [e_]; rfl)) _; (with_reducible repeat (first | refine blk_drewN ?_ _ | refine blk_drew ?_ | refine blk_alloc ?_ _)); exact BK825.out⟩, ⟨by repeat (first | (with_reducible first | exact HB.out | apply below_alloc | apply pw_below_drewN | apply below_drew1 | refine below_set ?_ GB25.out | refine below_set ?_ GE825.out) | exact HB.out)⟩⟩
                              · rw [if_neg c23] at H
                                exact absurd H (by simp)
                            · rw [if_neg c22] at H
                              exact absurd H (by simp)
                          · rw [if_neg c21] at H
                            exact absurd H (by simp)
                        · rw [if_neg c20] at H
                          have c20b0 : decide (x35_2 < ((rd_L3 l1 x29_1).length : Int)) = false := decide_eq_false c20
                          clear c20
                          have H' := Aside0.mk H
                          clear H
                          go_wp2
                          go_roundg k2
                          case measure => have := HK1.out; have := HK2.out; omega
                          case rel => exact ⟨(x8_2), (wrap64 (x29_1 + 1)), (by first | rfl | (simp; done) | (simp [*]; done)), H', ⟨by have := HK1.out; have := HK2.out; omega⟩, ⟨by (with_reducible repeat (first | apply Kd.R_alloc | apply Kd.R_drewN | apply Kd.R_drew)); exact HO_8.out⟩, ⟨by (with_reducible repeat (first | refine blk_drewN ?_ _ | refine blk_drew ?_ | refine blk_alloc ?_ _)); exact BK825.out⟩, ⟨by repeat (first | (with_reducible first | exact HB.out | apply below_alloc | apply pw_below_drewN | apply below_drew1 | refine below_set ?_ GE825.out) | exact HB.out)⟩⟩
                  · rw [if_neg c19] at H
                    exact absurd H (by simp)
                · rw [if_neg c18] at H
                  exact absurd H (by simp)
              · rw [if_neg c17] at H
                have c17b0 : decide (x29_1 < (l1.length : Int)) = false := decide_eq_false c17
                clear c17
                simp only [Option.some.injEq, Prod.mk.injEq] at H
                obtain ⟨rfl, rfl⟩ := H
                go_wp2
                go_ret2
                exact ⟨_, by first | rfl | (simp [errW_none, errW_some] <;> rfl) | (simp [*, errW_none, errW_some] <;> rfl), by (with_reducible repeat (first | apply Kd.R_alloc | apply Kd.R_drewN | apply Kd.R_drew)); exact HO_8.out, by repeat (first | (with_reducible first | exact HB.out | apply below_alloc | apply pw_below_drewN | apply below_drew1 | refine below_set ?_ GE825.out) | exact HB.out)⟩
        · rw [if_neg c8] at H
          exact absurd H (by simp)
      · rw [if_neg c7] at H
        exact absurd H (by simp)
    · rw [if_neg c6] at H
      have c6b0 : (t827 == 0) = false := beq_eq_false_iff_ne.mpr c6
      have c6b1 : (t827 != 0) = true := bne_iff_ne.mpr c6
      simp only [Option.some.injEq, Prod.mk.injEq] at H
      obtain ⟨rfl, rfl⟩ := H
      go_enter Try.func78, Try.ntmps78
      go_wp2_with (first | ((with_reducible refine gate_dst (N := 2) rfl ?_); refine box_event ?hg (N := 2) ?hd (cs := #[.int .u64 a0_0, .int .i64 a0_1, .int .i64 a0_2]) (t := 24) ?hr ?_; (case hd => rfl); (case hg => rfl); (case hr => first | (go_simp; done) | (go_simp; rfl)); intro gb825 hg w29 hbox hb; have n0_ := Aside0.mk (below_step (by repeat (first | (with_reducible first | exact HB.out | apply below_alloc | apply pw_below_drewN | apply below_drew1) | exact HB.out)) hb); have n1_ := Aside0.mk (hbox); have n2_ := Aside0.mk ((by rw [hg]; exact (below_size (by repeat (first | (with_reducible first | exact HB.out | apply below_alloc | apply pw_below_drewN | apply below_drew1) | exact HB.out))) : w.heap.size ≤ gb825)); have n3_ := Aside0.mk ((by rw [hg]; exact (below_size (by repeat (first | (with_reducible first | exact HB.out | apply below_alloc | apply pw_below_drewN | apply below_drew1) | exact HB.out))) : w.heap.size ≤ gb825)); clear HB; have HB := n0_; have BK825 := n1_; have GW825 := n2_; have GE825 := n3_; clear n0_ n1_ n2_ n3_; clear hb hbox hg; have hcz30_0 : w29.cell? ⟨gb825, 0, none⟩ = some (.int .u64 a0_0) := (blk_cell BK825.out 0).trans rfl; have hcz30_1 : w29.cell? ⟨gb825, 1, none⟩ = some (.int .i64 a0_1) := (blk_cell BK825.out 1).trans rfl; have hcz30_2 : w29.cell? ⟨gb825, 2, none⟩ = some (.int .i64 a0_2) := (blk_cell BK825.out 2).trans rfl; have hfz30_0 := blk_frozen BK825.out 0; have hfz30_1 := blk_frozen BK825.out 1; have hfz30_2 := blk_frozen BK825.out 2) | ((with_reducible refine gate_callee (f := 64) rfl ?_); refine goesL_ (some 14) rfl rfl Try.func64 (by kernel_rfl) rfl #[.agg #[.int .u64 a0_0, .int .i64 a0_1, .int .i64 a0_2]] rfl (by (try simp only [List.map_toArray, List.map_cons, List.map_nil]); first | done | rfl | (simp only [List.length_drop, List.length_take]; rfl)) ?_; (with_reducible refine (share_Setup.calls k a0_0 a0_1 a0_2 t826 _ A3.out).mono ?_); rintro e w31 ⟨rfl, hb⟩; refine ⟨_, rfl, ?_⟩; have n0_ := Aside0.mk (blk_below (g := gb825) (o := .cells #[.int .u64 a0_0, .int .i64 a0_1, .int .i64 a0_2] 24 (0, 0)) (by (with_reducible repeat (first | refine blk_drewN ?_ _ | refine blk_drew ?_ | refine blk_alloc ?_ _)); exact BK825.out) hb); have n1_ := Aside0.mk (below_step (by repeat (first | (with_reducible first | exact HB.out | apply below_alloc | apply pw_below_drewN | apply below_drew1 | refine below_set ?_ GE825.out) | exact HB.out)) hb); clear BK825; clear HB; have BK825 := n0_; have HB := n1_; clear n0_ n1_; (try clear hb); (try clear hb2); (try clear hk); (try clear hi); have hcz32_0 : w31.cell? ⟨gb825, 0, none⟩ = some (.int .u64 a0_0) := (blk_cell BK825.out 0).trans rfl; have hcz32_1 : w31.cell? ⟨gb825, 1, none⟩ = some (.int .i64 a0_1) := (blk_cell BK825.out 1).trans rfl; have hcz32_2 : w31.cell? ⟨gb825, 2, none⟩ = some (.int .i64 a0_2) := (blk_cell BK825.out 2).trans rfl; have hfz32_0 := blk_frozen BK825.out 0; have hfz32_1 := blk_frozen BK825.out 1; have hfz32_2 := blk_frozen BK825.out 2) | ((with_reducible refine gate_callee (f := 146) rfl ?_); refine goesL_ (some 20) rfl rfl Try.func146 (by kernel_rfl) rfl #[.agg #[.int .u64 a0_0, .int .i64 a0_1, .int .i64 a0_2], .slice A1 l1.length c1] rfl (by (try simp only [List.map_toArray, List.map_cons, List.map_nil]); first | done | rfl | (simp only [List.length_drop, List.length_take]; rfl)) ?_; (with_reducible refine (share_are.calls k a0_0 a0_1 a0_2 _ _ l1 t827 _ ?side1 ?side2 A5.out).mono ?_); (case side1 => repeat (first | exact (Kd.C_below HR1.out HB.out) | (with_reducible refine Kd.C_alloc ?_ _) | (with_reducible refine Kd.C_drewN ?_ _) | (with_reducible refine Kd.C_drew ?_))); (case side2 => exact HC1.out); rintro e w33 ⟨rfl, hb⟩; refine ⟨_, rfl, ?_⟩; have n0_ := Aside0.mk (blk_below (g := gb825) (o := .cells #[.int .u64 a0_0, .int .i64 a0_1, .int .i64 a0_2] 24 (0, 0)) (by (with_reducible repeat (first | refine blk_drewN ?_ _ | refine blk_drew ?_ | refine blk_alloc ?_ _)); exact BK825.out) hb); have n1_ := Aside0.mk (below_step (by repeat (first | (with_reducible first | exact HB.out | apply below_alloc | apply pw_below_drewN | apply below_drew1 | refine below_set ?_ GE825.out) | exact HB.out)) hb); clear BK825; clear HB; have BK825 := n0_; have HB := n1_; clear n0_ n1_; (try clear hb); (try clear hb2); (try clear hk); (try clear hi)))
      go_ret2
      exact ⟨_, by first | rfl | (simp [errW_none, errW_some] <;> rfl) | (simp [*, errW_none, errW_some] <;> rfl), by first | exact Kd.R_nil _ _ _ _ _ | exact Kd.N_nil _ _ _ _ _ | exact Kd.V_nil _ _ _ _ _ | exact Kd.Q_nil _ _ _ _ _ | exact Kd.S_nil _ _ _ _ _, by repeat (first | (with_reducible first | exact HB.out | apply below_alloc | apply pw_below_drewN | apply below_drew1 | refine below_set ?_ GE825.out) | exact HB.out)⟩
  · rw [if_neg c4] at H
    have c4b0 : (t826 == 0) = false := beq_eq_false_iff_ne.mpr c4
    have c4b1 : (t826 != 0) = true := bne_iff_ne.mpr c4
    simp only [Option.some.injEq, Prod.mk.injEq] at H
    obtain ⟨rfl, rfl⟩ := H
    go_enter Try.func78, Try.ntmps78
    go_wp2_with (first | ((with_reducible refine gate_dst (N := 2) rfl ?_); refine box_event ?hg (N := 2) ?hd (cs := #[.int .u64 a0_0, .int .i64 a0_1, .int .i64 a0_2]) (t := 24) ?hr ?_; (case hd => rfl); (case hg => rfl); (case hr => first | (go_simp; done) | (go_simp; rfl)); intro gb825 hg w34 hbox hb; have n0_ := Aside0.mk (below_step (by repeat (first | (with_reducible first | exact HB.out | apply below_alloc | apply pw_below_drewN | apply below_drew1) | exact HB.out)) hb); have n1_ := Aside0.mk (hbox); have n2_ := Aside0.mk ((by rw [hg]; exact (below_size (by repeat (first | (with_reducible first | exact HB.out | apply below_alloc | apply pw_below_drewN | apply below_drew1) | exact HB.out))) : w.heap.size ≤ gb825)); have n3_ := Aside0.mk ((by rw [hg]; exact (below_size (by repeat (first | (with_reducible first | exact HB.out | apply below_alloc | apply pw_below_drewN | apply below_drew1) | exact HB.out))) : w.heap.size ≤ gb825)); clear HB; have HB := n0_; have BK825 := n1_; have GW825 := n2_; have GE825 := n3_; clear n0_ n1_ n2_ n3_; clear hb hbox hg; have hcz35_0 : w34.cell? ⟨gb825, 0, none⟩ = some (.int .u64 a0_0) := (blk_cell BK825.out 0).trans rfl; have hcz35_1 : w34.cell? ⟨gb825, 1, none⟩ = some (.int .i64 a0_1) := (blk_cell BK825.out 1).trans rfl; have hcz35_2 : w34.cell? ⟨gb825, 2, none⟩ = some (.int .i64 a0_2) := (blk_cell BK825.out 2).trans rfl; have hfz35_0 := blk_frozen BK825.out 0; have hfz35_1 := blk_frozen BK825.out 1; have hfz35_2 := blk_frozen BK825.out 2) | ((with_reducible refine gate_callee (f := 64) rfl ?_); refine goesL_ (some 14) rfl rfl Try.func64 (by kernel_rfl) rfl #[.agg #[.int .u64 a0_0, .int .i64 a0_1, .int .i64 a0_2]] rfl (by (try simp only [List.map_toArray, List.map_cons, List.map_nil]); first | done | rfl | (simp only [List.length_drop, List.length_take]; rfl)) ?_; (with_reducible refine (share_Setup.calls k a0_0 a0_1 a0_2 t826 _ A3.out).mono ?_); rintro e w36 ⟨rfl, hb⟩; refine ⟨_, rfl, ?_⟩; have n0_ := Aside0.mk (blk_below (g := gb825) (o := .cells #[.int .u64 a0_0, .int .i64 a0_1, .int .i64 a0_2] 24 (0, 0)) (by (with_reducible repeat (first | refine blk_drewN ?_ _ | refine blk_drew ?_ | refine blk_alloc ?_ _)); exact BK825.out) hb); have n1_ := Aside0.mk (below_step (by repeat (first | (with_reducible first | exact HB.out | apply below_alloc | apply pw_below_drewN | apply below_drew1 | refine below_set ?_ GE825.out) | exact HB.out)) hb); clear BK825; clear HB; have BK825 := n0_; have HB := n1_; clear n0_ n1_; (try clear hb); (try clear hb2); (try clear hk); (try clear hi)))
    go_ret2
    exact ⟨_, by first | rfl | (simp [errW_none, errW_some] <;> rfl) | (simp [*, errW_none, errW_some] <;> rfl), by first | exact Kd.R_nil _ _ _ _ _ | exact Kd.N_nil _ _ _ _ _ | exact Kd.V_nil _ _ _ _ _ | exact Kd.Q_nil _ _ _ _ _ | exact Kd.S_nil _ _ _ _ _, by repeat (first | (with_reducible first | exact HB.out | apply below_alloc | apply pw_below_drewN | apply below_drew1 | refine below_set ?_ GE825.out) | exact HB.out)⟩

/-! ### juntoref04_All: function 79 -/
def juntoref04_All.f (k : Nat) (a0_0 : Int) (a0_1 : Int) (a0_2 : Int) (l1 : List Int) : Option (Int) := if (l1.length : Int) = a0_1 then ((juntoref01_Within.f k a0_0 l1).bind fun t837 => (some t837)) else (some 2)
theorem juntoref04_All.mono : ∀ a0 a1 a2 a3 k, LeO (juntoref04_All.f k a0 a1 a2 a3) (juntoref04_All.f (k + 1) a0 a1 a2 a3) := by
  intro a0 a1 a2 a3 k
  unfold juntoref04_All.f
  repeat' first
      | (with_reducible exact juntoref01_Within.mono _ _ _)
      | (with_reducible exact LeO.refl _)
      | (with_reducible exact LeO.none _)
      | (with_reducible refine LeO.ite ?_ ?_)
      | (with_reducible refine LeO.bind ?_ (fun _ => ?_))
      | exact juntoref01_Within.mono _ _ _
      | exact LeO.none _
      | refine LeO.ite ?_ ?_
      | refine LeO.bind ?_ (fun _ => ?_)
set_option maxHeartbeats 8000000 in
set_option maxRecDepth 100000 in
theorem juntoref04_All.calls (k : Nat) (a0_0 : Int) (a0_1 : Int) (a0_2 : Int) (A1 : Option Addr) (c1 : Nat) (l1 : List Int) (r : Int) (w : World) (hr1 : Kd.C (Kd.int .u64) w A1 l1.length l1) (hc1 : l1.length ≤ c1) (h : juntoref04_All.f k a0_0 a0_1 a0_2 l1 = some r) :
    Calls Try.prog 79 #[.agg #[.int .u64 a0_0, .int .i64 a0_1, .int .i64 a0_2], .slice A1 l1.length c1] w fun e w' => e = .returned (.int .i64 r) ∧ Below w.heap.size w w' := by
  have hu24 := Try.underlying24
  have HR1 := Aside0.mk hr1
  have HC1 := Aside0.mk hc1
  clear hr1 hc1
  have HB := Aside0.mk (Below.refl w.heap.size w)
  have H : (if (l1.length : Int) = a0_1 then ((juntoref01_Within.f k a0_0 l1).bind fun t837 => (some t837)) else (some 2)) = some r := h
  clear h
  by_cases c3 : (l1.length : Int) = a0_1
  · rw [if_pos c3] at H
    have c3b0 : ((l1.length : Int) == a0_1) = true := beq_iff_eq.mpr c3
    have c3b1 : ((l1.length : Int) != a0_1) = false := bne_eq_false_iff_eq.mpr c3
    clear c3
    replace H := Option.bind_eq_some_iff.mp H
    obtain ⟨t837, A40, H⟩ := H
    replace H : (some t837) = some r := H
    have A4 := Aside0.mk A40
    clear A40
    obtain rfl := Option.some.inj H
    go_enter Try.func79, Try.ntmps79
    go_wp2_with (first | ((with_reducible refine gate_dst (N := 2) rfl ?_); refine box_event ?hg (N := 2) ?hd (cs := #[.int .u64 a0_0, .int .i64 a0_1, .int .i64 a0_2]) (t := 24) ?hr ?_; (case hd => rfl); (case hg => rfl); (case hr => first | (go_simp; done) | (go_simp; rfl)); intro gb836 hg w5 hbox hb; have n0_ := Aside0.mk (below_step (by repeat (first | (with_reducible first | exact HB.out | apply below_alloc | apply pw_below_drewN | apply below_drew1) | exact HB.out)) hb); have n1_ := Aside0.mk (hbox); have n2_ := Aside0.mk ((by rw [hg]; exact (below_size (by repeat (first | (with_reducible first | exact HB.out | apply below_alloc | apply pw_below_drewN | apply below_drew1) | exact HB.out))) : w.heap.size ≤ gb836)); have n3_ := Aside0.mk ((by rw [hg]; exact (below_size (by repeat (first | (with_reducible first | exact HB.out | apply below_alloc | apply pw_below_drewN | apply below_drew1) | exact HB.out))) : w.heap.size ≤ gb836)); clear HB; have HB := n0_; have BK836 := n1_; have GW836 := n2_; have GE836 := n3_; clear n0_ n1_ n2_ n3_; clear hb hbox hg; have hcz6_0 : w5.cell? ⟨gb836, 0, none⟩ = some (.int .u64 a0_0) := (blk_cell BK836.out 0).trans rfl; have hcz6_1 : w5.cell? ⟨gb836, 1, none⟩ = some (.int .i64 a0_1) := (blk_cell BK836.out 1).trans rfl; have hcz6_2 : w5.cell? ⟨gb836, 2, none⟩ = some (.int .i64 a0_2) := (blk_cell BK836.out 2).trans rfl; have hfz6_0 := blk_frozen BK836.out 0; have hfz6_1 := blk_frozen BK836.out 1; have hfz6_2 := blk_frozen BK836.out 2) | ((with_reducible refine gate_callee (f := 54) rfl ?_); refine goesL_ (some 13) rfl rfl Try.func54 (by kernel_rfl) rfl #[.int .u64 a0_0, .slice A1 l1.length c1] rfl (by (try simp only [List.map_toArray, List.map_cons, List.map_nil]); first | done | rfl | (simp only [List.length_drop, List.length_take]; rfl)) ?_; (with_reducible refine (juntoref01_Within.calls k a0_0 _ _ l1 t837 _ ?side1 ?side2 A4.out).mono ?_); (case side1 => repeat (first | exact (Kd.C_below HR1.out HB.out) | (with_reducible refine Kd.C_alloc ?_ _) | (with_reducible refine Kd.C_drewN ?_ _) | (with_reducible refine Kd.C_drew ?_))); (case side2 => exact HC1.out); rintro e w' ⟨rfl, ⟨nd, rfl⟩⟩; refine ⟨_, rfl, ?_⟩))
    go_ret
    exact ⟨by first | rfl | (simp [errW_none, errW_some] <;> rfl) | (simp [*, errW_none, errW_some] <;> rfl), by repeat (first | (with_reducible first | exact HB.out | apply below_alloc | apply pw_below_drewN | apply below_drew1 | refine below_set ?_ GE836.out) | exact HB.out)⟩
  · rw [if_neg c3] at H
    have c3b0 : ((l1.length : Int) == a0_1) = false := beq_eq_false_iff_ne.mpr c3
    have c3b1 : ((l1.length : Int) != a0_1) = true := bne_iff_ne.mpr c3
    obtain rfl := Option.some.inj H
    go_enter Try.func79, Try.ntmps79
    go_wp2_with (first | ((with_reducible refine gate_dst (N := 2) rfl ?_); refine box_event ?hg (N := 2) ?hd (cs := #[.int .u64 a0_0, .int .i64 a0_1, .int .i64 a0_2]) (t := 24) ?hr ?_; (case hd => rfl); (case hg => rfl); (case hr => first | (go_simp; done) | (go_simp; rfl)); intro gb836 hg w7 hbox hb; have n0_ := Aside0.mk (below_step (by repeat (first | (with_reducible first | exact HB.out | apply below_alloc | apply pw_below_drewN | apply below_drew1) | exact HB.out)) hb); have n1_ := Aside0.mk (hbox); have n2_ := Aside0.mk ((by rw [hg]; exact (below_size (by repeat (first | (with_reducible first | exact HB.out | apply below_alloc | apply pw_below_drewN | apply below_drew1) | exact HB.out))) : w.heap.size ≤ gb836)); have n3_ := Aside0.mk ((by rw [hg]; exact (below_size (by repeat (first | (with_reducible first | exact HB.out | apply below_alloc | apply pw_below_drewN | apply below_drew1) | exact HB.out))) : w.heap.size ≤ gb836)); clear HB; have HB := n0_; have BK836 := n1_; have GW836 := n2_; have GE836 := n3_; clear n0_ n1_ n2_ n3_; clear hb hbox hg; have hcz8_0 : w7.cell? ⟨gb836, 0, none⟩ = some (.int .u64 a0_0) := (blk_cell BK836.out 0).trans rfl; have hcz8_1 : w7.cell? ⟨gb836, 1, none⟩ = some (.int .i64 a0_1) := (blk_cell BK836.out 1).trans rfl; have hcz8_2 : w7.cell? ⟨gb836, 2, none⟩ = some (.int .i64 a0_2) := (blk_cell BK836.out 2).trans rfl; have hfz8_0 := blk_frozen BK836.out 0; have hfz8_1 := blk_frozen BK836.out 1; have hfz8_2 := blk_frozen BK836.out 2))
    go_ret
    exact ⟨by first | rfl | (simp [errW_none, errW_some] <;> rfl) | (simp [*, errW_none, errW_some] <;> rfl), by repeat (first | (with_reducible first | exact HB.out | apply below_alloc | apply pw_below_drewN | apply below_drew1 | refine below_set ?_ GE836.out) | exact HB.out)⟩

end Go.Proofs.Ytjjnfobeeflnhaa.J

/- What Go functions of the program compute, as plain Lean functions, and that the machine comes to just these answers (written by a program for this seat). -/
namespace Go.Proofs.Ytjjnfobeeflnhaa.J
open Go.RowKit Go.Proofs.YtjjnfobeeflnhaaW.PrintWords Go.Proofs.YtjjnfobeeflnhaaW.PrintLast Go.Proofs.YtjjnfobeeflnhaaW.PrintMore
attribute [local go_sem] max2_int min2_int max_two min_two max_three min_three max_four min_four   -- for this text's walks alone
set_option linter.unusedVariables false
set_option linter.unusedSimpArgs false

/-! ### juntoref04_Sum: function 80 -/
mutual
def juntoref04_Sum.l0 : Nat → List Int → List (List Int) → Int → Int → Int → Int → Int → Option (List Int)
  | 0, _, _, _, _, _, _, _ => none
  | k + 1, x5, x12, x13, x14, x839000, x839001, x839002 => if x14 < x13 then (if 0 ≤ x14 then (if x14 < (x12.length : Int) then (juntoref04_Sum.l1 k x5 (rd_L3 x12 x14) x12 x13 x14 (x5.length : Int) 0 x839000 x839001 x839002) else (none)) else (none)) else (some x5)
def juntoref04_Sum.l1 : Nat → List Int → List Int → List (List Int) → Int → Int → Int → Int → Int → Int → Int → Option (List Int)
  | 0, _, _, _, _, _, _, _, _, _, _ => none
  | k + 1, x5, x7, x12, x13, x14, x19, x20, x839000, x839001, x839002 => if x20 < x19 then (if 0 ≤ x20 then (if x20 < (x5.length : Int) then (if x20 < (x7.length : Int) then ((juntoref01_Add.f x839000 (rd x5 x20) (rd x7 x20)).bind fun t845 => (juntoref04_Sum.l1 k (x5.set (x20 : Int).toNat t845) x7 x12 x13 x14 x19 (wrap64 (x20 + 1)) x839000 x839001 x839002)) else (none)) else (none)) else (none)) else (juntoref04_Sum.l0 k x5 x12 x13 (wrap64 (x14 + 1)) x839000 x839001 x839002)
end
def juntoref04_Sum.f (k : Nat) (a0_0 : Int) (a0_1 : Int) (a0_2 : Int) (l1 : List (List Int)) : Option (List Int) := if 0 ≤ a0_1 then (if (a0_1 : Int).toNat ≤ 35184372088832 then (juntoref04_Sum.l0 k (List.replicate (a0_1 : Int).toNat 0) l1 (l1.length : Int) 0 a0_0 a0_1 a0_2) else (none)) else (none)
theorem juntoref04_Sum.mono_l : ∀ k, (∀ y0 y1 y2 y3 y4 y5 y6, LeO (juntoref04_Sum.l0 k y0 y1 y2 y3 y4 y5 y6) (juntoref04_Sum.l0 (k + 1) y0 y1 y2 y3 y4 y5 y6)) ∧ (∀ y0 y1 y2 y3 y4 y5 y6 y7 y8 y9, LeO (juntoref04_Sum.l1 k y0 y1 y2 y3 y4 y5 y6 y7 y8 y9) (juntoref04_Sum.l1 (k + 1) y0 y1 y2 y3 y4 y5 y6 y7 y8 y9))
  | 0 => ⟨fun _ _ _ _ _ _ _ r h => by simp [juntoref04_Sum.l0] at h, fun _ _ _ _ _ _ _ _ _ _ r h => by simp [juntoref04_Sum.l1] at h⟩
  | k + 1 => by
    obtain ⟨ih0, ih1⟩ := juntoref04_Sum.mono_l k
    refine ⟨?_, ?_⟩
    · intro y0 y1 y2 y3 y4 y5 y6
      unfold juntoref04_Sum.l0
      repeat' first
      | (with_reducible exact ih0 _ _ _ _ _ _ _)
      | (with_reducible exact ih1 _ _ _ _ _ _ _ _ _ _)
      | (with_reducible exact LeO.refl _)
      | (with_reducible exact LeO.none _)
      | (with_reducible refine LeO.ite ?_ ?_)
      | (with_reducible refine LeO.bind ?_ (fun _ => ?_))
      | exact ih0 _ _ _ _ _ _ _
      | exact ih1 _ _ _ _ _ _ _ _ _ _
      | exact LeO.none _
      | refine LeO.ite ?_ ?_
      | refine LeO.bind ?_ (fun _ => ?_)
    · intro y0 y1 y2 y3 y4 y5 y6 y7 y8 y9
      unfold juntoref04_Sum.l1
      repeat' first
      | (with_reducible exact ih0 _ _ _ _ _ _ _)
      | (with_reducible exact ih1 _ _ _ _ _ _ _ _ _ _)
      | (with_reducible exact LeO.refl _)
      | (with_reducible exact LeO.none _)
      | (with_reducible refine LeO.ite ?_ ?_)
      | (with_reducible refine LeO.bind ?_ (fun _ => ?_))
      | exact ih0 _ _ _ _ _ _ _
      | exact ih1 _ _ _ _ _ _ _ _ _ _
      | exact LeO.none _
      | refine LeO.ite ?_ ?_
      | refine LeO.bind ?_ (fun _ => ?_)
theorem juntoref04_Sum.mono : ∀ a0 a1 a2 a3 k, LeO (juntoref04_Sum.f k a0 a1 a2 a3) (juntoref04_Sum.f (k + 1) a0 a1 a2 a3) := by
  intro a0 a1 a2 a3 k
  obtain ⟨ih0, ih1⟩ := juntoref04_Sum.mono_l k
  unfold juntoref04_Sum.f
  repeat' first
      | (with_reducible exact ih0 _ _ _ _ _ _ _)
      | (with_reducible exact ih1 _ _ _ _ _ _ _ _ _ _)
      | (with_reducible exact LeO.refl _)
      | (with_reducible exact LeO.none _)
      | (with_reducible refine LeO.ite ?_ ?_)
      | (with_reducible refine LeO.bind ?_ (fun _ => ?_))
      | exact ih0 _ _ _ _ _ _ _
      | exact ih1 _ _ _ _ _ _ _ _ _ _
      | exact LeO.none _
      | refine LeO.ite ?_ ?_
      | refine LeO.bind ?_ (fun _ => ?_)
def juntoref04_Sum.T8 : Bool × List (List Nat × List Nat) := (true, [([], []), ([], []), ([], []), ([2], [2]), ([], []), ([], []), ([4, 5], [4, 5]), ([6], [6]), ([], []), ([], []), ([8, 9], [8, 9]), ([10], [10]), ([3, 7, 11], [3, 7, 11]), ([0, 1, 0, 1, 2, 3, 4, 5, 6, 7, 8, 9, 10, 11, 12], [0, 1]), ([13, 12, 12, 0, 1, 2, 3, 4, 5, 6, 7, 8, 9, 10, 11, 12], [12, 13])])
def juntoref04_Sum.B8 : List Nat := [0, 0, 0, 4, 0, 0, 48, 112, 0, 0, 768, 1792, 4092, 8191, 16383]
theorem juntoref04_Sum.tab8 : rtab .any (opsOf Try.f80 8) = juntoref04_Sum.T8 := by kernel_rfl
theorem juntoref04_Sum.bits8 : waitsOk juntoref04_Sum.T8.2 juntoref04_Sum.B8 = true := by kernel_rfl
set_option maxHeartbeats 8000000 in
set_option maxRecDepth 100000 in
theorem juntoref04_Sum.calls (k : Nat) (a0_0 : Int) (a0_1 : Int) (a0_2 : Int) (A1 : Option Addr) (c1 : Nat) (l1 : List (List Int)) (r : List Int) (w : World) (hr1 : Kd.C (Kd.slice 22 (Kd.int .u64)) w A1 l1.length l1) (hc1 : l1.length ≤ c1) (h : juntoref04_Sum.f k a0_0 a0_1 a0_2 l1 = some r) :
    Calls Try.prog 80 #[.agg #[.int .u64 a0_0, .int .i64 a0_1, .int .i64 a0_2], .slice A1 l1.length c1] w fun e w' => ∃ v0_ : Value, e = .returned (v0_) ∧ Kd.R (Kd.int .u64) 22 w' w.heap.size (fun _ => True) v0_ r ∧ Below w.heap.size w w' := by
  have hu24 := Try.underlying24
  have HR1 := Aside0.mk hr1
  have HC1 := Aside0.mk hc1
  clear hr1 hc1
  have HB := Aside0.mk (Below.refl w.heap.size w)
  have H : (if 0 ≤ a0_1 then (if (a0_1 : Int).toNat ≤ 35184372088832 then (juntoref04_Sum.l0 k (List.replicate (a0_1 : Int).toNat 0) l1 (l1.length : Int) 0 a0_0 a0_1 a0_2) else (none)) else (none)) = some r := h
  clear h
  by_cases c3 : 0 ≤ a0_1
  · rw [if_pos c3] at H
    have c3b0 := eq_true c3
    have c3b1 : decide (0 ≤ a0_1) = true := decide_eq_true c3
    clear c3
    by_cases c4 : (a0_1 : Int).toNat ≤ 35184372088832
    · rw [if_pos c4] at H
      have c4b0 := eq_true c4
      have c4b1 : decide ((a0_1 : Int).toNat ≤ 35184372088832) = true := decide_eq_true c4
      clear c4
      obtain ⟨y839, hy839⟩ : ∃ y_ : List Int, y_ = (List.replicate (a0_1 : Int).toNat 0) := ⟨_, rfl⟩
      replace H : (juntoref04_Sum.l0 k y839 l1 (l1.length : Int) 0 a0_0 a0_1 a0_2) = some r := by first | (rw [hy839]; with_reducible exact H) | (have H2_ := (Option.bind_some _ _).symm.trans H; rw [hy839]; with_reducible exact H2_) | (have H2_ := (Option.bind_some _ _).symm.trans H; with_reducible exact H2_) | with_reducible exact H | (rw [hy839]; exact H) | exact H
      have Ny839 := Aside0.mk hy839
      clear hy839
      have H' := Aside0.mk H
      clear H
      go_enter Try.func80, Try.ntmps80
      go_wp2_with (first | ((with_reducible refine gate_dst (N := 2) rfl ?_); refine box_event ?hg (N := 2) ?hd (cs := #[.int .u64 a0_0, .int .i64 a0_1, .int .i64 a0_2]) (t := 24) ?hr ?_; (case hd => rfl); (case hg => rfl); (case hr => first | (go_simp; done) | (go_simp; rfl)); intro gb838 hg w5 hbox hb; have n0_ := Aside0.mk (below_step (by repeat (first | (with_reducible first | exact HB.out | apply below_alloc | apply pw_below_drewN | apply below_drew1) | exact HB.out)) hb); have n1_ := Aside0.mk (hbox); have n2_ := Aside0.mk ((by rw [hg]; exact (below_size (by repeat (first | (with_reducible first | exact HB.out | apply below_alloc | apply pw_below_drewN | apply below_drew1) | exact HB.out))) : w.heap.size ≤ gb838)); have n3_ := Aside0.mk ((by rw [hg]; exact (below_size (by repeat (first | (with_reducible first | exact HB.out | apply below_alloc | apply pw_below_drewN | apply below_drew1) | exact HB.out))) : w.heap.size ≤ gb838)); clear HB; have HB := n0_; have BK838 := n1_; have GW838 := n2_; have GE838 := n3_; clear n0_ n1_ n2_ n3_; clear hb hbox hg; have hcz6_0 : w5.cell? ⟨gb838, 0, none⟩ = some (.int .u64 a0_0) := (blk_cell BK838.out 0).trans rfl; have hcz6_1 : w5.cell? ⟨gb838, 1, none⟩ = some (.int .i64 a0_1) := (blk_cell BK838.out 1).trans rfl; have hcz6_2 : w5.cell? ⟨gb838, 2, none⟩ = some (.int .i64 a0_2) := (blk_cell BK838.out 2).trans rfl; have hfz6_0 := blk_frozen BK838.out 0; have hfz6_1 := blk_frozen BK838.out 1; have hfz6_2 := blk_frozen BK838.out 2) | ((with_reducible refine gate_dst (N := 11) rfl ?_); refine Kd.R_make (Kd.int .u64) _ 22 rfl (N := 11) rfl 31 _ _ rfl a0_1 rfl rfl Try.underlying31 (.int .u64 0) 8 info22 rfl (by decide) (by omega) 0 (ok := fun _ => True) (okp := fun _ => True) rfl (fun _ hk => hk) trivial (of_decide_eq_true (by first | (with_reducible assumption) | assumption)) (Nat.le_trans (Nat.mul_le_mul_right _ (of_decide_eq_true (by first | (with_reducible assumption) | assumption) : a0_1.toNat ≤ 35184372088832)) (by omega)) (Below.refl _ _) (Nat.le_refl _) ?_; intro v840 w7 ho8 hb hg_ hnew_; clear hg_ hnew_; (first | rw [← Ny839.out] at ho8 | (simp only [Int.reduceToNat] at ho8; rw [← Ny839.out] at ho8)); have n0_ := Aside0.mk (Kd.R_lower ho8 (below_size (by repeat (first | (with_reducible first | exact HB.out | apply below_alloc | apply pw_below_drewN | apply below_drew1 | refine below_set ?_ GE838.out) | exact HB.out)))); have n1_ := Aside0.mk (blk_below (g := gb838) (o := .cells #[.int .u64 a0_0, .int .i64 a0_1, .int .i64 a0_2] 24 (0, 0)) (by (with_reducible repeat (first | refine blk_drewN ?_ _ | refine blk_drew ?_ | refine blk_alloc ?_ _)); exact BK838.out) hb); have n2_ := Aside0.mk (below_step (by repeat (first | (with_reducible first | exact HB.out | apply below_alloc | apply pw_below_drewN | apply below_drew1 | refine below_set ?_ GE838.out) | exact HB.out)) hb); clear BK838; clear HB; have HO841 := n0_; have BK838 := n1_; have HB := n2_; clear n0_ n1_ n2_; clear hb ho8))
      go_loopg [14] k (fun kq v14 w' => ∃ (x5_1 : List Int) (x14_1 : Int), v14 = .int .i64 x14_1 ∧ Aside0 (juntoref04_Sum.l0 kq x5_1 l1 (l1.length : Int) x14_1 a0_0 a0_1 a0_2 = some r) ∧ Aside0 (kq ≤ k) ∧ Aside0 (Kd.R (Kd.int .u64) 22 w' w.heap.size (fun _ => True) v840 x5_1) ∧ Aside0 (w'.heap[gb838]? = some (.cells #[.int .u64 a0_0, .int .i64 a0_1, .int .i64 a0_2] 24 (0, 0))) ∧ Aside0 (Below w.heap.size w w'))
      case atStart => exact ⟨(y839), (0), (by first | rfl | (simp; done) | (simp [*]; done)), H', ⟨Nat.le_refl _⟩, ⟨by (with_reducible repeat (first | apply Kd.R_alloc | apply Kd.R_drewN | apply Kd.R_drew)); exact HO841.out⟩, ⟨by (with_reducible repeat (first | refine blk_drewN ?_ _ | refine blk_drew ?_ | refine blk_alloc ?_ _)); exact BK838.out⟩, ⟨by repeat (first | (with_reducible first | exact HB.out | apply below_alloc | apply pw_below_drewN | apply below_drew1 | refine below_set ?_ GE838.out) | exact HB.out)⟩⟩
      case round =>
        clear H'
        try clear c1
        try clear p2
        try clear c3
        try clear c3b0
        try clear c3b1
        try clear c4
        try clear c4b0
        try clear c4b1
        try clear c8
        try clear hcz6_0
        try clear hcz6_1
        try clear hcz6_2
        try clear hfz6_0
        try clear hfz6_1
        try clear hfz6_2
        obtain ⟨x5_1, x14_1, rfl, HA, HK1, HO_5, BK838, HB⟩ := hrel
        cases gk with
        | zero => exact absurd HA.out (by simp [juntoref04_Sum.l0])
        | succ k1 =>
          have H := HA.out
          clear HA
          simp only [juntoref04_Sum.l0] at H
          by_cases c9 : x14_1 < (l1.length : Int)
          · rw [if_pos c9] at H
            have c9b0 : decide (x14_1 < (l1.length : Int)) = true := decide_eq_true c9
            clear c9
            by_cases c10 : 0 ≤ x14_1
            · rw [if_pos c10] at H
              have c10b0 : decide (0 ≤ x14_1) = true := decide_eq_true c10
              clear c10
              by_cases c11 : x14_1 < (l1.length : Int)
              · rw [if_pos c11] at H
                have c11b0 : decide (x14_1 < (l1.length : Int)) = true := decide_eq_true c11
                clear c11
                have H' := Aside0.mk H
                clear H
                have p842 : 0 ≤ (x14_1 : Int) := of_decide_eq_true (by first | (with_reducible assumption) | assumption)
                have q842 : x14_1 < (l1.length : Int) := of_decide_eq_true (by first | (with_reducible assumption) | assumption)
                obtain ⟨ad842, A842_0, c842_0, e842, hx842_0, hl842_0, hi842_0⟩ := at_L3 HR1.out x14_1 p842 q842
                cases e842
                replace hx842_0 := (HB.out.cell (World.block_lt_of_cell? w _ hx842_0)).trans hx842_0
                have HR842_0 := Aside0.mk hi842_0
                have HC842_0 := Aside0.mk hl842_0
                clear hi842_0 hl842_0
                replace p842 := eq_true p842
                replace q842 := eq_true q842
                obtain ⟨Ao12, co12, eo12⟩ := Kd.R_slice HO_5.out
                subst eo12
                go_wp2
                go_loopg [20] k1 (fun kq v20 w' => ∃ (x5_2 : List Int) (x20_2 : Int), v20 = .int .i64 x20_2 ∧ Aside0 (juntoref04_Sum.l1 kq x5_2 (rd_L3 l1 x14_1) l1 (l1.length : Int) x14_1 (x5_1.length : Int) x20_2 a0_0 a0_1 a0_2 = some r) ∧ Aside0 (kq ≤ k1) ∧ Aside0 (Kd.R (Kd.int .u64) 22 w' w.heap.size (fun _ => True) (.slice Ao12 x5_1.length co12) x5_2) ∧ Aside0 (w'.heap[gb838]? = some (.cells #[.int .u64 a0_0, .int .i64 a0_1, .int .i64 a0_2] 24 (0, 0))) ∧ Aside0 (Below w.heap.size w w'))
                case atStart => exact ⟨(x5_1), (0), (by first | rfl | (simp; done) | (simp [*]; done)), H', ⟨Nat.le_refl _⟩, ⟨by (with_reducible repeat (first | apply Kd.R_alloc | apply Kd.R_drewN | apply Kd.R_drew)); exact HO_5.out⟩, ⟨by (with_reducible repeat (first | refine blk_drewN ?_ _ | refine blk_drew ?_ | refine blk_alloc ?_ _)); exact BK838.out⟩, ⟨by repeat (first | (with_reducible first | exact HB.out | apply below_alloc | apply pw_below_drewN | apply below_drew1 | refine below_set ?_ GE838.out) | exact HB.out)⟩⟩
                case round =>
                  clear H'
                  try clear c1
                  try clear p2
                  try clear c3
                  try clear c3b0
                  try clear c3b1
                  try clear c4
                  try clear c4b0
                  try clear c4b1
                  try clear c8
                  try clear p8
                  try clear q8
                  try clear hx8
                  try clear c9
                  try clear c9b0
                  try clear c10
                  try clear c10b0
                  try clear c11
                  try clear c11b0
                  try clear hcz6_0
                  try clear hcz6_1
                  try clear hcz6_2
                  try clear hfz6_0
                  try clear hfz6_1
                  try clear hfz6_2
                  try clear hx842_0
                  try clear p2
                  try clear p842
                  try clear q842
                  obtain ⟨x5_2, x20_2, rfl, HA, HK2, HO_5, BK838, HB⟩ := hrel
                  have hl5_2 := (Kd.R_reads' HO_5.out).1
                  rw [hl5_2] at HO_5
                  (try simp only [hl5_2])
                  (try simp only [hl5_2] at BK838)
                  cases gk with
                  | zero => exact absurd HA.out (by simp [juntoref04_Sum.l1])
                  | succ k2 =>
                    have H := HA.out
                    clear HA
                    simp only [juntoref04_Sum.l1] at H
                    by_cases c13 : x20_2 < (x5_1.length : Int)
                    · rw [if_pos c13] at H
                      have c13b0 : decide (x20_2 < (x5_1.length : Int)) = true := decide_eq_true c13
                      first | (have c13b9 : decide (x20_2 < (x5_2.length : Int)) = true := by rw [← hl5_2]; exact c13b0) | skip
                      clear c13
                      by_cases c14 : 0 ≤ x20_2
                      · rw [if_pos c14] at H
                        have c14b0 : decide (0 ≤ x20_2) = true := decide_eq_true c14
                        clear c14
                        by_cases c15 : x20_2 < (x5_2.length : Int)
                        · rw [if_pos c15] at H
                          have c15b0 : decide (x20_2 < (x5_2.length : Int)) = true := decide_eq_true c15
                          clear c15
                          by_cases c16 : x20_2 < ((rd_L3 l1 x14_1).length : Int)
                          · rw [if_pos c16] at H
                            have c16b0 : decide (x20_2 < ((rd_L3 l1 x14_1).length : Int)) = true := decide_eq_true c16
                            clear c16
                            replace H := Option.bind_eq_some_iff.mp H
                            obtain ⟨t845, A170, H⟩ := H
                            replace H : (juntoref04_Sum.l1 k2 (x5_2.set (x20_2 : Int).toNat t845) (rd_L3 l1 x14_1) l1 (l1.length : Int) x14_1 (x5_1.length : Int) (wrap64 (x20_2 + 1)) a0_0 a0_1 a0_2) = some r := H
                            have A17 := Aside0.mk A170
                            clear A170
                            obtain ⟨y846, hy846⟩ : ∃ y_ : List Int, y_ = (x5_2.set (x20_2 : Int).toNat t845) := ⟨_, rfl⟩
                            replace H : (juntoref04_Sum.l1 k2 y846 (rd_L3 l1 x14_1) l1 (l1.length : Int) x14_1 (x5_1.length : Int) (wrap64 (x20_2 + 1)) a0_0 a0_1 a0_2) = some r := by first | (rw [hy846]; with_reducible exact H) | (have H2_ := (Option.bind_some _ _).symm.trans H; rw [hy846]; with_reducible exact H2_) | (have H2_ := (Option.bind_some _ _).symm.trans H; with_reducible exact H2_) | with_reducible exact H | (rw [hy846]; exact H) | exact H
                            have Ny846 := Aside0.mk hy846
                            clear hy846
                            have H' := Aside0.mk H
                            clear H
                            try go_wp2
                            have n0_ := Aside0.mk (Kd.R_drew HO_5.out)
                            have n1_ := Aside0.mk (blk_drew BK838.out)
                            have n2_ := Aside0.mk (below_drew1 HB.out)
                            clear HO_5
                            clear BK838
                            clear HB
                            have HO_5 := n0_
                            have BK838 := n1_
                            have HB := n2_
                            clear n0_ n1_ n2_
                            have p843 : 0 ≤ (x20_2 : Int) := of_decide_eq_true (by first | (with_reducible assumption) | assumption)
                            have q843 : x20_2 < (x5_2.length : Int) := of_decide_eq_true (by first | (with_reducible assumption) | assumption)
                            obtain ⟨ad843, e843, hx843_0⟩ := Kd.at_int (Kd.R_reads' HO_5.out).2.2 x20_2 p843 q843
                            cases e843
                            replace p843 := eq_true p843
                            replace q843 := eq_true q843
                            have p844 : 0 ≤ (x20_2 : Int) := of_decide_eq_true (by first | (with_reducible assumption) | assumption)
                            have q844 : x20_2 < ((rd_L3 l1 x14_1).length : Int) := of_decide_eq_true (by first | (with_reducible assumption) | assumption)
                            obtain ⟨ad844, e844, hx844_0⟩ := Kd.at_int HR842_0.out x20_2 p844 q844
                            have hw844_0 := hx844_0
                            cases e844
                            replace hx844_0 := (HB.out.cell (World.block_lt_of_cell? w _ hx844_0)).trans hx844_0
                            replace p844 := eq_true p844
                            replace q844 := eq_true q844
                            refine start_ (n := 15) (S := fun w' => w'.cell? ⟨gb838, 0, none⟩ = some (.int .u64 a0_0) ∧ w'.cell? ⟨gb838, 1, none⟩ = some (.int .i64 a0_1) ∧ w'.cell? ⟨gb838, 2, none⟩ = some (.int .i64 a0_2) ∧ w'.cell? (ad843.add (x20_2).toNat) = some (.int .u64 (rd x5_2 x20_2)) ∧ w'.cell? (ad844.add (x20_2).toNat) = some (.int .u64 (rd (rd_L3 l1 x14_1) x20_2))) (ds := [14]) #[false, false, false, false, false, false, false, false, false, false, false, false, false, false, false] (by kernel_rfl) rfl rfl ⟨(blk_cell BK838.out 0).trans rfl, (blk_cell BK838.out 1).trans rfl, (blk_cell BK838.out 2).trans rfl, hx843_0, ((HB.out.cell (World.block_lt_of_cell? w _ hw844_0)).trans hw844_0)⟩ (fun hHeld => ?_); refine with_tabW juntoref04_Sum.tab8 juntoref04_Sum.bits8 (fun HT_ HW_ => ?_)
                            generalize wr.drew = w19 at HO_5 BK838 HB hx843_0 hx844_0 hHeld ⊢
                            refine pure_ (i := 0) (N := some 23) (v := ?_) (a' := ?_) #[true, false, false, false, false, false, false, false, false, false, false, false, false, false, false] rfl rfl (any_of HT_.out (by kernel_rfl)) (fun _ _ _ h => h) (Or.inl ⟨by rfl, ?_⟩) ?_ ?_
                            rotate_left
                            · intro w'
                              go_simp
                              with_reducible rfl
                            rotate_left
                            · simp only [Act.put, List.setIfInBounds_toArray, List.set_cons_zero, List.set_cons_succ, i64_w, i32_w]
                              rfl
                            refine pure_ (i := 1) (N := some 24) (v := ?_) (a' := ?_) #[true, true, false, false, false, false, false, false, false, false, false, false, false, false, false] rfl rfl (any_of HT_.out (by kernel_rfl)) (fun _ _ _ h => h) (Or.inl ⟨by rfl, ?_⟩) ?_ ?_
                            rotate_left
                            · intro w'
                              go_simp
                              with_reducible rfl
                            rotate_left
                            · simp only [Act.put, List.setIfInBounds_toArray, List.set_cons_zero, List.set_cons_succ, i64_w, i32_w]
                              rfl
                            refine pure_ (i := 2) (N := some 25) (v := ?_) (a' := ?_) #[true, true, true, false, false, false, false, false, false, false, false, false, false, false, false] rfl rfl (any_of HT_.out (by kernel_rfl)) (fun _ _ _ h => h) (Or.inl ⟨by rfl, ?_⟩) ?_ ?_
                            rotate_left
                            · intro w'
                              go_simp
                              with_reducible rfl
                            rotate_left
                            · simp only [Act.put, List.setIfInBounds_toArray, List.set_cons_zero, List.set_cons_succ, i64_w, i32_w]
                              rfl
                            refine pure_ (i := 4) (N := some 27) (v := ?_) (a' := ?_) #[true, true, true, false, true, false, false, false, false, false, false, false, false, false, false] rfl rfl (any_of HT_.out (by kernel_rfl)) (fun _ _ _ h => h) (Or.inl ⟨by rfl, ?_⟩) ?_ ?_
                            rotate_left
                            · intro w'
                              go_simp
                              with_reducible rfl
                            rotate_left
                            · simp only [Act.put, List.setIfInBounds_toArray, List.set_cons_zero, List.set_cons_succ, i64_w, i32_w]
                              rfl
                            refine pure_ (i := 5) (N := some 28) (v := ?_) (a' := ?_) #[true, true, true, false, true, true, false, false, false, false, false, false, false, false, false] rfl rfl (any_of HT_.out (by kernel_rfl)) (fun _ _ _ h => h) (Or.inl ⟨by rfl, ?_⟩) ?_ ?_
                            rotate_left
                            · intro w'
                              go_simp
                              with_reducible rfl
                            rotate_left
                            · simp only [Act.put, List.setIfInBounds_toArray, List.set_cons_zero, List.set_cons_succ, i64_w, i32_w]
                              rfl
                            refine pure_ (i := 6) (N := some 29) (v := ?_) (a' := ?_) #[true, true, true, false, true, true, true, false, false, false, false, false, false, false, false] rfl rfl (any_of HT_.out (by kernel_rfl)) (fun _ _ _ h => h) (Or.inl ⟨by rfl, ?_⟩) ?_ ?_
                            rotate_left
                            · intro w'
                              go_simp
                              with_reducible rfl
                            rotate_left
                            · simp only [Act.put, List.setIfInBounds_toArray, List.set_cons_zero, List.set_cons_succ, i64_w, i32_w]
                              rfl
                            refine pure_ (i := 8) (N := some 31) (v := ?_) (a' := ?_) #[true, true, true, false, true, true, true, false, true, false, false, false, false, false, false] rfl rfl (any_of HT_.out (by kernel_rfl)) (fun _ _ _ h => h) (Or.inl ⟨by rfl, ?_⟩) ?_ ?_
                            rotate_left
                            · intro w'
                              go_simp
                              with_reducible rfl
                            rotate_left
                            · simp only [Act.put, List.setIfInBounds_toArray, List.set_cons_zero, List.set_cons_succ, i64_w, i32_w]
                              rfl
                            refine pure_ (i := 9) (N := some 32) (v := ?_) (a' := ?_) #[true, true, true, false, true, true, true, false, true, true, false, false, false, false, false] rfl rfl (any_of HT_.out (by kernel_rfl)) (fun _ _ _ h => h) (Or.inl ⟨by rfl, ?_⟩) ?_ ?_
                            rotate_left
                            · intro w'
                              go_simp
                              with_reducible rfl
                            rotate_left
                            · simp only [Act.put, List.setIfInBounds_toArray, List.set_cons_zero, List.set_cons_succ, i64_w, i32_w]
                              rfl
                            refine pure_ (i := 10) (N := some 33) (v := ?_) (a' := ?_) #[true, true, true, false, true, true, true, false, true, true, true, false, false, false, false] rfl rfl (any_of HT_.out (by kernel_rfl)) (fun _ _ _ h => h) (Or.inl ⟨by rfl, ?_⟩) ?_ ?_
                            rotate_left
                            · intro w'
                              go_simp
                              with_reducible rfl
                            rotate_left
                            · simp only [Act.put, List.setIfInBounds_toArray, List.set_cons_zero, List.set_cons_succ, i64_w, i32_w]
                              rfl
                            refine take_ (i := 3) (N := some 26) (v := ?_) (a' := ?_) #[true, true, true, true, true, true, true, false, true, true, true, false, false, false, false] rfl rfl (take_ofW HT_.out HW_.out (by kernel_rfl)) (fun _ _ _ h => h) (Or.inl ⟨by rfl, ?_⟩) hHeld ?_ ?_
                            rotate_left
                            · rintro w' ⟨s0, s1, s2, s3, s4⟩
                              go_simp
                              with_reducible rfl
                            rotate_left
                            · simp only [Act.put, List.setIfInBounds_toArray, List.set_cons_zero, List.set_cons_succ, i64_w, i32_w]
                              rfl
                            refine take_ (i := 7) (N := some 30) (v := ?_) (a' := ?_) #[true, true, true, true, true, true, true, true, true, true, true, false, false, false, false] rfl rfl (take_ofW HT_.out HW_.out (by kernel_rfl)) (fun _ _ _ h => h) (Or.inl ⟨by rfl, ?_⟩) hHeld ?_ ?_
                            rotate_left
                            · rintro w' ⟨s0, s1, s2, s3, s4⟩
                              go_simp
                              with_reducible rfl
                            rotate_left
                            · simp only [Act.put, List.setIfInBounds_toArray, List.set_cons_zero, List.set_cons_succ, i64_w, i32_w]
                              rfl
                            refine take_ (i := 11) (N := some 34) (v := ?_) (a' := ?_) #[true, true, true, true, true, true, true, true, true, true, true, true, false, false, false] rfl rfl (take_ofW HT_.out HW_.out (by kernel_rfl)) (fun _ _ _ h => h) (Or.inl ⟨by rfl, ?_⟩) hHeld ?_ ?_
                            rotate_left
                            · rintro w' ⟨s0, s1, s2, s3, s4⟩
                              go_simp
                              with_reducible rfl
                            rotate_left
                            · simp only [Act.put, List.setIfInBounds_toArray, List.set_cons_zero, List.set_cons_succ, i64_w, i32_w]
                              rfl
                            refine one_ (i := 12) (N := some 35) #[true, true, true, true, true, true, true, true, true, true, true, true, true, false, false] rfl rfl (one_of HT_.out (by kernel_rfl)) (by decide) (fun K hK => ?_)
                            refine goes_ Try.func113 (by kernel_rfl) rfl #[.int .u64 a0_0, .int .u64 (rd x5_2 x20_2), .int .u64 (rd (rd_L3 l1 x14_1) x20_2)] (by rfl) rfl rfl (by (try simp only [List.map_toArray, List.map_cons, List.map_nil]); first | done | rfl | (simp only [List.length_drop, List.length_take]; rfl)) ?_
                            with_reducible refine (juntoref01_Add.calls a0_0 (rd x5_2 x20_2) (rd (rd_L3 l1 x14_1) x20_2) t845 _ A17.out).mono ?_
                            rintro e w' ⟨rfl, ⟨nd, rfl⟩⟩
                            refine ⟨_, rfl, ?_⟩
                            have p18 : 0 ≤ (x20_2 : Int) := of_decide_eq_true (by first | (with_reducible assumption) | assumption)
                            have q18 : (x20_2 : Int) < ((x5_2.length : Int) : Int) := of_decide_eq_true (by first | (with_reducible assumption) | assumption)
                            obtain ⟨go18, co18, eo18, gb18, gl18, cl18, HG18⟩ := Kd.R_form HO_5.out (by omega)
                            (first | cases eo18 | (injection eo18 with ea_ en_ ec_; (first | subst ea_ | (injection ea_ with ea_; subst ea_)); subst ec_; clear en_))
                            have GB18 := Aside0.mk gb18
                            have GG18 := Aside0.mk HG18
                            clear gb18 gl18 HG18
                            (first | simp only [add_plain] at hx843_0 | skip)
                            obtain ⟨hx18_0, hf18_0⟩ := Kd.R_celln 0 HO_5.out (x20_2 : Int) p18 q18
                            replace p18 := eq_true p18
                            replace q18 := eq_true q18
                            have HP20 := Kd.R_putn HO_5.out (x20_2 : Int) t845
                            rw [← Ny846.out] at HP20
                            have HQ20 := Aside0.mk HP20
                            clear HP20
                            refine hK.out _ _ ⟨(blk_cell BK838.out 0).trans rfl, (blk_cell BK838.out 1).trans rfl, (blk_cell BK838.out 2).trans rfl, hHeld.2.2.2.1, ((HB.out.cell (World.block_lt_of_cell? w _ hw844_0)).trans hw844_0)⟩ (fun hHeld => ?_)
                            clear hK K
                            refine norm_ (a' := ?_) ?_ ?_
                            rotate_left
                            · show Act.put _ (some 35) _ = _
                              simp only [Act.put, List.setIfInBounds_toArray, List.set_cons_zero, List.set_cons_succ, i64_w, i32_w]
                              rfl
                            refine pure_ (i := 13) (N := some 36) (v := ?_) (a' := ?_) #[true, true, true, true, true, true, true, true, true, true, true, true, true, true, false] rfl rfl (any_of HT_.out (by kernel_rfl)) (fun _ _ _ h => h) (Or.inl ⟨by rfl, ?_⟩) ?_ ?_
                            rotate_left
                            · intro w'
                              go_simp
                              with_reducible rfl
                            rotate_left
                            · simp only [Act.put, List.setIfInBounds_toArray, List.set_cons_zero, List.set_cons_succ, i64_w, i32_w]
                              rfl
                            refine last_ (i := 14) (N := none) #[true, true, true, true, true, true, true, true, true, true, true, true, true, true, true] rfl rfl (one_of HT_.out (by kernel_rfl)) (by decide) (fun K hK => ?_)
                            refine skip_ (w1 := ?_) (by rfl) rfl ?_ ?_
                            rotate_left
                            · go_simp
                              rfl
                            refine hK.out _ _ ?_
                            clear hK K
                            refine done_ (done_of HT_.out (by kernel_rfl)) ?_
                            try go_wp2
                            (try simp only [← hl5_2])
                            go_roundg k2
                            case measure => have := HK1.out; have := HK2.out; omega
                            case rel => exact ⟨(y846), (wrap64 (x20_2 + 1)), (by first | rfl | (simp; done) | (simp [*]; done)), H', ⟨by have := HK1.out; have := HK2.out; omega⟩, ⟨by (try simp only [hl5_2]); (with_reducible repeat (first | apply Kd.R_alloc | apply Kd.R_drewN | apply Kd.R_drew)); exact HQ20.out⟩, ⟨by (try simp only [hl5_2]); (with_reducible repeat (first | refine blk_drewN ?_ _ | refine blk_drew ?_ | refine blk_alloc ?_ _)); refine blk_far ?_ (by have h_ := Kd.R_ne HO_5.out BK838.out (by decide); intro e_; exact h_ (by rw [e_]; rfl)) _; (with_reducible repeat (first | refine blk_drewN ?_ _ | refine blk_drew ?_ | refine blk_alloc ?_ _)); exact BK838.out⟩, ⟨by repeat (first | (with_reducible first | exact HB.out | apply below_alloc | apply pw_below_drewN | apply below_drew1 | refine below_set ?_ GB18.out | refine below_set ?_ GE838.out) | exact HB.out)⟩⟩
                          · rw [if_neg c16] at H
                            exact absurd H (by simp)
                        · rw [if_neg c15] at H
                          exact absurd H (by simp)
                      · rw [if_neg c14] at H
                        exact absurd H (by simp)
                    · rw [if_neg c13] at H
                      have c13b0 : decide (x20_2 < (x5_1.length : Int)) = false := decide_eq_false c13
                      first | (have c13b9 : decide (x20_2 < (x5_2.length : Int)) = false := by rw [← hl5_2]; exact c13b0) | skip
                      clear c13
                      have H' := Aside0.mk H
                      clear H
                      go_wp2
                      (try simp only [← hl5_2])
                      go_roundg k2
                      case measure => have := HK1.out; have := HK2.out; omega
                      case rel => exact ⟨(x5_2), (wrap64 (x14_1 + 1)), (by first | rfl | (simp; done) | (simp [*]; done)), H', ⟨by have := HK1.out; have := HK2.out; omega⟩, ⟨by (try simp only [hl5_2]); (with_reducible repeat (first | apply Kd.R_alloc | apply Kd.R_drewN | apply Kd.R_drew)); exact HO_5.out⟩, ⟨by (try simp only [hl5_2]); (with_reducible repeat (first | refine blk_drewN ?_ _ | refine blk_drew ?_ | refine blk_alloc ?_ _)); exact BK838.out⟩, ⟨by repeat (first | (with_reducible first | exact HB.out | apply below_alloc | apply pw_below_drewN | apply below_drew1 | refine below_set ?_ GE838.out) | exact HB.out)⟩⟩
              · rw [if_neg c11] at H
                exact absurd H (by simp)
            · rw [if_neg c10] at H
              exact absurd H (by simp)
          · rw [if_neg c9] at H
            have c9b0 : decide (x14_1 < (l1.length : Int)) = false := decide_eq_false c9
            clear c9
            obtain rfl := Option.some.inj H
            go_wp2
            go_ret
            exact ⟨_, by first | rfl | (simp [errW_none, errW_some] <;> rfl) | (simp [*, errW_none, errW_some] <;> rfl), by (with_reducible repeat (first | apply Kd.R_alloc | apply Kd.R_drewN | apply Kd.R_drew)); exact HO_5.out, by repeat (first | (with_reducible first | exact HB.out | apply below_alloc | apply pw_below_drewN | apply below_drew1 | refine below_set ?_ GE838.out) | exact HB.out)⟩
    · rw [if_neg c4] at H
      exact absurd H (by simp)
  · rw [if_neg c3] at H
    exact absurd H (by simp)

end Go.Proofs.Ytjjnfobeeflnhaa.J

/- What Go functions of the program compute, as plain Lean functions, and that the machine comes to just these answers (written by a program for this seat). -/
namespace Go.Proofs.Ytjjnfobeeflnhaa.J
open Go.RowKit Go.Proofs.YtjjnfobeeflnhaaW.PrintWords Go.Proofs.YtjjnfobeeflnhaaW.PrintLast Go.Proofs.YtjjnfobeeflnhaaW.PrintMore
attribute [local go_sem] max2_int min2_int max_two min_two max_three min_three max_four min_four   -- for this text's walks alone
set_option linter.unusedVariables false
set_option linter.unusedSimpArgs false

/-! ### share_Scale: function 81 -/
mutual
def share_Scale.j0 : Nat → List Int → Int → Bool → Int → Int → Int → Option (List Int × Int)
  | 0, _, _, _, _, _, _ => none
  | k + 1, x1, x2, x27, x848000, x848001, x848002 => if x27 = true then (some (([] : List Int), 2)) else (if 0 ≤ x848001 then (if (x848001 : Int).toNat ≤ 35184372088832 then (share_Scale.l0 k x2 (List.replicate (x848001 : Int).toNat 0) x1 (x1.length : Int) 0 x848000 x848001 x848002) else (none)) else (none))
def share_Scale.l0 : Nat → Int → List Int → List Int → Int → Int → Int → Int → Int → Option (List Int × Int)
  | 0, _, _, _, _, _, _, _, _ => none
  | k + 1, x2, x9, x31, x32, x33, x848000, x848001, x848002 => if x33 < x32 then (if 0 ≤ x33 then (if x33 < (x31.length : Int) then ((field_Times.f x848000 (rd x31 x33) x2).bind fun t857 => (if x33 < (x9.length : Int) then (share_Scale.l0 k x2 (x9.set (x33 : Int).toNat t857) x31 x32 (wrap64 (x33 + 1)) x848000 x848001 x848002) else (none))) else (none)) else (none)) else (some (x9, 0))
end
def share_Scale.f (k : Nat) (a0_0 : Int) (a0_1 : Int) (a0_2 : Int) (l1 : List Int) (a2 : Int) : Option (List Int × Int) := (share_Setup.f k a0_0 a0_1 a0_2).bind fun t848 => (if t848 = 0 then ((share_are.f k a0_0 a0_1 a0_2 (([l1] : List (List Int)))).bind fun t852 => (if t852 = 0 then (share_Scale.j0 k l1 a2 (decide (a2 ≥ a0_0)) a0_0 a0_1 a0_2) else (share_Scale.j0 k l1 a2 true a0_0 a0_1 a0_2))) else (some (([] : List Int), t848)))
theorem share_Scale.mono_l : ∀ k, (∀ y0 y1 y2 y3 y4 y5, LeO (share_Scale.j0 k y0 y1 y2 y3 y4 y5) (share_Scale.j0 (k + 1) y0 y1 y2 y3 y4 y5)) ∧ (∀ y0 y1 y2 y3 y4 y5 y6 y7, LeO (share_Scale.l0 k y0 y1 y2 y3 y4 y5 y6 y7) (share_Scale.l0 (k + 1) y0 y1 y2 y3 y4 y5 y6 y7))
  | 0 => ⟨fun _ _ _ _ _ _ r h => by simp [share_Scale.j0] at h, fun _ _ _ _ _ _ _ _ r h => by simp [share_Scale.l0] at h⟩
  | k + 1 => by
    obtain ⟨ih0, ih1⟩ := share_Scale.mono_l k
    refine ⟨?_, ?_⟩
    · intro y0 y1 y2 y3 y4 y5
      unfold share_Scale.j0
      repeat' first
      | (with_reducible exact ih0 _ _ _ _ _ _)
      | (with_reducible exact ih1 _ _ _ _ _ _ _ _)
      | (with_reducible exact share_Setup.mono _ _ _ _)
      | (with_reducible exact share_are.mono _ _ _ _ _)
      | (with_reducible exact LeO.refl _)
      | (with_reducible exact LeO.none _)
      | (with_reducible refine LeO.ite ?_ ?_)
      | (with_reducible refine LeO.bind ?_ (fun _ => ?_))
      | exact ih0 _ _ _ _ _ _
      | exact ih1 _ _ _ _ _ _ _ _
      | exact share_Setup.mono _ _ _ _
      | exact share_are.mono _ _ _ _ _
      | exact LeO.none _
      | refine LeO.ite ?_ ?_
      | refine LeO.bind ?_ (fun _ => ?_)
    · intro y0 y1 y2 y3 y4 y5 y6 y7
      unfold share_Scale.l0
      repeat' first
      | (with_reducible exact ih0 _ _ _ _ _ _)
      | (with_reducible exact ih1 _ _ _ _ _ _ _ _)
      | (with_reducible exact share_Setup.mono _ _ _ _)
      | (with_reducible exact share_are.mono _ _ _ _ _)
      | (with_reducible exact LeO.refl _)
      | (with_reducible exact LeO.none _)
      | (with_reducible refine LeO.ite ?_ ?_)
      | (with_reducible refine LeO.bind ?_ (fun _ => ?_))
      | exact ih0 _ _ _ _ _ _
      | exact ih1 _ _ _ _ _ _ _ _
      | exact share_Setup.mono _ _ _ _
      | exact share_are.mono _ _ _ _ _
      | exact LeO.none _
      | refine LeO.ite ?_ ?_
      | refine LeO.bind ?_ (fun _ => ?_)
theorem share_Scale.mono : ∀ a0 a1 a2 a3 a4 k, LeO (share_Scale.f k a0 a1 a2 a3 a4) (share_Scale.f (k + 1) a0 a1 a2 a3 a4) := by
  intro a0 a1 a2 a3 a4 k
  obtain ⟨ih0, ih1⟩ := share_Scale.mono_l k
  unfold share_Scale.f
  repeat' first
      | (with_reducible exact ih0 _ _ _ _ _ _)
      | (with_reducible exact ih1 _ _ _ _ _ _ _ _)
      | (with_reducible exact share_Setup.mono _ _ _ _)
      | (with_reducible exact share_are.mono _ _ _ _ _)
      | (with_reducible exact LeO.refl _)
      | (with_reducible exact LeO.none _)
      | (with_reducible refine LeO.ite ?_ ?_)
      | (with_reducible refine LeO.bind ?_ (fun _ => ?_))
      | exact ih0 _ _ _ _ _ _
      | exact ih1 _ _ _ _ _ _ _ _
      | exact share_Setup.mono _ _ _ _
      | exact share_are.mono _ _ _ _ _
      | exact LeO.none _
      | refine LeO.ite ?_ ?_
      | refine LeO.bind ?_ (fun _ => ?_)
set_option maxHeartbeats 8000000 in
set_option maxRecDepth 100000 in
theorem share_Scale.calls (k : Nat) (a0_0 : Int) (a0_1 : Int) (a0_2 : Int) (P1_ : Nat → Prop) (A1 : Option Addr) (c1 : Nat) (l1 : List Int) (a2 : Int) (r1 : List Int) (r2 : Int) (w : World) (hs1 : Kd.V (Kd.int .u64) 22 w w.heap.size (fun k_ => P1_ k_) (.slice A1 l1.length c1) l1) (h : share_Scale.f k a0_0 a0_1 a0_2 l1 a2 = some (r1, r2)) :
    Calls Try.prog 81 #[.agg #[.int .u64 a0_0, .int .i64 a0_1, .int .i64 a0_2], .slice A1 l1.length c1, .int .u64 a2] w fun e w' => ∃ v0_ : Value, e = .returned (.tuple #[v0_, .int .i64 r2]) ∧ Kd.R (Kd.int .u64) 22 w' w.heap.size (fun k_ => (w.heap.size ≤ k_)) v0_ r1 ∧ Below w.heap.size w w' := by
  have hu24 := Try.underlying24
  have HO1 := Aside0.mk (show Kd.V (Kd.int .u64) 22 w w.heap.size (fun k_ => (P1_ k_ ∨ w.heap.size ≤ k_)) (.slice A1 l1.length c1) l1 from Kd.V_mono hs1 (fun k_ hk => .inl hk))
  have HB := Aside0.mk (Below.refl w.heap.size w)
  have H : ((share_Setup.f k a0_0 a0_1 a0_2).bind fun t848 => (if t848 = 0 then ((share_are.f k a0_0 a0_1 a0_2 (([l1] : List (List Int)))).bind fun t852 => (if t852 = 0 then (share_Scale.j0 k l1 a2 (decide (a2 ≥ a0_0)) a0_0 a0_1 a0_2) else (share_Scale.j0 k l1 a2 true a0_0 a0_1 a0_2))) else (some (([] : List Int), t848)))) = some (r1, r2) := h
  clear h
  replace H := Option.bind_eq_some_iff.mp H
  obtain ⟨t848, A40, H⟩ := H
  replace H : (if t848 = 0 then ((share_are.f k a0_0 a0_1 a0_2 (([l1] : List (List Int)))).bind fun t852 => (if t852 = 0 then (share_Scale.j0 k l1 a2 (decide (a2 ≥ a0_0)) a0_0 a0_1 a0_2) else (share_Scale.j0 k l1 a2 true a0_0 a0_1 a0_2))) else (some (([] : List Int), t848))) = some (r1, r2) := H
  have A4 := Aside0.mk A40
  clear A40
  by_cases c5 : t848 = 0
  · rw [if_pos c5] at H
    have c5b0 : (t848 == 0) = true := beq_iff_eq.mpr c5
    have c5b1 : (t848 != 0) = false := bne_eq_false_iff_eq.mpr c5
    clear c5
    have HC6 := Aside0.mk H
    clear H
    go_enter Try.func81, Try.ntmps81
    go_upto_region 4 with (first | ((with_reducible refine gate_dst (N := 3) rfl ?_); refine box_event ?hg (N := 3) ?hd (cs := #[.int .u64 a0_0, .int .i64 a0_1, .int .i64 a0_2]) (t := 24) ?hr ?_; (case hd => rfl); (case hg => rfl); (case hr => first | (go_simp; done) | (go_simp; rfl)); intro gb847 hg w7 hbox hb; have n0_ := Aside0.mk (Kd.V_below (Kd.V_elderB (by (with_reducible repeat (first | apply Kd.V_alloc | apply Kd.V_drewN | apply Kd.V_drew)); exact HO1.out) gb847 (Nat.le_of_eq hg.symm)) hb); have n1_ := Aside0.mk (below_step (by repeat (first | (with_reducible first | exact HB.out | apply below_alloc | apply pw_below_drewN | apply below_drew1) | exact HB.out)) hb); have n2_ := Aside0.mk (hbox); have n3_ := Aside0.mk ((by rw [hg]; exact (below_size (by repeat (first | (with_reducible first | exact HB.out | apply below_alloc | apply pw_below_drewN | apply below_drew1) | exact HB.out))) : w.heap.size ≤ gb847)); have n4_ := Aside0.mk ((by rw [hg]; exact (below_size (by repeat (first | (with_reducible first | exact HB.out | apply below_alloc | apply pw_below_drewN | apply below_drew1) | exact HB.out))) : w.heap.size ≤ gb847)); clear HO1; clear HB; have HO1 := n0_; have HB := n1_; have BK847 := n2_; have GW847 := n3_; have GE847 := n4_; clear n0_ n1_ n2_ n3_ n4_; clear hb hbox hg; have hcz8_0 : w7.cell? ⟨gb847, 0, none⟩ = some (.int .u64 a0_0) := (blk_cell BK847.out 0).trans rfl; have hcz8_1 : w7.cell? ⟨gb847, 1, none⟩ = some (.int .i64 a0_1) := (blk_cell BK847.out 1).trans rfl; have hcz8_2 : w7.cell? ⟨gb847, 2, none⟩ = some (.int .i64 a0_2) := (blk_cell BK847.out 2).trans rfl; have hfz8_0 := blk_frozen BK847.out 0; have hfz8_1 := blk_frozen BK847.out 1; have hfz8_2 := blk_frozen BK847.out 2) | ((with_reducible refine gate_callee (f := 64) rfl ?_); refine goesL_ (some 13) rfl rfl Try.func64 (by kernel_rfl) rfl #[.agg #[.int .u64 a0_0, .int .i64 a0_1, .int .i64 a0_2]] rfl (by (try simp only [List.map_toArray, List.map_cons, List.map_nil]); first | done | rfl | (simp only [List.length_drop, List.length_take]; rfl)) ?_; (with_reducible refine (share_Setup.calls k a0_0 a0_1 a0_2 t848 _ A4.out).mono ?_); rintro e w9 ⟨rfl, hb⟩; refine ⟨_, rfl, ?_⟩; have n0_ := Aside0.mk (Kd.V_below (by (with_reducible repeat (first | apply Kd.V_alloc | apply Kd.V_drewN | apply Kd.V_drew)); exact HO1.out) hb); have n1_ := Aside0.mk (blk_below (g := gb847) (o := .cells #[.int .u64 a0_0, .int .i64 a0_1, .int .i64 a0_2] 24 (0, 0)) (by (with_reducible repeat (first | refine blk_drewN ?_ _ | refine blk_drew ?_ | refine blk_alloc ?_ _)); exact BK847.out) hb); have n2_ := Aside0.mk (below_step (by repeat (first | (with_reducible first | exact HB.out | apply below_alloc | apply pw_below_drewN | apply below_drew1 | refine below_set ?_ GE847.out) | exact HB.out)) hb); clear HO1; clear BK847; clear HB; have HO1 := n0_; have BK847 := n1_; have HB := n2_; clear n0_ n1_ n2_; (try clear hb); (try clear hb2); (try clear hk); (try clear hi)))
    (try simp only [Act.put, List.setIfInBounds_toArray, List.set_cons_zero, List.set_cons_succ])
    go_cut [27] (fun v27 wc => ∃ (kq : Nat) (x27_5 : Bool), v27 = .bool x27_5 ∧ Aside0 (share_Scale.j0 kq l1 a2 x27_5 a0_0 a0_1 a0_2 = some (r1, r2)) ∧ Aside0 (kq ≤ k) ∧ Aside0 (Kd.V (Kd.int .u64) 22 wc w.heap.size (fun k_ => (P1_ k_ ∨ w.heap.size ≤ k_) ∧ k_ ≠ gb847) (.slice A1 l1.length c1) l1) ∧ Aside0 (wc.heap[gb847]? = some (.cells #[.int .u64 a0_0, .int .i64 a0_1, .int .i64 a0_2] 24 (0, 0))) ∧ Aside0 (Below w.heap.size w wc))
    case first =>
      have H := HC6.out
      clear HC6
      obtain ⟨y849, hy849⟩ : ∃ y_ : List (List Int), y_ = (([l1] : List (List Int))) := ⟨_, rfl⟩
      replace H : ((share_are.f k a0_0 a0_1 a0_2 y849).bind fun t852 => (if t852 = 0 then (share_Scale.j0 k l1 a2 (decide (a2 ≥ a0_0)) a0_0 a0_1 a0_2) else (share_Scale.j0 k l1 a2 true a0_0 a0_1 a0_2))) = some (r1, r2) := by first | (rw [hy849]; with_reducible exact H) | (have H2_ := (Option.bind_some _ _).symm.trans H; rw [hy849]; with_reducible exact H2_) | (have H2_ := (Option.bind_some _ _).symm.trans H; with_reducible exact H2_) | with_reducible exact H | (rw [hy849]; exact H) | exact H
      have Ny849 := Aside0.mk hy849
      clear hy849
      replace H := Option.bind_eq_some_iff.mp H
      obtain ⟨t852, A100, H⟩ := H
      replace H : (if t852 = 0 then (share_Scale.j0 k l1 a2 (decide (a2 ≥ a0_0)) a0_0 a0_1 a0_2) else (share_Scale.j0 k l1 a2 true a0_0 a0_1 a0_2)) = some (r1, r2) := H
      have A10 := Aside0.mk A100
      clear A100
      by_cases c11 : t852 = 0
      · rw [if_pos c11] at H
        have c11b0 : (t852 == 0) = true := beq_iff_eq.mpr c11
        have c11b1 : (t852 != 0) = false := bne_eq_false_iff_eq.mpr c11
        clear c11
        (first | rw [c11b0] | (simp only [i64_w, i32_w]; rw [c11b0]) | skip)
        have H' := Aside0.mk H
        clear H
        have hcz12_0 : w9.cell? ⟨gb847, 0, none⟩ = some (.int .u64 a0_0) := (blk_cell BK847.out 0).trans rfl
        have hcz12_1 : w9.cell? ⟨gb847, 1, none⟩ = some (.int .i64 a0_1) := (blk_cell BK847.out 1).trans rfl
        have hcz12_2 : w9.cell? ⟨gb847, 2, none⟩ = some (.int .i64 a0_2) := (blk_cell BK847.out 2).trans rfl
        have hfz12_0 := blk_frozen BK847.out 0
        have hfz12_1 := blk_frozen BK847.out 1
        have hfz12_2 := blk_frozen BK847.out 2
        go_wp2_with (first | ((with_reducible refine gate_dst (N := 19) rfl ?_); refine Kd.N_lit (Kd.slice 22 (Kd.int .u64)) _ 31 ?hg (N' := 19) ?hd (xs := ([l1] : List (List Int))) (inner := [.slice A1 l1.length c1]) (ok := (fun k_ => (P1_ k_ ∨ w.heap.size ≤ k_) ∧ k_ ≠ gb847)) (okp := (fun k_ => (P1_ k_ ∨ w.heap.size ≤ k_) ∧ k_ ≠ gb847)) ?hr ?hp (fun _ hk => hk) ((show ∀ k_, w9.heap.size ≤ k_ → (fun k_ => (P1_ k_ ∨ w.heap.size ≤ k_) ∧ k_ ≠ gb847) k_ from fun k_ hk => ⟨(.inr (Nat.le_trans (below_size (by repeat (first | (with_reducible first | exact HB.out | apply below_alloc | apply pw_below_drewN | apply below_drew1 | refine below_set ?_ GE847.out) | exact HB.out))) hk)), Kd.freshB (g := gb847) (o := .cells #[.int .u64 a0_0, .int .i64 a0_1, .int .i64 a0_2] 24 (0, 0)) (by (with_reducible repeat (first | refine blk_drewN ?_ _ | refine blk_drew ?_ | refine blk_alloc ?_ _)); exact BK847.out) k_ hk⟩) _ (Nat.le_refl _)) (Below.refl _ _) (Nat.le_refl _) (by simp) ?_; (case hd => rfl); (case hg => rfl); (case hr => first | (go_simp; done) | (go_simp; rfl)); (case hp => exact (Reps.one (show Kd.FK (Kd.slice 22 (Kd.int .u64)) _ _ l1 [.slice A1 l1.length c1] from (Kd.FK_slice_mk (Kd.V_reads' (Kd.V_mono (ok' := (fun k_ => (P1_ k_ ∨ w.heap.size ≤ k_) ∧ k_ ≠ gb847)) (HO1.out) (fun k_ hk => ⟨hk.1, hk.2⟩))).2.1 (Kd.V_F (Kd.V_mono (ok' := (fun k_ => (P1_ k_ ∨ w.heap.size ≤ k_) ∧ k_ ≠ gb847)) (HO1.out) (fun k_ hk => ⟨hk.1, hk.2⟩))))) (Reps.none _ _))); intro v850 w13 ho14 hb hg_ hnew_; clear hg_ hnew_; (first | rw [← Ny849.out] at ho14 | (simp only [Int.reduceToNat] at ho14; rw [← Ny849.out] at ho14)); have n0_ := Aside0.mk (Kd.V_elder' (by (with_reducible repeat (first | apply Kd.V_alloc | apply Kd.V_drewN | apply Kd.V_drew)); exact HO1.out) (Kd.N_base ho14) hb); have n1_ := Aside0.mk (Kd.N_lower ho14 (below_size (by repeat (first | (with_reducible first | exact HB.out | apply below_alloc | apply pw_below_drewN | apply below_drew1 | refine below_set ?_ GE847.out) | exact HB.out)))); have n2_ := Aside0.mk (blk_below (g := gb847) (o := .cells #[.int .u64 a0_0, .int .i64 a0_1, .int .i64 a0_2] 24 (0, 0)) (by (with_reducible repeat (first | refine blk_drewN ?_ _ | refine blk_drew ?_ | refine blk_alloc ?_ _)); exact BK847.out) hb); have n3_ := Aside0.mk (below_step (by repeat (first | (with_reducible first | exact HB.out | apply below_alloc | apply pw_below_drewN | apply below_drew1 | refine below_set ?_ GE847.out) | exact HB.out)) hb); clear HO1; clear BK847; clear HB; have HO1 := n0_; have HO851 := n1_; have BK847 := n2_; have HB := n3_; clear n0_ n1_ n2_ n3_; clear hb ho14; obtain ⟨Ao15, co15, eo15⟩ := Kd.N_slice HO851.out; subst eo15) | ((with_reducible refine gate_callee (f := 146) rfl ?_); refine goesL_ (some 20) rfl rfl Try.func146 (by kernel_rfl) rfl #[.agg #[.int .u64 a0_0, .int .i64 a0_1, .int .i64 a0_2], .slice Ao15 y849.length co15] rfl (by (try simp only [List.map_toArray, List.map_cons, List.map_nil]); first | done | rfl | (simp only [List.length_drop, List.length_take]; rfl)) ?_; (with_reducible refine (share_are.calls k a0_0 a0_1 a0_2 _ _ y849 t852 _ ?side1 ?side2 A10.out).mono ?_); (case side1 => repeat (first | exact (Kd.N_reads' HO851.out).2.2 | (with_reducible refine Kd.C_alloc ?_ _) | (with_reducible refine Kd.C_drewN ?_ _) | (with_reducible refine Kd.C_drew ?_))); (case side2 => exact (Kd.N_reads' HO851.out).2.1); rintro e w16 ⟨rfl, hb⟩; refine ⟨_, rfl, ?_⟩; have n0_ := Aside0.mk (Kd.V_below (by (with_reducible repeat (first | apply Kd.V_alloc | apply Kd.V_drewN | apply Kd.V_drew)); exact HO1.out) hb); have n1_ := Aside0.mk (Kd.N_below (by (with_reducible repeat (first | apply Kd.N_alloc | apply Kd.N_drewN | apply Kd.N_drew)); exact HO851.out) hb); have n2_ := Aside0.mk (blk_below (g := gb847) (o := .cells #[.int .u64 a0_0, .int .i64 a0_1, .int .i64 a0_2] 24 (0, 0)) (by (with_reducible repeat (first | refine blk_drewN ?_ _ | refine blk_drew ?_ | refine blk_alloc ?_ _)); exact BK847.out) hb); have n3_ := Aside0.mk (below_step (by repeat (first | (with_reducible first | exact HB.out | apply below_alloc | apply pw_below_drewN | apply below_drew1 | refine below_set ?_ GE847.out) | exact HB.out)) hb); clear HO1; clear HO851; clear BK847; clear HB; have HO1 := n0_; have HO851 := n1_; have BK847 := n2_; have HB := n3_; clear n0_ n1_ n2_ n3_; (try clear hb); (try clear hb2); (try clear hk); (try clear hi); have hcz17_0 : w16.cell? ⟨gb847, 0, none⟩ = some (.int .u64 a0_0) := (blk_cell BK847.out 0).trans rfl; have hcz17_1 : w16.cell? ⟨gb847, 1, none⟩ = some (.int .i64 a0_1) := (blk_cell BK847.out 1).trans rfl; have hcz17_2 : w16.cell? ⟨gb847, 2, none⟩ = some (.int .i64 a0_2) := (blk_cell BK847.out 2).trans rfl; have hfz17_0 := blk_frozen BK847.out 0; have hfz17_1 := blk_frozen BK847.out 1; have hfz17_2 := blk_frozen BK847.out 2))
        go_meet
        case rel => exact ⟨_, (decide (a2 ≥ a0_0)), (by first | rfl | (simp; done) | (simp [*]; done)), H', ⟨by first | omega | exact Nat.le_refl _⟩, ⟨by (with_reducible repeat (first | apply Kd.V_alloc | apply Kd.V_drewN | apply Kd.V_drew)); exact Kd.V_mono HO1.out (fun _ hk => ⟨hk.1.1, hk.1.2⟩)⟩, ⟨by (with_reducible repeat (first | refine blk_drewN ?_ _ | refine blk_drew ?_ | refine blk_alloc ?_ _)); exact BK847.out⟩, ⟨by repeat (first | (with_reducible first | exact HB.out | apply below_alloc | apply pw_below_drewN | apply below_drew1 | refine below_set ?_ GE847.out) | exact HB.out)⟩⟩
      · rw [if_neg c11] at H
        have c11b0 : (t852 == 0) = false := beq_eq_false_iff_ne.mpr c11
        have c11b1 : (t852 != 0) = true := bne_iff_ne.mpr c11
        (first | rw [c11b0] | (simp only [i64_w, i32_w]; rw [c11b0]) | skip)
        have H' := Aside0.mk H
        clear H
        have hcz18_0 : w9.cell? ⟨gb847, 0, none⟩ = some (.int .u64 a0_0) := (blk_cell BK847.out 0).trans rfl
        have hcz18_1 : w9.cell? ⟨gb847, 1, none⟩ = some (.int .i64 a0_1) := (blk_cell BK847.out 1).trans rfl
        have hcz18_2 : w9.cell? ⟨gb847, 2, none⟩ = some (.int .i64 a0_2) := (blk_cell BK847.out 2).trans rfl
        have hfz18_0 := blk_frozen BK847.out 0
        have hfz18_1 := blk_frozen BK847.out 1
        have hfz18_2 := blk_frozen BK847.out 2
        go_wp2_with (first | ((with_reducible refine gate_dst (N := 19) rfl ?_); refine Kd.N_lit (Kd.slice 22 (Kd.int .u64)) _ 31 ?hg (N' := 19) ?hd (xs := ([l1] : List (List Int))) (inner := [.slice A1 l1.length c1]) (ok := (fun k_ => (P1_ k_ ∨ w.heap.size ≤ k_) ∧ k_ ≠ gb847)) (okp := (fun k_ => (P1_ k_ ∨ w.heap.size ≤ k_) ∧ k_ ≠ gb847)) ?hr ?hp (fun _ hk => hk) ((show ∀ k_, w9.heap.size ≤ k_ → (fun k_ => (P1_ k_ ∨ w.heap.size ≤ k_) ∧ k_ ≠ gb847) k_ from fun k_ hk => ⟨(.inr (Nat.le_trans (below_size (by repeat (first | (with_reducible first | exact HB.out | apply below_alloc | apply pw_below_drewN | apply below_drew1 | refine below_set ?_ GE847.out) | exact HB.out))) hk)), Kd.freshB (g := gb847) (o := .cells #[.int .u64 a0_0, .int .i64 a0_1, .int .i64 a0_2] 24 (0, 0)) (by (with_reducible repeat (first | refine blk_drewN ?_ _ | refine blk_drew ?_ | refine blk_alloc ?_ _)); exact BK847.out) k_ hk⟩) _ (Nat.le_refl _)) (Below.refl _ _) (Nat.le_refl _) (by simp) ?_; (case hd => rfl); (case hg => rfl); (case hr => first | (go_simp; done) | (go_simp; rfl)); (case hp => exact (Reps.one (show Kd.FK (Kd.slice 22 (Kd.int .u64)) _ _ l1 [.slice A1 l1.length c1] from (Kd.FK_slice_mk (Kd.V_reads' (Kd.V_mono (ok' := (fun k_ => (P1_ k_ ∨ w.heap.size ≤ k_) ∧ k_ ≠ gb847)) (HO1.out) (fun k_ hk => ⟨hk.1, hk.2⟩))).2.1 (Kd.V_F (Kd.V_mono (ok' := (fun k_ => (P1_ k_ ∨ w.heap.size ≤ k_) ∧ k_ ≠ gb847)) (HO1.out) (fun k_ hk => ⟨hk.1, hk.2⟩))))) (Reps.none _ _))); intro v850 w19 ho20 hb hg_ hnew_; clear hg_ hnew_; (first | rw [← Ny849.out] at ho20 | (simp only [Int.reduceToNat] at ho20; rw [← Ny849.out] at ho20)); have n0_ := Aside0.mk (Kd.V_elder' (by (with_reducible repeat (first | apply Kd.V_alloc | apply Kd.V_drewN | apply Kd.V_drew)); exact HO1.out) (Kd.N_base ho20) hb); have n1_ := Aside0.mk (Kd.N_lower ho20 (below_size (by repeat (first | (with_reducible first | exact HB.out | apply below_alloc | apply pw_below_drewN | apply below_drew1 | refine below_set ?_ GE847.out) | exact HB.out)))); have n2_ := Aside0.mk (blk_below (g := gb847) (o := .cells #[.int .u64 a0_0, .int .i64 a0_1, .int .i64 a0_2] 24 (0, 0)) (by (with_reducible repeat (first | refine blk_drewN ?_ _ | refine blk_drew ?_ | refine blk_alloc ?_ _)); exact BK847.out) hb); have n3_ := Aside0.mk (below_step (by repeat (first | (with_reducible first | exact HB.out | apply below_alloc | apply pw_below_drewN | apply below_drew1 | refine below_set ?_ GE847.out) | exact HB.out)) hb); clear HO1; clear BK847; clear HB; have HO1 := n0_; have HO851 := n1_; have BK847 := n2_; have HB := n3_; clear n0_ n1_ n2_ n3_; clear hb ho20; obtain ⟨Ao21, co21, eo21⟩ := Kd.N_slice HO851.out; subst eo21) | ((with_reducible refine gate_callee (f := 146) rfl ?_); refine goesL_ (some 20) rfl rfl Try.func146 (by kernel_rfl) rfl #[.agg #[.int .u64 a0_0, .int .i64 a0_1, .int .i64 a0_2], .slice Ao21 y849.length co21] rfl (by (try simp only [List.map_toArray, List.map_cons, List.map_nil]); first | done | rfl | (simp only [List.length_drop, List.length_take]; rfl)) ?_; (with_reducible refine (share_are.calls k a0_0 a0_1 a0_2 _ _ y849 t852 _ ?side1 ?side2 A10.out).mono ?_); (case side1 => repeat (first | exact (Kd.N_reads' HO851.out).2.2 | (with_reducible refine Kd.C_alloc ?_ _) | (with_reducible refine Kd.C_drewN ?_ _) | (with_reducible refine Kd.C_drew ?_))); (case side2 => exact (Kd.N_reads' HO851.out).2.1); rintro e w22 ⟨rfl, hb⟩; refine ⟨_, rfl, ?_⟩; have n0_ := Aside0.mk (Kd.V_below (by (with_reducible repeat (first | apply Kd.V_alloc | apply Kd.V_drewN | apply Kd.V_drew)); exact HO1.out) hb); have n1_ := Aside0.mk (Kd.N_below (by (with_reducible repeat (first | apply Kd.N_alloc | apply Kd.N_drewN | apply Kd.N_drew)); exact HO851.out) hb); have n2_ := Aside0.mk (blk_below (g := gb847) (o := .cells #[.int .u64 a0_0, .int .i64 a0_1, .int .i64 a0_2] 24 (0, 0)) (by (with_reducible repeat (first | refine blk_drewN ?_ _ | refine blk_drew ?_ | refine blk_alloc ?_ _)); exact BK847.out) hb); have n3_ := Aside0.mk (below_step (by repeat (first | (with_reducible first | exact HB.out | apply below_alloc | apply pw_below_drewN | apply below_drew1 | refine below_set ?_ GE847.out) | exact HB.out)) hb); clear HO1; clear HO851; clear BK847; clear HB; have HO1 := n0_; have HO851 := n1_; have BK847 := n2_; have HB := n3_; clear n0_ n1_ n2_ n3_; (try clear hb); (try clear hb2); (try clear hk); (try clear hi)))
        go_meet
        case rel => exact ⟨_, (true), (by first | rfl | (simp; done) | (simp [*]; done)), H', ⟨by first | omega | exact Nat.le_refl _⟩, ⟨by (with_reducible repeat (first | apply Kd.V_alloc | apply Kd.V_drewN | apply Kd.V_drew)); exact Kd.V_mono HO1.out (fun _ hk => ⟨hk.1.1, hk.1.2⟩)⟩, ⟨by (with_reducible repeat (first | refine blk_drewN ?_ _ | refine blk_drew ?_ | refine blk_alloc ?_ _)); exact BK847.out⟩, ⟨by repeat (first | (with_reducible first | exact HB.out | apply below_alloc | apply pw_below_drewN | apply below_drew1 | refine below_set ?_ GE847.out) | exact HB.out)⟩⟩
    case rest =>
      clear HC6
      try clear c1
      try clear p2
      try clear c5
      try clear c5b0
      try clear c5b1
      try clear c6
      try clear c8
      try clear c11
      try clear c11b0
      try clear c11b1
      try clear c14
      try clear hcz12_0
      try clear hcz12_1
      try clear hcz12_2
      try clear hcz17_0
      try clear hcz17_1
      try clear hcz17_2
      try clear hcz18_0
      try clear hcz18_1
      try clear hcz18_2
      try clear hcz8_0
      try clear hcz8_1
      try clear hcz8_2
      try clear hfz12_0
      try clear hfz12_1
      try clear hfz12_2
      try clear hfz17_0
      try clear hfz17_1
      try clear hfz17_2
      try clear hfz18_0
      try clear hfz18_1
      try clear hfz18_2
      try clear hfz8_0
      try clear hfz8_1
      try clear hfz8_2
      obtain ⟨kq, x27_5, rfl, HA, HJ5, HO_1, BK847, HB⟩ := hcut
      cases kq with
      | zero => exact absurd HA.out (by simp [share_Scale.j0])
      | succ kj5 =>
        have H := HA.out
        clear HA
        simp only [share_Scale.j0] at H
        by_cases c23 : x27_5 = true
        · subst c23
          have H1 : (some (([] : List Int), 2)) = some (r1, r2) := by rw [if_pos rfl] at H; exact H
          clear H
          have H := H1
          clear H1
          simp only [Option.some.injEq, Prod.mk.injEq] at H
          obtain ⟨rfl, rfl⟩ := H
          go_wp2
          go_ret2
          exact ⟨_, by first | rfl | (simp [errW_none, errW_some] <;> rfl) | (simp [*, errW_none, errW_some] <;> rfl), by first | exact Kd.R_nil _ _ _ _ _ | exact Kd.N_nil _ _ _ _ _ | exact Kd.V_nil _ _ _ _ _ | exact Kd.Q_nil _ _ _ _ _ | exact Kd.S_nil _ _ _ _ _, by repeat (first | (with_reducible first | exact HB.out | apply below_alloc | apply pw_below_drewN | apply below_drew1 | refine below_set ?_ GE847.out) | exact HB.out)⟩
        · replace c23 := Bool.eq_false_iff.mpr c23
          subst c23
          have H1 : (if 0 ≤ a0_1 then (if (a0_1 : Int).toNat ≤ 35184372088832 then (share_Scale.l0 kj5 a2 (List.replicate (a0_1 : Int).toNat 0) l1 (l1.length : Int) 0 a0_0 a0_1 a0_2) else (none)) else (none)) = some (r1, r2) := by rw [if_neg (show ¬ (false = true) by decide)] at H; exact H
          clear H
          have H := H1
          clear H1
          by_cases c24 : 0 ≤ a0_1
          · rw [if_pos c24] at H
            have c24b0 := eq_true c24
            have c24b1 : decide (0 ≤ a0_1) = true := decide_eq_true c24
            clear c24
            by_cases c25 : (a0_1 : Int).toNat ≤ 35184372088832
            · rw [if_pos c25] at H
              have c25b0 := eq_true c25
              have c25b1 : decide ((a0_1 : Int).toNat ≤ 35184372088832) = true := decide_eq_true c25
              clear c25
              obtain ⟨y853, hy853⟩ : ∃ y_ : List Int, y_ = (List.replicate (a0_1 : Int).toNat 0) := ⟨_, rfl⟩
              replace H : (share_Scale.l0 kj5 a2 y853 l1 (l1.length : Int) 0 a0_0 a0_1 a0_2) = some (r1, r2) := by first | (rw [hy853]; with_reducible exact H) | (have H2_ := (Option.bind_some _ _).symm.trans H; rw [hy853]; with_reducible exact H2_) | (have H2_ := (Option.bind_some _ _).symm.trans H; with_reducible exact H2_) | with_reducible exact H | (rw [hy853]; exact H) | exact H
              have Ny853 := Aside0.mk hy853
              clear hy853
              have H' := Aside0.mk H
              clear H
              have hcz26_0 : wc.cell? ⟨gb847, 0, none⟩ = some (.int .u64 a0_0) := (blk_cell BK847.out 0).trans rfl
              have hcz26_1 : wc.cell? ⟨gb847, 1, none⟩ = some (.int .i64 a0_1) := (blk_cell BK847.out 1).trans rfl
              have hcz26_2 : wc.cell? ⟨gb847, 2, none⟩ = some (.int .i64 a0_2) := (blk_cell BK847.out 2).trans rfl
              have hfz26_0 := blk_frozen BK847.out 0
              have hfz26_1 := blk_frozen BK847.out 1
              have hfz26_2 := blk_frozen BK847.out 2
              go_wp2_with (first | ((with_reducible refine gate_dst (N := 30) rfl ?_); refine Kd.R_make (Kd.int .u64) _ 22 rfl (N := 30) rfl 31 _ _ rfl a0_1 rfl rfl Try.underlying31 (.int .u64 0) 8 info22 rfl (by decide) (by omega) 0 (ok := fun _ => True) (okp := fun _ => True) rfl (fun _ hk => hk) trivial (of_decide_eq_true (by first | (with_reducible assumption) | assumption)) (Nat.le_trans (Nat.mul_le_mul_right _ (of_decide_eq_true (by first | (with_reducible assumption) | assumption) : a0_1.toNat ≤ 35184372088832)) (by omega)) (Below.refl _ _) (Nat.le_refl _) ?_; intro v854 w27 ho28 hb hg_ hnew_; clear hg_ hnew_; (first | rw [← Ny853.out] at ho28 | (simp only [Int.reduceToNat] at ho28; rw [← Ny853.out] at ho28)); have n0_ := Aside0.mk (Kd.V_elder' (by (with_reducible repeat (first | apply Kd.V_alloc | apply Kd.V_drewN | apply Kd.V_drew)); exact HO_1.out) (Kd.R_base ho28) hb); have n1_ := Aside0.mk (Kd.R_lower (Kd.R_newM (M := fun k_ => (w.heap.size ≤ k_)) ho28 (below_size (by repeat (first | (with_reducible first | exact HB.out | apply below_alloc | apply pw_below_drewN | apply below_drew1 | refine below_set ?_ GE847.out) | exact HB.out))) (fun k_ h_ => h_)) (below_size (by repeat (first | (with_reducible first | exact HB.out | apply below_alloc | apply pw_below_drewN | apply below_drew1 | refine below_set ?_ GE847.out) | exact HB.out)))); have n2_ := Aside0.mk (blk_below (g := gb847) (o := .cells #[.int .u64 a0_0, .int .i64 a0_1, .int .i64 a0_2] 24 (0, 0)) (by (with_reducible repeat (first | refine blk_drewN ?_ _ | refine blk_drew ?_ | refine blk_alloc ?_ _)); exact BK847.out) hb); have n3_ := Aside0.mk (below_step (by repeat (first | (with_reducible first | exact HB.out | apply below_alloc | apply pw_below_drewN | apply below_drew1 | refine below_set ?_ GE847.out) | exact HB.out)) hb); clear HO_1; clear BK847; clear HB; have HO_1 := n0_; have HO855 := n1_; have BK847 := n2_; have HB := n3_; clear n0_ n1_ n2_ n3_; clear hb ho28))
              go_loopg [33] kj5 (fun kq v33 w' => ∃ (x9_2 : List Int) (x33_2 : Int), v33 = .int .i64 x33_2 ∧ Aside0 (share_Scale.l0 kq a2 x9_2 l1 (l1.length : Int) x33_2 a0_0 a0_1 a0_2 = some (r1, r2)) ∧ Aside0 (kq ≤ kj5) ∧ Aside0 (Kd.R (Kd.int .u64) 22 w' w.heap.size (fun k_ => (w.heap.size ≤ k_)) v854 x9_2) ∧ Aside0 (Kd.V (Kd.int .u64) 22 w' w.heap.size (fun k_ => (P1_ k_ ∨ w.heap.size ≤ k_) ∧ some k_ ≠ (v854 : Value).ownBlock ∧ k_ ≠ gb847) (.slice A1 l1.length c1) l1) ∧ Aside0 (w'.heap[gb847]? = some (.cells #[.int .u64 a0_0, .int .i64 a0_1, .int .i64 a0_2] 24 (0, 0))) ∧ Aside0 (Below w.heap.size w w'))
              case atStart => exact ⟨(y853), (0), (by first | rfl | (simp; done) | (simp [*]; done)), H', ⟨Nat.le_refl _⟩, ⟨by (with_reducible repeat (first | apply Kd.R_alloc | apply Kd.R_drewN | apply Kd.R_drew)); exact Kd.R_mono HO855.out (fun _ hk => hk.1)⟩, ⟨by (with_reducible repeat (first | apply Kd.V_alloc | apply Kd.V_drewN | apply Kd.V_drew)); exact Kd.V_mono HO_1.out (fun _ hk => ⟨hk.1.1, ⟨hk.2, hk.1.2⟩⟩)⟩, ⟨by (with_reducible repeat (first | refine blk_drewN ?_ _ | refine blk_drew ?_ | refine blk_alloc ?_ _)); exact BK847.out⟩, ⟨by repeat (first | (with_reducible first | exact HB.out | apply below_alloc | apply pw_below_drewN | apply below_drew1 | refine below_set ?_ GE847.out) | exact HB.out)⟩⟩
              case round =>
                clear H'
                try clear c1
                try clear c2
                try clear p2
                try clear c5
                try clear c5b0
                try clear c5b1
                try clear c6
                try clear c8
                try clear c11
                try clear c11b0
                try clear c11b1
                try clear c14
                try clear c23
                try clear c24
                try clear c24b0
                try clear c24b1
                try clear c25
                try clear c25b0
                try clear c25b1
                try clear hcz12_0
                try clear hcz12_1
                try clear hcz12_2
                try clear hcz17_0
                try clear hcz17_1
                try clear hcz17_2
                try clear hcz18_0
                try clear hcz18_1
                try clear hcz18_2
                try clear hcz26_0
                try clear hcz26_1
                try clear hcz26_2
                try clear hcz8_0
                try clear hcz8_1
                try clear hcz8_2
                try clear hfz12_0
                try clear hfz12_1
                try clear hfz12_2
                try clear hfz17_0
                try clear hfz17_1
                try clear hfz17_2
                try clear hfz18_0
                try clear hfz18_1
                try clear hfz18_2
                try clear hfz26_0
                try clear hfz26_1
                try clear hfz26_2
                try clear hfz8_0
                try clear hfz8_1
                try clear hfz8_2
                try clear p2
                obtain ⟨x9_2, x33_2, rfl, HA, HK2, HO_9, HO_31, BK847, HB⟩ := hrel
                cases gk with
                | zero => exact absurd HA.out (by simp [share_Scale.l0])
                | succ k2 =>
                  have H := HA.out
                  clear HA
                  simp only [share_Scale.l0] at H
                  by_cases c29 : x33_2 < (l1.length : Int)
                  · rw [if_pos c29] at H
                    have c29b0 : decide (x33_2 < (l1.length : Int)) = true := decide_eq_true c29
                    clear c29
                    by_cases c30 : 0 ≤ x33_2
                    · rw [if_pos c30] at H
                      have c30b0 : decide (0 ≤ x33_2) = true := decide_eq_true c30
                      clear c30
                      by_cases c31 : x33_2 < (l1.length : Int)
                      · rw [if_pos c31] at H
                        have c31b0 : decide (x33_2 < (l1.length : Int)) = true := decide_eq_true c31
                        clear c31
                        replace H := Option.bind_eq_some_iff.mp H
                        obtain ⟨t857, A320, H⟩ := H
                        replace H : (if x33_2 < (x9_2.length : Int) then (share_Scale.l0 k2 a2 (x9_2.set (x33_2 : Int).toNat t857) l1 (l1.length : Int) (wrap64 (x33_2 + 1)) a0_0 a0_1 a0_2) else (none)) = some (r1, r2) := H
                        have A32 := Aside0.mk A320
                        clear A320
                        by_cases c33 : x33_2 < (x9_2.length : Int)
                        · rw [if_pos c33] at H
                          have c33b0 : decide (x33_2 < (x9_2.length : Int)) = true := decide_eq_true c33
                          clear c33
                          obtain ⟨y858, hy858⟩ : ∃ y_ : List Int, y_ = (x9_2.set (x33_2 : Int).toNat t857) := ⟨_, rfl⟩
                          replace H : (share_Scale.l0 k2 a2 y858 l1 (l1.length : Int) (wrap64 (x33_2 + 1)) a0_0 a0_1 a0_2) = some (r1, r2) := by first | (rw [hy858]; with_reducible exact H) | (have H2_ := (Option.bind_some _ _).symm.trans H; rw [hy858]; with_reducible exact H2_) | (have H2_ := (Option.bind_some _ _).symm.trans H; with_reducible exact H2_) | with_reducible exact H | (rw [hy858]; exact H) | exact H
                          have Ny858 := Aside0.mk hy858
                          clear hy858
                          have H' := Aside0.mk H
                          clear H
                          have p856 : 0 ≤ (x33_2 : Int) := of_decide_eq_true (by first | (with_reducible assumption) | assumption)
                          have q856 : x33_2 < (l1.length : Int) := of_decide_eq_true (by first | (with_reducible assumption) | assumption)
                          obtain ⟨ad856, e856, hx856_0⟩ := Kd.at_int (Kd.V_reads' HO_31.out).2.2 x33_2 p856 q856
                          cases e856
                          replace p856 := eq_true p856
                          replace q856 := eq_true q856
                          have hcz35_0 : wr.cell? ⟨gb847, 0, none⟩ = some (.int .u64 a0_0) := (blk_cell BK847.out 0).trans rfl
                          have hcz35_1 : wr.cell? ⟨gb847, 1, none⟩ = some (.int .i64 a0_1) := (blk_cell BK847.out 1).trans rfl
                          have hcz35_2 : wr.cell? ⟨gb847, 2, none⟩ = some (.int .i64 a0_2) := (blk_cell BK847.out 2).trans rfl
                          have hfz35_0 := blk_frozen BK847.out 0
                          have hfz35_1 := blk_frozen BK847.out 1
                          have hfz35_2 := blk_frozen BK847.out 2
                          go_wp2_with (first | ((with_reducible refine gate_callee (f := 148) rfl ?_); refine goesL_ (some 44) rfl rfl Try.func148 (by kernel_rfl) rfl #[.int .u64 a0_0, .int .u64 (rd l1 x33_2), .int .u64 a2] rfl (by (try simp only [List.map_toArray, List.map_cons, List.map_nil]); first | done | rfl | (simp only [List.length_drop, List.length_take]; rfl)) ?_; (with_reducible refine (field_Times.calls a0_0 (rd l1 x33_2) a2 t857 _ A32.out).mono ?_); rintro e w' ⟨rfl, ⟨nd, rfl⟩⟩; refine ⟨_, rfl, ?_⟩; (try (rw [drewN_self wr]; generalize hq_ : World.drewN wr _ = wr; have n0_ : Aside0 (Kd.V (Kd.int .u64) 22 wr w.heap.size (fun k_ => (P1_ k_ ∨ w.heap.size ≤ k_) ∧ some k_ ≠ (v854 : Value).ownBlock ∧ k_ ≠ gb847) (.slice (some ad856) l1.length c1) l1) := ⟨by rw [← hq_]; exact (by (with_reducible repeat (first | apply Kd.V_alloc | apply Kd.V_drewN | apply Kd.V_drew)); exact HO_31.out)⟩; have n1_ : Aside0 (Kd.R (Kd.int .u64) 22 wr w.heap.size (fun k_ => (w.heap.size ≤ k_)) v854 x9_2) := ⟨by rw [← hq_]; exact (by (with_reducible repeat (first | apply Kd.R_alloc | apply Kd.R_drewN | apply Kd.R_drew)); exact HO_9.out)⟩; have n2_ : Aside0 (wr.heap[gb847]? = some (.cells #[.int .u64 a0_0, .int .i64 a0_1, .int .i64 a0_2] 24 (0, 0))) := ⟨by rw [← hq_]; exact (by (with_reducible repeat (first | refine blk_drewN ?_ _ | refine blk_drew ?_ | refine blk_alloc ?_ _)); exact BK847.out)⟩; have n3_ : Aside0 (Below w.heap.size w wr) := ⟨by rw [← hq_]; exact (by repeat (first | (with_reducible first | exact HB.out | apply below_alloc | apply pw_below_drewN | apply below_drew1 | refine below_set ?_ GE847.out) | exact HB.out))⟩; clear HO_31 HO_9 BK847 HB hq_; have HO_31 := n0_; have HO_9 := n1_; have BK847 := n2_; have HB := n3_; clear n0_ n1_ n2_ n3_)); have p34 : 0 ≤ (x33_2 : Int) := of_decide_eq_true (by first | (with_reducible assumption) | assumption); have q34 : (x33_2 : Int) < ((x9_2.length : Int) : Int) := of_decide_eq_true (by first | (with_reducible assumption) | assumption); obtain ⟨go34, co34, eo34, gb34, gl34, cl34, HG34⟩ := Kd.R_form HO_9.out (by omega); (first | cases eo34 | (injection eo34 with ea_ en_ ec_; (first | subst ea_ | (injection ea_ with ea_; subst ea_)); subst ec_; clear en_)); have GB34 := Aside0.mk gb34; have GG34 := Aside0.mk HG34; clear gb34 gl34 HG34; obtain ⟨hx34_0, hf34_0⟩ := Kd.R_celln 0 HO_9.out (x33_2 : Int) p34 q34; replace p34 := eq_true p34; replace q34 := eq_true q34; obtain ⟨hy36_, hz36_⟩ := Kd.R_celln 0 HO_9.out (x33_2 : Int) (of_decide_eq_true (by first | (with_reducible assumption) | assumption)) (of_decide_eq_true (by first | (with_reducible assumption) | assumption)); have HP36 := Kd.R_putg HO_9.out (x33_2 : Int) t857) | ((with_reducible refine gate_store (t := 22) (p := 45) rfl ?_); refine store_event (t := 22) (p := 45) (v := ?vo_w37) (w1 := (wr.setCell ⟨go34, (x33_2 : Int).toNat, none⟩ (.int .u64 t857))) ?hg ?ho ?hn ?hr ?_; (case ho => rfl); (case hg => rfl); (case hn => rfl); (case hr => first | (go_simp; done) | (go_simp; rfl)); intro w37 hw; have hg : wr.grownBy w37 (some go34) := (by rw [hw]; exact HP36.2); have hp_ : Kd.R (Kd.int .u64) 22 w37 w.heap.size (fun k_ => (w.heap.size ≤ k_)) (.slice (some ⟨go34, 0, none⟩) x9_2.length co34) y858 := (by rw [hw, Ny858.out]; exact HP36.1); clear HP36; have n0_ := Aside0.mk (hp_); have n1_ := Aside0.mk (Kd.V_afterv (v := (.slice (some ⟨go34, 0, none⟩) x9_2.length co34)) (v1 := (.slice (some ⟨go34, 0, none⟩) x9_2.length co34)) (ok := (fun k_ => (P1_ k_ ∨ w.heap.size ≤ k_) ∧ k_ ≠ gb847)) (by (with_reducible repeat (first | apply Kd.V_alloc | apply Kd.V_drewN | apply Kd.V_drew)); exact Kd.V_mono HO_31.out (fun _ hk => ⟨⟨hk.1, hk.2.2⟩, hk.2.1⟩)) hg (.inl rfl)); have n2_ := Aside0.mk (blk_grown (g := gb847) (o := .cells #[.int .u64 a0_0, .int .i64 a0_1, .int .i64 a0_2] 24 (0, 0)) (by (with_reducible repeat (first | refine blk_drewN ?_ _ | refine blk_drew ?_ | refine blk_alloc ?_ _)); exact BK847.out) hg (Kd.R_ne HO_9.out BK847.out (by decide))); have n3_ := Aside0.mk ((by rw [hw]; exact below_set (HB.out) GB34.out : Below w.heap.size w w37)); clear HO_9; clear HO_31; clear BK847; clear HB; have HO_9 := n0_; have HO_31 := n1_; have BK847 := n2_; have HB := n3_; clear n0_ n1_ n2_ n3_; clear hg hw hp_))
                          go_roundg k2
                          case measure => have := HJ5.out; have := HK2.out; omega
                          case rel => exact ⟨(y858), (wrap64 (x33_2 + 1)), (by first | rfl | (simp; done) | (simp [*]; done)), H', ⟨by have := HJ5.out; have := HK2.out; omega⟩, ⟨by (with_reducible repeat (first | apply Kd.R_alloc | apply Kd.R_drewN | apply Kd.R_drew)); exact HO_9.out⟩, ⟨by (with_reducible repeat (first | apply Kd.V_alloc | apply Kd.V_drewN | apply Kd.V_drew)); exact Kd.V_mono HO_31.out (fun _ hk => ⟨hk.1.1, ⟨hk.2, hk.1.2⟩⟩)⟩, ⟨by (with_reducible repeat (first | refine blk_drewN ?_ _ | refine blk_drew ?_ | refine blk_alloc ?_ _)); exact BK847.out⟩, ⟨by repeat (first | (with_reducible first | exact HB.out | apply below_alloc | apply pw_below_drewN | apply below_drew1 | refine below_set ?_ GE847.out) | exact HB.out)⟩⟩
                        · rw [if_neg c33] at H
                          exact absurd H (by simp)
                      · rw [if_neg c31] at H
                        exact absurd H (by simp)
                    · rw [if_neg c30] at H
                      exact absurd H (by simp)
                  · rw [if_neg c29] at H
                    have c29b0 : decide (x33_2 < (l1.length : Int)) = false := decide_eq_false c29
                    clear c29
                    simp only [Option.some.injEq, Prod.mk.injEq] at H
                    obtain ⟨rfl, rfl⟩ := H
                    go_wp2
                    go_ret2
                    exact ⟨_, by first | rfl | (simp [errW_none, errW_some] <;> rfl) | (simp [*, errW_none, errW_some] <;> rfl), by (with_reducible repeat (first | apply Kd.R_alloc | apply Kd.R_drewN | apply Kd.R_drew)); exact HO_9.out, by repeat (first | (with_reducible first | exact HB.out | apply below_alloc | apply pw_below_drewN | apply below_drew1 | refine below_set ?_ GE847.out) | exact HB.out)⟩
            · rw [if_neg c25] at H
              exact absurd H (by simp)
          · rw [if_neg c24] at H
            exact absurd H (by simp)
  · rw [if_neg c5] at H
    have c5b0 : (t848 == 0) = false := beq_eq_false_iff_ne.mpr c5
    have c5b1 : (t848 != 0) = true := bne_iff_ne.mpr c5
    simp only [Option.some.injEq, Prod.mk.injEq] at H
    obtain ⟨rfl, rfl⟩ := H
    go_enter Try.func81, Try.ntmps81
    go_wp2_with (first | ((with_reducible refine gate_dst (N := 3) rfl ?_); refine box_event ?hg (N := 3) ?hd (cs := #[.int .u64 a0_0, .int .i64 a0_1, .int .i64 a0_2]) (t := 24) ?hr ?_; (case hd => rfl); (case hg => rfl); (case hr => first | (go_simp; done) | (go_simp; rfl)); intro gb847 hg w38 hbox hb; have n0_ := Aside0.mk (Kd.V_below (Kd.V_elderB (by (with_reducible repeat (first | apply Kd.V_alloc | apply Kd.V_drewN | apply Kd.V_drew)); exact HO1.out) gb847 (Nat.le_of_eq hg.symm)) hb); have n1_ := Aside0.mk (below_step (by repeat (first | (with_reducible first | exact HB.out | apply below_alloc | apply pw_below_drewN | apply below_drew1) | exact HB.out)) hb); have n2_ := Aside0.mk (hbox); have n3_ := Aside0.mk ((by rw [hg]; exact (below_size (by repeat (first | (with_reducible first | exact HB.out | apply below_alloc | apply pw_below_drewN | apply below_drew1) | exact HB.out))) : w.heap.size ≤ gb847)); have n4_ := Aside0.mk ((by rw [hg]; exact (below_size (by repeat (first | (with_reducible first | exact HB.out | apply below_alloc | apply pw_below_drewN | apply below_drew1) | exact HB.out))) : w.heap.size ≤ gb847)); clear HO1; clear HB; have HO1 := n0_; have HB := n1_; have BK847 := n2_; have GW847 := n3_; have GE847 := n4_; clear n0_ n1_ n2_ n3_ n4_; clear hb hbox hg; have hcz39_0 : w38.cell? ⟨gb847, 0, none⟩ = some (.int .u64 a0_0) := (blk_cell BK847.out 0).trans rfl; have hcz39_1 : w38.cell? ⟨gb847, 1, none⟩ = some (.int .i64 a0_1) := (blk_cell BK847.out 1).trans rfl; have hcz39_2 : w38.cell? ⟨gb847, 2, none⟩ = some (.int .i64 a0_2) := (blk_cell BK847.out 2).trans rfl; have hfz39_0 := blk_frozen BK847.out 0; have hfz39_1 := blk_frozen BK847.out 1; have hfz39_2 := blk_frozen BK847.out 2) | ((with_reducible refine gate_callee (f := 64) rfl ?_); refine goesL_ (some 13) rfl rfl Try.func64 (by kernel_rfl) rfl #[.agg #[.int .u64 a0_0, .int .i64 a0_1, .int .i64 a0_2]] rfl (by (try simp only [List.map_toArray, List.map_cons, List.map_nil]); first | done | rfl | (simp only [List.length_drop, List.length_take]; rfl)) ?_; (with_reducible refine (share_Setup.calls k a0_0 a0_1 a0_2 t848 _ A4.out).mono ?_); rintro e w40 ⟨rfl, hb⟩; refine ⟨_, rfl, ?_⟩; have n0_ := Aside0.mk (Kd.V_below (by (with_reducible repeat (first | apply Kd.V_alloc | apply Kd.V_drewN | apply Kd.V_drew)); exact HO1.out) hb); have n1_ := Aside0.mk (blk_below (g := gb847) (o := .cells #[.int .u64 a0_0, .int .i64 a0_1, .int .i64 a0_2] 24 (0, 0)) (by (with_reducible repeat (first | refine blk_drewN ?_ _ | refine blk_drew ?_ | refine blk_alloc ?_ _)); exact BK847.out) hb); have n2_ := Aside0.mk (below_step (by repeat (first | (with_reducible first | exact HB.out | apply below_alloc | apply pw_below_drewN | apply below_drew1 | refine below_set ?_ GE847.out) | exact HB.out)) hb); clear HO1; clear BK847; clear HB; have HO1 := n0_; have BK847 := n1_; have HB := n2_; clear n0_ n1_ n2_; (try clear hb); (try clear hb2); (try clear hk); (try clear hi)))
    go_ret2
    exact ⟨_, by first | rfl | (simp [errW_none, errW_some] <;> rfl) | (simp [*, errW_none, errW_some] <;> rfl), by first | exact Kd.R_nil _ _ _ _ _ | exact Kd.N_nil _ _ _ _ _ | exact Kd.V_nil _ _ _ _ _ | exact Kd.Q_nil _ _ _ _ _ | exact Kd.S_nil _ _ _ _ _, by repeat (first | (with_reducible first | exact HB.out | apply below_alloc | apply pw_below_drewN | apply below_drew1 | refine below_set ?_ GE847.out) | exact HB.out)⟩

/-! ### juntoref04_Scale: function 82 -/
def juntoref04_Scale.l0 : Nat → Int → List Int → List Int → Int → Int → Int → Int → Int → Option (List Int)
  | 0, _, _, _, _, _, _, _, _ => none
  | k + 1, x2, x7, x10, x11, x12, x860000, x860001, x860002 => if x12 < x11 then (if 0 ≤ x12 then (if x12 < (x10.length : Int) then ((juntoref01_Mul.f x860000 (rd x10 x12) x2).bind fun t861 => (if x7.length < 17592186044416 then (juntoref04_Scale.l0 k x2 (x7 ++ [t861]) x10 x11 (wrap64 (x12 + 1)) x860000 x860001 x860002) else (none))) else (none)) else (none)) else (some x7)
def juntoref04_Scale.f (k : Nat) (a0_0 : Int) (a0_1 : Int) (a0_2 : Int) (l1 : List Int) (a2 : Int) : Option (List Int) := juntoref04_Scale.l0 k a2 ([] : List Int) l1 (l1.length : Int) 0 a0_0 a0_1 a0_2
theorem juntoref04_Scale.mono_l : ∀ k, (∀ y0 y1 y2 y3 y4 y5 y6 y7, LeO (juntoref04_Scale.l0 k y0 y1 y2 y3 y4 y5 y6 y7) (juntoref04_Scale.l0 (k + 1) y0 y1 y2 y3 y4 y5 y6 y7))
  | 0 => fun _ _ _ _ _ _ _ _ r h => by simp [juntoref04_Scale.l0] at h
  | k + 1 => by
    have ih0 := juntoref04_Scale.mono_l k
    · intro y0 y1 y2 y3 y4 y5 y6 y7
      unfold juntoref04_Scale.l0
      repeat' first
      | (with_reducible exact ih0 _ _ _ _ _ _ _ _)
      | (with_reducible exact LeO.refl _)
      | (with_reducible exact LeO.none _)
      | (with_reducible refine LeO.ite ?_ ?_)
      | (with_reducible refine LeO.bind ?_ (fun _ => ?_))
      | exact ih0 _ _ _ _ _ _ _ _
      | exact LeO.none _
      | refine LeO.ite ?_ ?_
      | refine LeO.bind ?_ (fun _ => ?_)
theorem juntoref04_Scale.mono : ∀ a0 a1 a2 a3 a4 k, LeO (juntoref04_Scale.f k a0 a1 a2 a3 a4) (juntoref04_Scale.f (k + 1) a0 a1 a2 a3 a4) := by
  intro a0 a1 a2 a3 a4 k
  have ih0 := juntoref04_Scale.mono_l k
  unfold juntoref04_Scale.f
  repeat' first
      | (with_reducible exact ih0 _ _ _ _ _ _ _ _)
      | (with_reducible exact LeO.refl _)
      | (with_reducible exact LeO.none _)
      | (with_reducible refine LeO.ite ?_ ?_)
      | (with_reducible refine LeO.bind ?_ (fun _ => ?_))
      | exact ih0 _ _ _ _ _ _ _ _
      | exact LeO.none _
      | refine LeO.ite ?_ ?_
      | refine LeO.bind ?_ (fun _ => ?_)
set_option maxHeartbeats 8000000 in
set_option maxRecDepth 100000 in
theorem juntoref04_Scale.calls (k : Nat) (a0_0 : Int) (a0_1 : Int) (a0_2 : Int) (A1 : Option Addr) (c1 : Nat) (l1 : List Int) (a2 : Int) (r : List Int) (w : World) (hr1 : Kd.C (Kd.int .u64) w A1 l1.length l1) (hc1 : l1.length ≤ c1) (h : juntoref04_Scale.f k a0_0 a0_1 a0_2 l1 a2 = some r) :
    Calls Try.prog 82 #[.agg #[.int .u64 a0_0, .int .i64 a0_1, .int .i64 a0_2], .slice A1 l1.length c1, .int .u64 a2] w fun e w' => ∃ v0_ : Value, e = .returned (v0_) ∧ Kd.R (Kd.int .u64) 22 w' w.heap.size (fun _ => True) v0_ r ∧ Below w.heap.size w w' := by
  have hu24 := Try.underlying24
  have HR1 := Aside0.mk hr1
  have HC1 := Aside0.mk hc1
  clear hr1 hc1
  have HB := Aside0.mk (Below.refl w.heap.size w)
  have H : (juntoref04_Scale.l0 k a2 ([] : List Int) l1 (l1.length : Int) 0 a0_0 a0_1 a0_2) = some r := h
  clear h
  have H' := Aside0.mk H
  clear H
  go_enter Try.func82, Try.ntmps82
  go_wp2_with (first | ((with_reducible refine gate_dst (N := 3) rfl ?_); refine box_event ?hg (N := 3) ?hd (cs := #[.int .u64 a0_0, .int .i64 a0_1, .int .i64 a0_2]) (t := 24) ?hr ?_; (case hd => rfl); (case hg => rfl); (case hr => first | (go_simp; done) | (go_simp; rfl)); intro gb859 hg w4 hbox hb; have n0_ := Aside0.mk (below_step (by repeat (first | (with_reducible first | exact HB.out | apply below_alloc | apply pw_below_drewN | apply below_drew1) | exact HB.out)) hb); have n1_ := Aside0.mk (hbox); have n2_ := Aside0.mk ((by rw [hg]; exact (below_size (by repeat (first | (with_reducible first | exact HB.out | apply below_alloc | apply pw_below_drewN | apply below_drew1) | exact HB.out))) : w.heap.size ≤ gb859)); have n3_ := Aside0.mk ((by rw [hg]; exact (below_size (by repeat (first | (with_reducible first | exact HB.out | apply below_alloc | apply pw_below_drewN | apply below_drew1) | exact HB.out))) : w.heap.size ≤ gb859)); clear HB; have HB := n0_; have BK859 := n1_; have GW859 := n2_; have GE859 := n3_; clear n0_ n1_ n2_ n3_; clear hb hbox hg))
  go_loopg [7, 12] k (fun kq v7 v12 w' => ∃ (x7_1 : List Int) (x12_1 : Int), v12 = .int .i64 x12_1 ∧ Aside0 (juntoref04_Scale.l0 kq a2 x7_1 l1 (l1.length : Int) x12_1 a0_0 a0_1 a0_2 = some r) ∧ Aside0 (kq ≤ k) ∧ Aside0 (Kd.R (Kd.int .u64) 22 w' w.heap.size (fun _ => True) v7 x7_1) ∧ Aside0 (w'.heap[gb859]? = some (.cells #[.int .u64 a0_0, .int .i64 a0_1, .int .i64 a0_2] 24 (0, 0))) ∧ Aside0 (Below w.heap.size w w'))
  case atStart => exact ⟨(([] : List Int)), (0), (by first | rfl | (simp; done) | (simp [*]; done)), H', ⟨Nat.le_refl _⟩, ⟨by first | exact Kd.R_nil _ _ _ _ _ | exact Kd.N_nil _ _ _ _ _ | exact Kd.V_nil _ _ _ _ _ | exact Kd.Q_nil _ _ _ _ _ | exact Kd.S_nil _ _ _ _ _⟩, ⟨by (with_reducible repeat (first | refine blk_drewN ?_ _ | refine blk_drew ?_ | refine blk_alloc ?_ _)); exact BK859.out⟩, ⟨by repeat (first | (with_reducible first | exact HB.out | apply below_alloc | apply pw_below_drewN | apply below_drew1 | refine below_set ?_ GE859.out) | exact HB.out)⟩⟩
  case round =>
    clear H'
    try clear c1
    try clear p2
    obtain ⟨x7_1, x12_1, rfl, HA, HK1, HO_7, BK859, HB⟩ := hrel
    cases gk with
    | zero => exact absurd HA.out (by simp [juntoref04_Scale.l0])
    | succ k1 =>
      have H := HA.out
      clear HA
      simp only [juntoref04_Scale.l0] at H
      by_cases c5 : x12_1 < (l1.length : Int)
      · rw [if_pos c5] at H
        have c5b0 : decide (x12_1 < (l1.length : Int)) = true := decide_eq_true c5
        clear c5
        by_cases c6 : 0 ≤ x12_1
        · rw [if_pos c6] at H
          have c6b0 : decide (0 ≤ x12_1) = true := decide_eq_true c6
          clear c6
          by_cases c7 : x12_1 < (l1.length : Int)
          · rw [if_pos c7] at H
            have c7b0 : decide (x12_1 < (l1.length : Int)) = true := decide_eq_true c7
            clear c7
            replace H := Option.bind_eq_some_iff.mp H
            obtain ⟨t861, A80, H⟩ := H
            replace H : (if x7_1.length < 17592186044416 then (juntoref04_Scale.l0 k1 a2 (x7_1 ++ [t861]) l1 (l1.length : Int) (wrap64 (x12_1 + 1)) a0_0 a0_1 a0_2) else (none)) = some r := H
            have A8 := Aside0.mk A80
            clear A80
            by_cases c9 : x7_1.length < 17592186044416
            · rw [if_pos c9] at H
              have LMc9 := Aside0.mk c9
              clear c9
              obtain ⟨y862, hy862⟩ : ∃ y_ : List Int, y_ = (x7_1 ++ [t861]) := ⟨_, rfl⟩
              replace H : (juntoref04_Scale.l0 k1 a2 y862 l1 (l1.length : Int) (wrap64 (x12_1 + 1)) a0_0 a0_1 a0_2) = some r := by first | (rw [hy862]; with_reducible exact H) | (have H2_ := (Option.bind_some _ _).symm.trans H; rw [hy862]; with_reducible exact H2_) | (have H2_ := (Option.bind_some _ _).symm.trans H; with_reducible exact H2_) | with_reducible exact H | (rw [hy862]; exact H) | exact H
              have Ny862 := Aside0.mk hy862
              clear hy862
              have H' := Aside0.mk H
              clear H
              have p860 : 0 ≤ (x12_1 : Int) := of_decide_eq_true (by first | (with_reducible assumption) | assumption)
              have q860 : x12_1 < (l1.length : Int) := of_decide_eq_true (by first | (with_reducible assumption) | assumption)
              obtain ⟨ad860, e860, hx860_0⟩ := Kd.at_int HR1.out x12_1 p860 q860
              cases e860
              replace hx860_0 := (HB.out.cell (World.block_lt_of_cell? w _ hx860_0)).trans hx860_0
              replace p860 := eq_true p860
              replace q860 := eq_true q860
              have hcz10_0 : wr.cell? ⟨gb859, 0, none⟩ = some (.int .u64 a0_0) := (blk_cell BK859.out 0).trans rfl
              have hcz10_1 : wr.cell? ⟨gb859, 1, none⟩ = some (.int .i64 a0_1) := (blk_cell BK859.out 1).trans rfl
              have hcz10_2 : wr.cell? ⟨gb859, 2, none⟩ = some (.int .i64 a0_2) := (blk_cell BK859.out 2).trans rfl
              have hfz10_0 := blk_frozen BK859.out 0
              have hfz10_1 := blk_frozen BK859.out 1
              have hfz10_2 := blk_frozen BK859.out 2
              go_wp2_with (first | ((with_reducible refine gate_callee (f := 59) rfl ?_); refine goesL_ (some 21) rfl rfl Try.func59 (by kernel_rfl) rfl #[.int .u64 a0_0, .int .u64 (rd l1 x12_1), .int .u64 a2] rfl (by (try simp only [List.map_toArray, List.map_cons, List.map_nil]); first | done | rfl | (simp only [List.length_drop, List.length_take]; rfl)) ?_; (with_reducible refine (juntoref01_Mul.calls a0_0 (rd l1 x12_1) a2 t861 _ A8.out).mono ?_); rintro e w' ⟨rfl, ⟨nd, rfl⟩⟩; refine ⟨_, rfl, ?_⟩) | ((with_reducible refine gate_builtin (b := .append) (xs := #[.tmp 16, .tmp 22]) rfl ?_); at_builtin; refine Kd.R_append (Kd.int .u64) (w0 := w) w.heap.size rfl (.tmp 16) (.tmp 22) 31 22 (.int .u64 0) 8 rfl Try.underlying31 info22 rfl (by decide) (by omega) u7 x7_1 t861 [.int .u64 t861] (fun _ => True) (fun _ => False) rfl rfl ?aP (fun _ hk => hk.elim) ?aF ?aO ?aB ?aS ?aL ?_; (case aP => exact rfl); (case aB => exact (by repeat (first | (with_reducible first | exact HB.out | apply below_alloc | apply pw_below_drewN | apply below_drew1 | refine below_set ?_ GE859.out) | exact HB.out))); (case aF => exact (fun _ _ => trivial)); (case aO => exact (by (with_reducible repeat (first | apply Kd.R_alloc | apply Kd.R_drewN | apply Kd.R_drew)); exact HO_7.out)); (case aS => exact (below_size (by repeat (first | (with_reducible first | exact HB.out | apply below_alloc | apply pw_below_drewN | apply below_drew1 | refine below_set ?_ GE859.out) | exact HB.out)))); (case aL => have := LMc9.out; omega); intro v863 w11 ho hb hg hat; rw [← Ny862.out] at ho; have n0_ := Aside0.mk (blk_grown (g := gb859) (o := .cells #[.int .u64 a0_0, .int .i64 a0_1, .int .i64 a0_2] 24 (0, 0)) (by (with_reducible repeat (first | refine blk_drewN ?_ _ | refine blk_drew ?_ | refine blk_alloc ?_ _)); exact BK859.out) hg (Kd.R_ne HO_7.out BK859.out (by decide))); have n1_ := Aside0.mk (hb); have n2_ := Aside0.mk (ho); clear BK859; clear HB; clear HO_7; have BK859 := n0_; have HB := n1_; have HO864 := n2_; clear n0_ n1_ n2_; clear ho hb hg hat))
              go_roundg k1
              case measure => have := HK1.out; omega
              case rel => exact ⟨(y862), (wrap64 (x12_1 + 1)), (by first | rfl | (simp; done) | (simp [*]; done)), H', ⟨by have := HK1.out; omega⟩, ⟨by (with_reducible repeat (first | apply Kd.R_alloc | apply Kd.R_drewN | apply Kd.R_drew)); exact HO864.out⟩, ⟨by (with_reducible repeat (first | refine blk_drewN ?_ _ | refine blk_drew ?_ | refine blk_alloc ?_ _)); exact BK859.out⟩, ⟨by repeat (first | (with_reducible first | exact HB.out | apply below_alloc | apply pw_below_drewN | apply below_drew1 | refine below_set ?_ GE859.out) | exact HB.out)⟩⟩
            · rw [if_neg c9] at H
              exact absurd H (by simp)
          · rw [if_neg c7] at H
            exact absurd H (by simp)
        · rw [if_neg c6] at H
          exact absurd H (by simp)
      · rw [if_neg c5] at H
        have c5b0 : decide (x12_1 < (l1.length : Int)) = false := decide_eq_false c5
        clear c5
        obtain rfl := Option.some.inj H
        go_wp2
        go_ret
        exact ⟨_, by first | rfl | (simp [errW_none, errW_some] <;> rfl) | (simp [*, errW_none, errW_some] <;> rfl), by (with_reducible repeat (first | apply Kd.R_alloc | apply Kd.R_drewN | apply Kd.R_drew)); exact HO_7.out, by repeat (first | (with_reducible first | exact HB.out | apply below_alloc | apply pw_below_drewN | apply below_drew1 | refine below_set ?_ GE859.out) | exact HB.out)⟩

end Go.Proofs.Ytjjnfobeeflnhaa.J

/- What Go functions of the program compute, as plain Lean functions, and that the machine comes to just these answers (written by a program for this seat). -/
namespace Go.Proofs.Ytjjnfobeeflnhaa.J
open Go.RowKit Go.Proofs.YtjjnfobeeflnhaaW.PrintWords Go.Proofs.YtjjnfobeeflnhaaW.PrintLast Go.Proofs.YtjjnfobeeflnhaaW.PrintMore
attribute [local go_sem] max2_int min2_int max_two min_two max_three min_three max_four min_four   -- for this text's walks alone
set_option linter.unusedVariables false
set_option linter.unusedSimpArgs false

/-! ### juntolaw04_ShareSums: function 17 -/
mutual
def juntolaw04_ShareSums.l0 : Nat → List (List Int) → Int → List Int → Int → Int → List (List Int) → Int → Int → Int → Int → Int → Option (Bool)
  | 0, _, _, _, _, _, _, _, _, _, _, _ => none
  | k + 1, x1, x2, x7, x8, x9, x23, x24, x25, x866000, x866001, x866002 => if x25 < x24 then (if 0 ≤ x25 then (if x25 < (x23.length : Int) then (if x9 = 0 then ((juntoref04_All.f k x866000 x866001 x866002 (rd_L3 x23 x25)).bind fun t872 => (juntolaw04_ShareSums.l0 k x1 x2 x7 x8 t872 x23 x24 (wrap64 (x25 + 1)) x866000 x866001 x866002)) else (juntolaw04_ShareSums.l0 k x1 x2 x7 x8 x9 x23 x24 (wrap64 (x25 + 1)) x866000 x866001 x866002)) else (none)) else (none)) else (if x9 = 0 then ((juntoref04_Sum.f k x866000 x866001 x866002 x1).bind fun t873 => ((juntolaw04_is.f k x7 x8 t873 0).bind fun t876 => (if t876 = true then (juntolaw04_ShareSums.j1 k x1 x2 x866000 x866001 x866002) else (some false)))) else ((juntolaw04_is.f k x7 x8 ([] : List Int) x9).bind fun t877 => (if t877 = true then (juntolaw04_ShareSums.j1 k x1 x2 x866000 x866001 x866002) else (some false))))
def juntolaw04_ShareSums.j1 : Nat → List (List Int) → Int → Int → Int → Int → Option (Bool)
  | 0, _, _, _, _, _ => none
  | k + 1, x1, x2, x866000, x866001, x866002 => if (x1.length : Int) > 0 then (if 0 < (x1.length : Int) then ((share_Scale.f k x866000 x866001 x866002 (rd_L3 x1 0) x2).bind fun bt879 => ((juntoref04_Setup.f k x866000 x866001 x866002).bind fun t883 => (if t883 = 0 then ((juntoref04_All.f k x866000 x866001 x866002 (rd_L3 x1 0)).bind fun t884 => (if t884 = 0 then (juntolaw04_ShareSums.j2 k x2 (rd_L3 x1 0) bt879.1 bt879.2 (decide (x2 ≥ x866000)) x866000 x866001 x866002) else (juntolaw04_ShareSums.j2 k x2 (rd_L3 x1 0) bt879.1 bt879.2 true x866000 x866001 x866002))) else (juntolaw04_ShareSums.j2 k x2 (rd_L3 x1 0) bt879.1 bt879.2 true x866000 x866001 x866002)))) else (none)) else ((share_Scale.f k x866000 x866001 x866002 ([] : List Int) x2).bind fun bt891 => ((juntoref04_Setup.f k x866000 x866001 x866002).bind fun t895 => (if t895 = 0 then ((juntoref04_All.f k x866000 x866001 x866002 ([] : List Int)).bind fun t896 => (if t896 = 0 then (juntolaw04_ShareSums.j3 k x2 ([] : List Int) bt891.1 bt891.2 (decide (x2 ≥ x866000)) x866000 x866001 x866002) else (juntolaw04_ShareSums.j3 k x2 ([] : List Int) bt891.1 bt891.2 true x866000 x866001 x866002))) else (juntolaw04_ShareSums.j3 k x2 ([] : List Int) bt891.1 bt891.2 true x866000 x866001 x866002))))
def juntolaw04_ShareSums.j2 : Nat → Int → List Int → List Int → Int → Bool → Int → Int → Int → Option (Bool)
  | 0, _, _, _, _, _, _, _, _ => none
  | k + 1, x2, x12, x13, x14, x76, x866000, x866001, x866002 => if x76 = true then ((juntolaw04_is.f k x13 x14 ([] : List Int) 2).bind fun t885 => (if t885 = true then ((juntolaw04_alive.f k).bind fun t886 => (some t886)) else (some false))) else ((juntoref04_Scale.f k x866000 x866001 x866002 x12 x2).bind fun t887 => ((juntolaw04_is.f k x13 x14 t887 0).bind fun t890 => (some t890)))
def juntolaw04_ShareSums.j3 : Nat → Int → List Int → List Int → Int → Bool → Int → Int → Int → Option (Bool)
  | 0, _, _, _, _, _, _, _, _ => none
  | k + 1, x2, x12, x13, x14, x76, x866000, x866001, x866002 => if x76 = true then ((juntolaw04_is.f k x13 x14 ([] : List Int) 2).bind fun t897 => (if t897 = true then ((juntolaw04_alive.f k).bind fun t898 => (some t898)) else (some false))) else ((juntoref04_Scale.f k x866000 x866001 x866002 x12 x2).bind fun t899 => ((juntolaw04_is.f k x13 x14 t899 0).bind fun t902 => (some t902)))
end
def juntolaw04_ShareSums.f (k : Nat) (a0_0 : Int) (a0_1 : Int) (a0_2 : Int) (l1 : List (List Int)) (a2 : Int) : Option (Bool) := (share_Sum.f k a0_0 a0_1 a0_2 l1).bind fun bt866 => ((juntoref04_Setup.f k a0_0 a0_1 a0_2).bind fun t870 => (juntolaw04_ShareSums.l0 k l1 a2 bt866.1 bt866.2 t870 l1 (l1.length : Int) 0 a0_0 a0_1 a0_2))
theorem juntolaw04_ShareSums.mono_l : ∀ k, (∀ y0 y1 y2 y3 y4 y5 y6 y7 y8 y9 y10, LeO (juntolaw04_ShareSums.l0 k y0 y1 y2 y3 y4 y5 y6 y7 y8 y9 y10) (juntolaw04_ShareSums.l0 (k + 1) y0 y1 y2 y3 y4 y5 y6 y7 y8 y9 y10)) ∧ (∀ y0 y1 y2 y3 y4, LeO (juntolaw04_ShareSums.j1 k y0 y1 y2 y3 y4) (juntolaw04_ShareSums.j1 (k + 1) y0 y1 y2 y3 y4)) ∧ (∀ y0 y1 y2 y3 y4 y5 y6 y7, LeO (juntolaw04_ShareSums.j2 k y0 y1 y2 y3 y4 y5 y6 y7) (juntolaw04_ShareSums.j2 (k + 1) y0 y1 y2 y3 y4 y5 y6 y7)) ∧ (∀ y0 y1 y2 y3 y4 y5 y6 y7, LeO (juntolaw04_ShareSums.j3 k y0 y1 y2 y3 y4 y5 y6 y7) (juntolaw04_ShareSums.j3 (k + 1) y0 y1 y2 y3 y4 y5 y6 y7))
  | 0 => ⟨fun _ _ _ _ _ _ _ _ _ _ _ r h => by simp [juntolaw04_ShareSums.l0] at h, fun _ _ _ _ _ r h => by simp [juntolaw04_ShareSums.j1] at h, fun _ _ _ _ _ _ _ _ r h => by simp [juntolaw04_ShareSums.j2] at h, fun _ _ _ _ _ _ _ _ r h => by simp [juntolaw04_ShareSums.j3] at h⟩
  | k + 1 => by
    obtain ⟨ih0, ih1, ih2, ih3⟩ := juntolaw04_ShareSums.mono_l k
    refine ⟨?_, ?_, ?_, ?_⟩
    · intro y0 y1 y2 y3 y4 y5 y6 y7 y8 y9 y10
      unfold juntolaw04_ShareSums.l0
      repeat' first
      | (with_reducible exact ih0 _ _ _ _ _ _ _ _ _ _ _)
      | (with_reducible exact ih1 _ _ _ _ _)
      | (with_reducible exact ih2 _ _ _ _ _ _ _ _)
      | (with_reducible exact ih3 _ _ _ _ _ _ _ _)
      | (with_reducible exact juntolaw04_alive.mono _)
      | (with_reducible exact juntolaw04_is.mono _ _ _ _ _)
      | (with_reducible exact juntoref04_All.mono _ _ _ _ _)
      | (with_reducible exact juntoref04_Scale.mono _ _ _ _ _ _)
      | (with_reducible exact juntoref04_Setup.mono _ _ _ _)
      | (with_reducible exact juntoref04_Sum.mono _ _ _ _ _)
      | (with_reducible exact share_Scale.mono _ _ _ _ _ _)
      | (with_reducible exact share_Sum.mono _ _ _ _ _)
      | (with_reducible exact LeO.refl _)
      | (with_reducible exact LeO.none _)
      | (with_reducible refine LeO.ite ?_ ?_)
      | (with_reducible refine LeO.bind ?_ (fun _ => ?_))
      | exact ih0 _ _ _ _ _ _ _ _ _ _ _
      | exact ih1 _ _ _ _ _
      | exact ih2 _ _ _ _ _ _ _ _
      | exact ih3 _ _ _ _ _ _ _ _
      | exact juntolaw04_alive.mono _
      | exact juntolaw04_is.mono _ _ _ _ _
      | exact juntoref04_All.mono _ _ _ _ _
      | exact juntoref04_Scale.mono _ _ _ _ _ _
      | exact juntoref04_Setup.mono _ _ _ _
      | exact juntoref04_Sum.mono _ _ _ _ _
      | exact share_Scale.mono _ _ _ _ _ _
      | exact share_Sum.mono _ _ _ _ _
      | exact LeO.none _
      | refine LeO.ite ?_ ?_
      | refine LeO.bind ?_ (fun _ => ?_)
    · intro y0 y1 y2 y3 y4
      unfold juntolaw04_ShareSums.j1
      repeat' first
      | (with_reducible exact ih0 _ _ _ _ _ _ _ _ _ _ _)
      | (with_reducible exact ih1 _ _ _ _ _)
      | (with_reducible exact ih2 _ _ _ _ _ _ _ _)
      | (with_reducible exact ih3 _ _ _ _ _ _ _ _)
      | (with_reducible exact juntolaw04_alive.mono _)
      | (with_reducible exact juntolaw04_is.mono _ _ _ _ _)
      | (with_reducible exact juntoref04_All.mono _ _ _ _ _)
      | (with_reducible exact juntoref04_Scale.mono _ _ _ _ _ _)
      | (with_reducible exact juntoref04_Setup.mono _ _ _ _)
      | (with_reducible exact juntoref04_Sum.mono _ _ _ _ _)
      | (with_reducible exact share_Scale.mono _ _ _ _ _ _)
      | (with_reducible exact share_Sum.mono _ _ _ _ _)
      | (with_reducible exact LeO.refl _)
      | (with_reducible exact LeO.none _)
      | (with_reducible refine LeO.ite ?_ ?_)
      | (with_reducible refine LeO.bind ?_ (fun _ => ?_))
      | exact ih0 _ _ _ _ _ _ _ _ _ _ _
      | exact ih1 _ _ _ _ _
      | exact ih2 _ _ _ _ _ _ _ _
      | exact ih3 _ _ _ _ _ _ _ _
      | exact juntolaw04_alive.mono _
      | exact juntolaw04_is.mono _ _ _ _ _
      | exact juntoref04_All.mono _ _ _ _ _
      | exact juntoref04_Scale.mono _ _ _ _ _ _
      | exact juntoref04_Setup.mono _ _ _ _
      | exact juntoref04_Sum.mono _ _ _ _ _
      | exact share_Scale.mono _ _ _ _ _ _
      | exact share_Sum.mono _ _ _ _ _
      | exact LeO.none _
      | refine LeO.ite ?_ ?_
      | refine LeO.bind ?_ (fun _ => ?_)
    · intro y0 y1 y2 y3 y4 y5 y6 y7
      unfold juntolaw04_ShareSums.j2
      repeat' first
      | (with_reducible exact ih0 _ _ _ _ _ _ _ _ _ _ _)
      | (with_reducible exact ih1 _ _ _ _ _)
      | (with_reducible exact ih2 _ _ _ _ _ _ _ _)
      | (with_reducible exact ih3 _ _ _ _ _ _ _ _)
      | (with_reducible exact juntolaw04_alive.mono _)
      | (with_reducible exact juntolaw04_is.mono _ _ _ _ _)
      | (with_reducible exact juntoref04_All.mono _ _ _ _ _)
      | (with_reducible exact juntoref04_Scale.mono _ _ _ _ _ _)
      | (with_reducible exact juntoref04_Setup.mono _ _ _ _)
      | (with_reducible exact juntoref04_Sum.mono _ _ _ _ _)
      | (with_reducible exact share_Scale.mono _ _ _ _ _ _)
      | (with_reducible exact share_Sum.mono _ _ _ _ _)
      | (with_reducible exact LeO.refl _)
      | (with_reducible exact LeO.none _)
      | (with_reducible refine LeO.ite ?_ ?_)
      | (with_reducible refine LeO.bind ?_ (fun _ => ?_))
      | exact ih0 _ _ _ _ _ _ _ _ _ _ _
      | exact ih1 _ _ _ _ _
      | exact ih2 _ _ _ _ _ _ _ _
      | exact ih3 _ _ _ _ _ _ _ _
      | exact juntolaw04_alive.mono _
      | exact juntolaw04_is.mono _ _ _ _ _
      | exact juntoref04_All.mono _ _ _ _ _
      | exact juntoref04_Scale.mono _ _ _ _ _ _
      | exact juntoref04_Setup.mono _ _ _ _
      | exact juntoref04_Sum.mono _ _ _ _ _
      | exact share_Scale.mono _ _ _ _ _ _
      | exact share_Sum.mono _ _ _ _ _
      | exact LeO.none _
      | refine LeO.ite ?_ ?_
      | refine LeO.bind ?_ (fun _ => ?_)
    · intro y0 y1 y2 y3 y4 y5 y6 y7
      unfold juntolaw04_ShareSums.j3
      repeat' first
      | (with_reducible exact ih0 _ _ _ _ _ _ _ _ _ _ _)
      | (with_reducible exact ih1 _ _ _ _ _)
      | (with_reducible exact ih2 _ _ _ _ _ _ _ _)
      | (with_reducible exact ih3 _ _ _ _ _ _ _ _)
      | (with_reducible exact juntolaw04_alive.mono _)
      | (with_reducible exact juntolaw04_is.mono _ _ _ _ _)
      | (with_reducible exact juntoref04_All.mono _ _ _ _ _)
      | (with_reducible exact juntoref04_Scale.mono _ _ _ _ _ _)
      | (with_reducible exact juntoref04_Setup.mono _ _ _ _)
      | (with_reducible exact juntoref04_Sum.mono _ _ _ _ _)
      | (with_reducible exact share_Scale.mono _ _ _ _ _ _)
      | (with_reducible exact share_Sum.mono _ _ _ _ _)
      | (with_reducible exact LeO.refl _)
      | (with_reducible exact LeO.none _)
      | (with_reducible refine LeO.ite ?_ ?_)
      | (with_reducible refine LeO.bind ?_ (fun _ => ?_))
      | exact ih0 _ _ _ _ _ _ _ _ _ _ _
      | exact ih1 _ _ _ _ _
      | exact ih2 _ _ _ _ _ _ _ _
      | exact ih3 _ _ _ _ _ _ _ _
      | exact juntolaw04_alive.mono _
      | exact juntolaw04_is.mono _ _ _ _ _
      | exact juntoref04_All.mono _ _ _ _ _
      | exact juntoref04_Scale.mono _ _ _ _ _ _
      | exact juntoref04_Setup.mono _ _ _ _
      | exact juntoref04_Sum.mono _ _ _ _ _
      | exact share_Scale.mono _ _ _ _ _ _
      | exact share_Sum.mono _ _ _ _ _
      | exact LeO.none _
      | refine LeO.ite ?_ ?_
      | refine LeO.bind ?_ (fun _ => ?_)
theorem juntolaw04_ShareSums.mono : ∀ a0 a1 a2 a3 a4 k, LeO (juntolaw04_ShareSums.f k a0 a1 a2 a3 a4) (juntolaw04_ShareSums.f (k + 1) a0 a1 a2 a3 a4) := by
  intro a0 a1 a2 a3 a4 k
  obtain ⟨ih0, ih1, ih2, ih3⟩ := juntolaw04_ShareSums.mono_l k
  unfold juntolaw04_ShareSums.f
  repeat' first
      | (with_reducible exact ih0 _ _ _ _ _ _ _ _ _ _ _)
      | (with_reducible exact ih1 _ _ _ _ _)
      | (with_reducible exact ih2 _ _ _ _ _ _ _ _)
      | (with_reducible exact ih3 _ _ _ _ _ _ _ _)
      | (with_reducible exact juntolaw04_alive.mono _)
      | (with_reducible exact juntolaw04_is.mono _ _ _ _ _)
      | (with_reducible exact juntoref04_All.mono _ _ _ _ _)
      | (with_reducible exact juntoref04_Scale.mono _ _ _ _ _ _)
      | (with_reducible exact juntoref04_Setup.mono _ _ _ _)
      | (with_reducible exact juntoref04_Sum.mono _ _ _ _ _)
      | (with_reducible exact share_Scale.mono _ _ _ _ _ _)
      | (with_reducible exact share_Sum.mono _ _ _ _ _)
      | (with_reducible exact LeO.refl _)
      | (with_reducible exact LeO.none _)
      | (with_reducible refine LeO.ite ?_ ?_)
      | (with_reducible refine LeO.bind ?_ (fun _ => ?_))
      | exact ih0 _ _ _ _ _ _ _ _ _ _ _
      | exact ih1 _ _ _ _ _
      | exact ih2 _ _ _ _ _ _ _ _
      | exact ih3 _ _ _ _ _ _ _ _
      | exact juntolaw04_alive.mono _
      | exact juntolaw04_is.mono _ _ _ _ _
      | exact juntoref04_All.mono _ _ _ _ _
      | exact juntoref04_Scale.mono _ _ _ _ _ _
      | exact juntoref04_Setup.mono _ _ _ _
      | exact juntoref04_Sum.mono _ _ _ _ _
      | exact share_Scale.mono _ _ _ _ _ _
      | exact share_Sum.mono _ _ _ _ _
      | exact LeO.none _
      | refine LeO.ite ?_ ?_
      | refine LeO.bind ?_ (fun _ => ?_)
set_option maxHeartbeats 8000000 in
set_option maxRecDepth 100000 in
theorem juntolaw04_ShareSums.calls (k : Nat) (a0_0 : Int) (a0_1 : Int) (a0_2 : Int) (A1 : Option Addr) (c1 : Nat) (l1 : List (List Int)) (a2 : Int) (r : Bool) (w : World) (hr1 : Kd.C (Kd.slice 22 (Kd.int .u64)) w A1 l1.length l1) (hc1 : l1.length ≤ c1) (h : juntolaw04_ShareSums.f k a0_0 a0_1 a0_2 l1 a2 = some r) (hrt : r = true := by rfl) :
    Calls Try.prog 17 #[.agg #[.int .u64 a0_0, .int .i64 a0_1, .int .i64 a0_2], .slice A1 l1.length c1, .int .u64 a2] w fun e w' => e = .returned (.bool r) ∧ Below w.heap.size w w' := by
  have HRT := Aside0.mk hrt
  clear hrt
  have hu24 := Try.underlying24
  have HR1 := Aside0.mk hr1
  have HC1 := Aside0.mk hc1
  clear hr1 hc1
  have HB := Aside0.mk (Below.refl w.heap.size w)
  have H : ((share_Sum.f k a0_0 a0_1 a0_2 l1).bind fun bt866 => ((juntoref04_Setup.f k a0_0 a0_1 a0_2).bind fun t870 => (juntolaw04_ShareSums.l0 k l1 a2 bt866.1 bt866.2 t870 l1 (l1.length : Int) 0 a0_0 a0_1 a0_2))) = some r := h
  clear h
  replace H := Option.bind_eq_some_iff.mp H
  obtain ⟨⟨t866, t869⟩, A40, H⟩ := H
  replace H : ((juntoref04_Setup.f k a0_0 a0_1 a0_2).bind fun t870 => (juntolaw04_ShareSums.l0 k l1 a2 t866 t869 t870 l1 (l1.length : Int) 0 a0_0 a0_1 a0_2)) = some r := H
  have A4 := Aside0.mk A40
  clear A40
  replace H := Option.bind_eq_some_iff.mp H
  obtain ⟨t870, A50, H⟩ := H
  replace H : (juntolaw04_ShareSums.l0 k l1 a2 t866 t869 t870 l1 (l1.length : Int) 0 a0_0 a0_1 a0_2) = some r := H
  have A5 := Aside0.mk A50
  clear A50
  have H' := Aside0.mk H
  clear H
  go_enter Try.func17, Try.ntmps17
  go_wp2_with (first | ((with_reducible refine gate_dst (N := 3) rfl ?_); refine box_event ?hg (N := 3) ?hd (cs := #[.int .u64 a0_0, .int .i64 a0_1, .int .i64 a0_2]) (t := 24) ?hr ?_; (case hd => rfl); (case hg => rfl); (case hr => first | (go_simp; done) | (go_simp; rfl)); intro gb865 hg w6 hbox hb; have n0_ := Aside0.mk (below_step (by repeat (first | (with_reducible first | exact HB.out | apply below_alloc | apply pw_below_drewN | apply below_drew1) | exact HB.out)) hb); have n1_ := Aside0.mk (hbox); have n2_ := Aside0.mk ((by rw [hg]; exact (below_size (by repeat (first | (with_reducible first | exact HB.out | apply below_alloc | apply pw_below_drewN | apply below_drew1) | exact HB.out))) : w.heap.size ≤ gb865)); have n3_ := Aside0.mk ((by rw [hg]; exact (below_size (by repeat (first | (with_reducible first | exact HB.out | apply below_alloc | apply pw_below_drewN | apply below_drew1) | exact HB.out))) : w.heap.size ≤ gb865)); clear HB; have HB := n0_; have BK865 := n1_; have GW865 := n2_; have GE865 := n3_; clear n0_ n1_ n2_ n3_; clear hb hbox hg; have hcz7_0 : w6.cell? ⟨gb865, 0, none⟩ = some (.int .u64 a0_0) := (blk_cell BK865.out 0).trans rfl; have hcz7_1 : w6.cell? ⟨gb865, 1, none⟩ = some (.int .i64 a0_1) := (blk_cell BK865.out 1).trans rfl; have hcz7_2 : w6.cell? ⟨gb865, 2, none⟩ = some (.int .i64 a0_2) := (blk_cell BK865.out 2).trans rfl; have hfz7_0 := blk_frozen BK865.out 0; have hfz7_1 := blk_frozen BK865.out 1; have hfz7_2 := blk_frozen BK865.out 2) | ((with_reducible refine gate_callee (f := 78) rfl ?_); refine goesL_ (some 18) rfl rfl Try.func78 (by kernel_rfl) rfl #[.agg #[.int .u64 a0_0, .int .i64 a0_1, .int .i64 a0_2], .slice A1 l1.length c1] rfl (by (try simp only [List.map_toArray, List.map_cons, List.map_nil]); first | done | rfl | (simp only [List.length_drop, List.length_take]; rfl)) ?_; (with_reducible refine (share_Sum.calls k a0_0 a0_1 a0_2 _ _ l1 t866 t869 _ ?side1 ?side2 A4.out).mono ?_); (case side1 => repeat (first | exact (Kd.C_below HR1.out HB.out) | (with_reducible refine Kd.C_alloc ?_ _) | (with_reducible refine Kd.C_drewN ?_ _) | (with_reducible refine Kd.C_drew ?_))); (case side2 => exact HC1.out); rintro e w8 ⟨v867, rfl, ho0, hb⟩; refine ⟨_, rfl, ?_⟩; have n0_ := Aside0.mk (Kd.R_lower ho0 (below_size (by repeat (first | (with_reducible first | exact HB.out | apply below_alloc | apply pw_below_drewN | apply below_drew1 | refine below_set ?_ GE865.out) | exact HB.out)))); have n1_ := Aside0.mk (blk_below (g := gb865) (o := .cells #[.int .u64 a0_0, .int .i64 a0_1, .int .i64 a0_2] 24 (0, 0)) (by (with_reducible repeat (first | refine blk_drewN ?_ _ | refine blk_drew ?_ | refine blk_alloc ?_ _)); exact BK865.out) hb); have n2_ := Aside0.mk (below_step (by repeat (first | (with_reducible first | exact HB.out | apply below_alloc | apply pw_below_drewN | apply below_drew1 | refine below_set ?_ GE865.out) | exact HB.out)) hb); clear BK865; clear HB; have HO868 := n0_; have BK865 := n1_; have HB := n2_; clear n0_ n1_ n2_; (try clear hb); (try clear hb2); (try clear hk); (try clear hi); (try clear ho0); have hcz9_0 : w8.cell? ⟨gb865, 0, none⟩ = some (.int .u64 a0_0) := (blk_cell BK865.out 0).trans rfl; have hcz9_1 : w8.cell? ⟨gb865, 1, none⟩ = some (.int .i64 a0_1) := (blk_cell BK865.out 1).trans rfl; have hcz9_2 : w8.cell? ⟨gb865, 2, none⟩ = some (.int .i64 a0_2) := (blk_cell BK865.out 2).trans rfl; have hfz9_0 := blk_frozen BK865.out 0; have hfz9_1 := blk_frozen BK865.out 1; have hfz9_2 := blk_frozen BK865.out 2) | ((with_reducible refine gate_callee (f := 42) rfl ?_); refine goesL_ (some 22) rfl rfl Try.func42 (by kernel_rfl) rfl #[.agg #[.int .u64 a0_0, .int .i64 a0_1, .int .i64 a0_2]] rfl (by (try simp only [List.map_toArray, List.map_cons, List.map_nil]); first | done | rfl | (simp only [List.length_drop, List.length_take]; rfl)) ?_; (with_reducible refine (juntoref04_Setup.calls k a0_0 a0_1 a0_2 t870 _ A5.out).mono ?_); rintro e w10 ⟨rfl, hb⟩; refine ⟨_, rfl, ?_⟩; have n0_ := Aside0.mk (Kd.R_below (by (with_reducible repeat (first | apply Kd.R_alloc | apply Kd.R_drewN | apply Kd.R_drew)); exact HO868.out) hb); have n1_ := Aside0.mk (blk_below (g := gb865) (o := .cells #[.int .u64 a0_0, .int .i64 a0_1, .int .i64 a0_2] 24 (0, 0)) (by (with_reducible repeat (first | refine blk_drewN ?_ _ | refine blk_drew ?_ | refine blk_alloc ?_ _)); exact BK865.out) hb); have n2_ := Aside0.mk (below_step (by repeat (first | (with_reducible first | exact HB.out | apply below_alloc | apply pw_below_drewN | apply below_drew1 | refine below_set ?_ GE865.out) | exact HB.out)) hb); clear HO868; clear BK865; clear HB; have HO868 := n0_; have BK865 := n1_; have HB := n2_; clear n0_ n1_ n2_; (try clear hb); (try clear hb2); (try clear hk); (try clear hi)))
  go_loopg [9, 25] k (fun kq v9 v25 w' => ∃ (x9_1 : Int) (x25_1 : Int), v9 = .int .i64 x9_1 ∧ v25 = .int .i64 x25_1 ∧ Aside0 (juntolaw04_ShareSums.l0 kq l1 a2 t866 t869 x9_1 l1 (l1.length : Int) x25_1 a0_0 a0_1 a0_2 = some r) ∧ Aside0 (kq ≤ k) ∧ Aside0 (Kd.R (Kd.int .u64) 22 w' w.heap.size (fun _ => True) v867 t866) ∧ Aside0 (w'.heap[gb865]? = some (.cells #[.int .u64 a0_0, .int .i64 a0_1, .int .i64 a0_2] 24 (0, 0))) ∧ Aside0 (Below w.heap.size w w'))
  case atStart => exact ⟨(t870), (0), (by first | rfl | (simp; done) | (simp [*]; done)), (by first | rfl | (simp; done) | (simp [*]; done)), H', ⟨Nat.le_refl _⟩, ⟨by (with_reducible repeat (first | apply Kd.R_alloc | apply Kd.R_drewN | apply Kd.R_drew)); exact HO868.out⟩, ⟨by (with_reducible repeat (first | refine blk_drewN ?_ _ | refine blk_drew ?_ | refine blk_alloc ?_ _)); exact BK865.out⟩, ⟨by repeat (first | (with_reducible first | exact HB.out | apply below_alloc | apply pw_below_drewN | apply below_drew1 | refine below_set ?_ GE865.out) | exact HB.out)⟩⟩
  case round =>
    clear H'
    try clear c1
    try clear p2
    try clear c4
    try clear c7
    try clear hcz7_0
    try clear hcz7_1
    try clear hcz7_2
    try clear hcz9_0
    try clear hcz9_1
    try clear hcz9_2
    try clear hfz7_0
    try clear hfz7_1
    try clear hfz7_2
    try clear hfz9_0
    try clear hfz9_1
    try clear hfz9_2
    obtain ⟨x9_1, x25_1, rfl, rfl, HA, HK1, HO_7, BK865, HB⟩ := hrel
    cases gk with
    | zero => exact absurd HA.out (by simp [juntolaw04_ShareSums.l0])
    | succ k1 =>
      have H := HA.out
      clear HA
      simp only [juntolaw04_ShareSums.l0] at H
      by_cases c11 : x25_1 < (l1.length : Int)
      · rw [if_pos c11] at H
        have c11b0 : decide (x25_1 < (l1.length : Int)) = true := decide_eq_true c11
        clear c11
        by_cases c12 : 0 ≤ x25_1
        · rw [if_pos c12] at H
          have c12b0 : decide (0 ≤ x25_1) = true := decide_eq_true c12
          clear c12
          by_cases c13 : x25_1 < (l1.length : Int)
          · rw [if_pos c13] at H
            have c13b0 : decide (x25_1 < (l1.length : Int)) = true := decide_eq_true c13
            clear c13
            by_cases c14 : x9_1 = 0
            · rw [if_pos c14] at H
              have c14b0 : (x9_1 == 0) = true := beq_iff_eq.mpr c14
              have c14b1 : (x9_1 != 0) = false := bne_eq_false_iff_eq.mpr c14
              clear c14
              replace H := Option.bind_eq_some_iff.mp H
              obtain ⟨t872, A150, H⟩ := H
              replace H : (juntolaw04_ShareSums.l0 k1 l1 a2 t866 t869 t872 l1 (l1.length : Int) (wrap64 (x25_1 + 1)) a0_0 a0_1 a0_2) = some r := H
              have A15 := Aside0.mk A150
              clear A150
              have H' := Aside0.mk H
              clear H
              have p871 : 0 ≤ (x25_1 : Int) := of_decide_eq_true (by first | (with_reducible assumption) | assumption)
              have q871 : x25_1 < (l1.length : Int) := of_decide_eq_true (by first | (with_reducible assumption) | assumption)
              obtain ⟨ad871, A871_0, c871_0, e871, hx871_0, hl871_0, hi871_0⟩ := at_L3 HR1.out x25_1 p871 q871
              cases e871
              replace hx871_0 := (HB.out.cell (World.block_lt_of_cell? w _ hx871_0)).trans hx871_0
              have HR871_0 := Aside0.mk hi871_0
              have HC871_0 := Aside0.mk hl871_0
              clear hi871_0 hl871_0
              replace p871 := eq_true p871
              replace q871 := eq_true q871
              have hcz16_0 : wr.cell? ⟨gb865, 0, none⟩ = some (.int .u64 a0_0) := (blk_cell BK865.out 0).trans rfl
              have hcz16_1 : wr.cell? ⟨gb865, 1, none⟩ = some (.int .i64 a0_1) := (blk_cell BK865.out 1).trans rfl
              have hcz16_2 : wr.cell? ⟨gb865, 2, none⟩ = some (.int .i64 a0_2) := (blk_cell BK865.out 2).trans rfl
              have hfz16_0 := blk_frozen BK865.out 0
              have hfz16_1 := blk_frozen BK865.out 1
              have hfz16_2 := blk_frozen BK865.out 2
              go_wp2_with (first | ((with_reducible refine gate_callee (f := 79) rfl ?_); refine goesL_ (some 33) rfl rfl Try.func79 (by kernel_rfl) rfl #[.agg #[.int .u64 a0_0, .int .i64 a0_1, .int .i64 a0_2], .slice A871_0 (rd_L3 l1 x25_1).length c871_0] rfl (by (try simp only [List.map_toArray, List.map_cons, List.map_nil]); first | done | rfl | (simp only [List.length_drop, List.length_take]; rfl)) ?_; (with_reducible refine (juntoref04_All.calls k1 a0_0 a0_1 a0_2 _ _ (rd_L3 l1 x25_1) t872 _ ?side1 ?side2 A15.out).mono ?_); (case side1 => repeat (first | exact (Kd.C_below HR871_0.out HB.out) | (with_reducible refine Kd.C_alloc ?_ _) | (with_reducible refine Kd.C_drewN ?_ _) | (with_reducible refine Kd.C_drew ?_))); (case side2 => exact HC871_0.out); rintro e w17 ⟨rfl, hb⟩; refine ⟨_, rfl, ?_⟩; have n0_ := Aside0.mk (Kd.R_below (by (with_reducible repeat (first | apply Kd.R_alloc | apply Kd.R_drewN | apply Kd.R_drew)); exact HO_7.out) hb); have n1_ := Aside0.mk (blk_below (g := gb865) (o := .cells #[.int .u64 a0_0, .int .i64 a0_1, .int .i64 a0_2] 24 (0, 0)) (by (with_reducible repeat (first | refine blk_drewN ?_ _ | refine blk_drew ?_ | refine blk_alloc ?_ _)); exact BK865.out) hb); have n2_ := Aside0.mk (below_step (by repeat (first | (with_reducible first | exact HB.out | apply below_alloc | apply pw_below_drewN | apply below_drew1 | refine below_set ?_ GE865.out) | exact HB.out)) hb); clear HO_7; clear BK865; clear HB; have HO_7 := n0_; have BK865 := n1_; have HB := n2_; clear n0_ n1_ n2_; (try clear hb); (try clear hb2); (try clear hk); (try clear hi)))
              go_roundg k1
              case measure => have := HK1.out; omega
              case rel => exact ⟨(t872), (wrap64 (x25_1 + 1)), (by first | rfl | (simp; done) | (simp [*]; done)), (by first | rfl | (simp; done) | (simp [*]; done)), H', ⟨by have := HK1.out; omega⟩, ⟨by (with_reducible repeat (first | apply Kd.R_alloc | apply Kd.R_drewN | apply Kd.R_drew)); exact HO_7.out⟩, ⟨by (with_reducible repeat (first | refine blk_drewN ?_ _ | refine blk_drew ?_ | refine blk_alloc ?_ _)); exact BK865.out⟩, ⟨by repeat (first | (with_reducible first | exact HB.out | apply below_alloc | apply pw_below_drewN | apply below_drew1 | refine below_set ?_ GE865.out) | exact HB.out)⟩⟩
            · rw [if_neg c14] at H
              have c14b0 : (x9_1 == 0) = false := beq_eq_false_iff_ne.mpr c14
              have c14b1 : (x9_1 != 0) = true := bne_iff_ne.mpr c14
              have H' := Aside0.mk H
              clear H
              have p871 : 0 ≤ (x25_1 : Int) := of_decide_eq_true (by first | (with_reducible assumption) | assumption)
              have q871 : x25_1 < (l1.length : Int) := of_decide_eq_true (by first | (with_reducible assumption) | assumption)
              obtain ⟨ad871, A871_0, c871_0, e871, hx871_0, hl871_0, hi871_0⟩ := at_L3 HR1.out x25_1 p871 q871
              cases e871
              replace hx871_0 := (HB.out.cell (World.block_lt_of_cell? w _ hx871_0)).trans hx871_0
              have HR871_0 := Aside0.mk hi871_0
              have HC871_0 := Aside0.mk hl871_0
              clear hi871_0 hl871_0
              replace p871 := eq_true p871
              replace q871 := eq_true q871
              go_wp2
              go_roundg k1
              case measure => have := HK1.out; omega
              case rel => exact ⟨(x9_1), (wrap64 (x25_1 + 1)), (by first | rfl | (simp; done) | (simp [*]; done)), (by first | rfl | (simp; done) | (simp [*]; done)), H', ⟨by have := HK1.out; omega⟩, ⟨by (with_reducible repeat (first | apply Kd.R_alloc | apply Kd.R_drewN | apply Kd.R_drew)); exact HO_7.out⟩, ⟨by (with_reducible repeat (first | refine blk_drewN ?_ _ | refine blk_drew ?_ | refine blk_alloc ?_ _)); exact BK865.out⟩, ⟨by repeat (first | (with_reducible first | exact HB.out | apply below_alloc | apply pw_below_drewN | apply below_drew1 | refine below_set ?_ GE865.out) | exact HB.out)⟩⟩
          · rw [if_neg c13] at H
            exact absurd H (by simp)
        · rw [if_neg c12] at H
          exact absurd H (by simp)
      · rw [if_neg c11] at H
        have c11b0 : decide (x25_1 < (l1.length : Int)) = false := decide_eq_false c11
        clear c11
        have HC18 := Aside0.mk H
        clear H
        go_upto_if 36 with (fail)
        go_cut [] (fun wc => ∃ (kq : Nat), Aside0 (juntolaw04_ShareSums.j1 kq l1 a2 a0_0 a0_1 a0_2 = some r) ∧ Aside0 (kq ≤ k1) ∧ Aside0 (wc.heap[gb865]? = some (.cells #[.int .u64 a0_0, .int .i64 a0_1, .int .i64 a0_2] 24 (0, 0))) ∧ Aside0 (Below w.heap.size w wc))
        case first =>
          have H := HC18.out
          clear HC18
          by_cases c19 : x9_1 = 0
          · rw [if_pos c19] at H
            have c19b0 : (x9_1 == 0) = true := beq_iff_eq.mpr c19
            have c19b1 : (x9_1 != 0) = false := bne_eq_false_iff_eq.mpr c19
            clear c19
            (first | rw [c19b0] | (simp only [i64_w, i32_w]; rw [c19b0]) | skip)
            replace H := Option.bind_eq_some_iff.mp H
            obtain ⟨t873, A200, H⟩ := H
            replace H : ((juntolaw04_is.f k1 t866 t869 t873 0).bind fun t876 => (if t876 = true then (juntolaw04_ShareSums.j1 k1 l1 a2 a0_0 a0_1 a0_2) else (some false))) = some r := H
            have A20 := Aside0.mk A200
            clear A200
            replace H := Option.bind_eq_some_iff.mp H
            obtain ⟨t876, A210, H⟩ := H
            replace H : (if t876 = true then (juntolaw04_ShareSums.j1 k1 l1 a2 a0_0 a0_1 a0_2) else (some false)) = some r := H
            have A21 := Aside0.mk A210
            clear A210
            by_cases c22 : t876 = true
            · subst c22
              have H1 : (juntolaw04_ShareSums.j1 k1 l1 a2 a0_0 a0_1 a0_2) = some r := by rw [if_pos rfl] at H; exact H
              clear H
              have H := H1
              clear H1
              have H' := Aside0.mk H
              clear H
              have hcz23_0 : wr.cell? ⟨gb865, 0, none⟩ = some (.int .u64 a0_0) := (blk_cell BK865.out 0).trans rfl
              have hcz23_1 : wr.cell? ⟨gb865, 1, none⟩ = some (.int .i64 a0_1) := (blk_cell BK865.out 1).trans rfl
              have hcz23_2 : wr.cell? ⟨gb865, 2, none⟩ = some (.int .i64 a0_2) := (blk_cell BK865.out 2).trans rfl
              have hfz23_0 := blk_frozen BK865.out 0
              have hfz23_1 := blk_frozen BK865.out 1
              have hfz23_2 := blk_frozen BK865.out 2
              go_wp2_with (first | ((with_reducible refine gate_callee (f := 80) rfl ?_); refine goesL_ (some 46) rfl rfl Try.func80 (by kernel_rfl) rfl #[.agg #[.int .u64 a0_0, .int .i64 a0_1, .int .i64 a0_2], .slice A1 l1.length c1] rfl (by (try simp only [List.map_toArray, List.map_cons, List.map_nil]); first | done | rfl | (simp only [List.length_drop, List.length_take]; rfl)) ?_; (with_reducible refine (juntoref04_Sum.calls k1 a0_0 a0_1 a0_2 _ _ l1 t873 _ ?side1 ?side2 A20.out).mono ?_); (case side1 => repeat (first | exact (Kd.C_below HR1.out HB.out) | (with_reducible refine Kd.C_alloc ?_ _) | (with_reducible refine Kd.C_drewN ?_ _) | (with_reducible refine Kd.C_drew ?_))); (case side2 => exact HC1.out); rintro e w24 ⟨v874, rfl, ho0, hb⟩; refine ⟨_, rfl, ?_⟩; have n0_ := Aside0.mk (Kd.R_elder' (by (with_reducible repeat (first | apply Kd.R_alloc | apply Kd.R_drewN | apply Kd.R_drew)); exact HO_7.out) (Kd.R_base ho0) hb); have n1_ := Aside0.mk (Kd.R_lower (Kd.R_new' ho0 (Kd.R_lt (by (with_reducible repeat (first | apply Kd.R_alloc | apply Kd.R_drewN | apply Kd.R_drew)); exact HO_7.out))) (below_size (by repeat (first | (with_reducible first | exact HB.out | apply below_alloc | apply pw_below_drewN | apply below_drew1 | refine below_set ?_ GE865.out) | exact HB.out)))); have n2_ := Aside0.mk (blk_below (g := gb865) (o := .cells #[.int .u64 a0_0, .int .i64 a0_1, .int .i64 a0_2] 24 (0, 0)) (by (with_reducible repeat (first | refine blk_drewN ?_ _ | refine blk_drew ?_ | refine blk_alloc ?_ _)); exact BK865.out) hb); have n3_ := Aside0.mk (below_step (by repeat (first | (with_reducible first | exact HB.out | apply below_alloc | apply pw_below_drewN | apply below_drew1 | refine below_set ?_ GE865.out) | exact HB.out)) hb); clear HO_7; clear BK865; clear HB; have HO_7 := n0_; have HO875 := n1_; have BK865 := n2_; have HB := n3_; clear n0_ n1_ n2_ n3_; (try clear hb); (try clear hb2); (try clear hk); (try clear hi); (try clear ho0); obtain ⟨Ao25, co25, eo25⟩ := Kd.R_slice HO_7.out; subst eo25; obtain ⟨Ao26, co26, eo26⟩ := Kd.R_slice HO875.out; subst eo26) | ((with_reducible refine gate_callee (f := 69) rfl ?_); refine goesL_ (some 47) rfl rfl Try.func69 (by kernel_rfl) rfl #[.slice Ao25 t866.length co25, .int .i64 t869, .slice Ao26 t873.length co26, .int .i64 0] rfl (by (try simp only [List.map_toArray, List.map_cons, List.map_nil]); first | done | rfl | (simp only [List.length_drop, List.length_take]; rfl)) ?_; (with_reducible refine (juntolaw04_is.calls k1 _ _ t866 t869 _ _ t873 0 true _ ?side1 ?side2 ?side3 ?side4 A21.out).mono ?_); (case side1 => repeat (first | exact (Kd.R_reads' HO_7.out).2.2 | (with_reducible refine Kd.C_alloc ?_ _) | (with_reducible refine Kd.C_drewN ?_ _) | (with_reducible refine Kd.C_drew ?_))); (case side2 => exact (Kd.R_reads' HO_7.out).2.1); (case side3 => repeat (first | exact (Kd.R_reads' HO875.out).2.2 | (with_reducible refine Kd.C_alloc ?_ _) | (with_reducible refine Kd.C_drewN ?_ _) | (with_reducible refine Kd.C_drew ?_))); (case side4 => exact (Kd.R_reads' HO875.out).2.1); rintro e w' ⟨rfl, ⟨nd, rfl⟩⟩; refine ⟨_, rfl, ?_⟩))
              go_meet
              case rel => exact ⟨_, H', ⟨by have := HK1.out; first | omega | exact Nat.le_refl _⟩, ⟨by (with_reducible repeat (first | refine blk_drewN ?_ _ | refine blk_drew ?_ | refine blk_alloc ?_ _)); exact BK865.out⟩, ⟨by repeat (first | (with_reducible first | exact HB.out | apply below_alloc | apply pw_below_drewN | apply below_drew1 | refine below_set ?_ GE865.out) | exact HB.out)⟩⟩
            · replace c22 := Bool.eq_false_iff.mpr c22
              subst c22
              have H1 : (some false) = some r := by rw [if_neg (show ¬ (false = true) by decide)] at H; exact H
              clear H
              have H := H1
              clear H1
              exact absurd ((Option.some.inj H).trans HRT.out) (by decide)
          · rw [if_neg c19] at H
            have c19b0 : (x9_1 == 0) = false := beq_eq_false_iff_ne.mpr c19
            have c19b1 : (x9_1 != 0) = true := bne_iff_ne.mpr c19
            (first | rw [c19b0] | (simp only [i64_w, i32_w]; rw [c19b0]) | skip)
            replace H := Option.bind_eq_some_iff.mp H
            obtain ⟨t877, A270, H⟩ := H
            replace H : (if t877 = true then (juntolaw04_ShareSums.j1 k1 l1 a2 a0_0 a0_1 a0_2) else (some false)) = some r := H
            have A27 := Aside0.mk A270
            clear A270
            by_cases c28 : t877 = true
            · subst c28
              have H1 : (juntolaw04_ShareSums.j1 k1 l1 a2 a0_0 a0_1 a0_2) = some r := by rw [if_pos rfl] at H; exact H
              clear H
              have H := H1
              clear H1
              have H' := Aside0.mk H
              clear H
              obtain ⟨Ao29, co29, eo29⟩ := Kd.R_slice HO_7.out
              subst eo29
              go_wp2_with (first | ((with_reducible refine gate_callee (f := 69) rfl ?_); refine goesL_ (some 40) rfl rfl Try.func69 (by kernel_rfl) rfl #[.slice Ao29 t866.length co29, .int .i64 t869, .slice none 0 0, .int .i64 x9_1] rfl (by (try simp only [List.map_toArray, List.map_cons, List.map_nil]); first | done | rfl | (simp only [List.length_drop, List.length_take]; rfl)) ?_; (refine (juntolaw04_is.calls k1 _ _ t866 t869 _ _ ([] : List Int) x9_1 true _ ?side1 ?side2 ?side3 ?side4 A27.out).mono ?_); (case side1 => repeat (first | exact (Kd.R_reads' HO_7.out).2.2 | (with_reducible refine Kd.C_alloc ?_ _) | (with_reducible refine Kd.C_drewN ?_ _) | (with_reducible refine Kd.C_drew ?_))); (case side2 => exact (Kd.R_reads' HO_7.out).2.1); (case side3 => exact Kd.C_nil _ _); (case side4 => exact Nat.le_refl _); rintro e w' ⟨rfl, ⟨nd, rfl⟩⟩; refine ⟨_, rfl, ?_⟩))
              go_meet
              case rel => exact ⟨_, H', ⟨by have := HK1.out; first | omega | exact Nat.le_refl _⟩, ⟨by (with_reducible repeat (first | refine blk_drewN ?_ _ | refine blk_drew ?_ | refine blk_alloc ?_ _)); exact BK865.out⟩, ⟨by repeat (first | (with_reducible first | exact HB.out | apply below_alloc | apply pw_below_drewN | apply below_drew1 | refine below_set ?_ GE865.out) | exact HB.out)⟩⟩
            · replace c28 := Bool.eq_false_iff.mpr c28
              subst c28
              have H1 : (some false) = some r := by rw [if_neg (show ¬ (false = true) by decide)] at H; exact H
              clear H
              have H := H1
              clear H1
              exact absurd ((Option.some.inj H).trans HRT.out) (by decide)
        case rest =>
          clear HC18
          try clear c1
          try clear c2
          try clear p2
          try clear c4
          try clear c6
          try clear p6
          try clear c7
          try clear c8
          try clear p8
          try clear q8
          try clear hx8
          try clear c11
          try clear c11b0
          try clear c12
          try clear c12b0
          try clear c13
          try clear c13b0
          try clear c14
          try clear c14b0
          try clear c14b1
          try clear c17
          try clear c19
          try clear c19b0
          try clear c19b1
          try clear c22
          try clear c28
          try clear hcz16_0
          try clear hcz16_1
          try clear hcz16_2
          try clear hcz23_0
          try clear hcz23_1
          try clear hcz23_2
          try clear hcz7_0
          try clear hcz7_1
          try clear hcz7_2
          try clear hcz9_0
          try clear hcz9_1
          try clear hcz9_2
          try clear hfz16_0
          try clear hfz16_1
          try clear hfz16_2
          try clear hfz23_0
          try clear hfz23_1
          try clear hfz23_2
          try clear hfz7_0
          try clear hfz7_1
          try clear hfz7_2
          try clear hfz9_0
          try clear hfz9_1
          try clear hfz9_2
          try clear hx871_0
          try clear p2
          try clear p871
          try clear q871
          obtain ⟨kq, HA, HJ17, BK865, HB⟩ := hcut
          cases kq with
          | zero => exact absurd HA.out (by simp [juntolaw04_ShareSums.j1])
          | succ kj17 =>
            have H := HA.out
            clear HA
            simp only [juntolaw04_ShareSums.j1] at H
            by_cases c30 : (l1.length : Int) > 0
            · rw [if_pos c30] at H
              have c30b0 : decide (0 < (l1.length : Int)) = true := decide_eq_true c30
              have c30b1 : decide (0 < l1.length) = true := decide_eq_true (by omega)
              clear c30
              by_cases c31 : 0 < (l1.length : Int)
              · rw [if_pos c31] at H
                have c31b0 : decide (0 < (l1.length : Int)) = true := decide_eq_true c31
                have c31b1 : decide (0 < l1.length) = true := decide_eq_true (by omega)
                clear c31
                replace H := Option.bind_eq_some_iff.mp H
                obtain ⟨⟨t879, t882⟩, A320, H⟩ := H
                replace H : ((juntoref04_Setup.f kj17 a0_0 a0_1 a0_2).bind fun t883 => (if t883 = 0 then ((juntoref04_All.f kj17 a0_0 a0_1 a0_2 (rd_L3 l1 0)).bind fun t884 => (if t884 = 0 then (juntolaw04_ShareSums.j2 kj17 a2 (rd_L3 l1 0) t879 t882 (decide (a2 ≥ a0_0)) a0_0 a0_1 a0_2) else (juntolaw04_ShareSums.j2 kj17 a2 (rd_L3 l1 0) t879 t882 true a0_0 a0_1 a0_2))) else (juntolaw04_ShareSums.j2 kj17 a2 (rd_L3 l1 0) t879 t882 true a0_0 a0_1 a0_2))) = some r := H
                have A32 := Aside0.mk A320
                clear A320
                have HC33 := Aside0.mk H
                clear H
                have p878 : 0 ≤ (0 : Int) := (by omega)
                have q878 : 0 < (l1.length : Int) := of_decide_eq_true (by first | (with_reducible assumption) | assumption)
                obtain ⟨ad878, A878_0, c878_0, e878, hx878_0, hl878_0, hi878_0⟩ := at_L3 HR1.out 0 p878 q878
                cases e878
                have qi878 : (0 < l1.length) = True := eq_true (by omega)
                (try rw [show ((0 : Int)).toNat = 0 from rfl] at hx878_0)
                (try rw [Addr.add_zero'] at hx878_0)
                replace hx878_0 := (HB.out.cell (World.block_lt_of_cell? w _ hx878_0)).trans hx878_0
                have HR878_0 := Aside0.mk hi878_0
                have HC878_0 := Aside0.mk hl878_0
                clear hi878_0 hl878_0
                replace p878 := eq_true p878
                replace q878 := eq_true q878
                have hcz34_0 : wc.cell? ⟨gb865, 0, none⟩ = some (.int .u64 a0_0) := (blk_cell BK865.out 0).trans rfl
                have hcz34_1 : wc.cell? ⟨gb865, 1, none⟩ = some (.int .i64 a0_1) := (blk_cell BK865.out 1).trans rfl
                have hcz34_2 : wc.cell? ⟨gb865, 2, none⟩ = some (.int .i64 a0_2) := (blk_cell BK865.out 2).trans rfl
                have hfz34_0 := blk_frozen BK865.out 0
                have hfz34_1 := blk_frozen BK865.out 1
                have hfz34_2 := blk_frozen BK865.out 2
                go_upto_region 18 with (first | ((with_reducible refine gate_callee (f := 81) rfl ?_); refine goesL_ (some 59) rfl rfl Try.func81 (by kernel_rfl) rfl #[.agg #[.int .u64 a0_0, .int .i64 a0_1, .int .i64 a0_2], .slice A878_0 (rd_L3 l1 0).length c878_0, .int .u64 a2] rfl (by (try simp only [List.map_toArray, List.map_cons, List.map_nil]); first | done | rfl | (simp only [List.length_drop, List.length_take]; rfl)) ?_; (with_reducible refine (share_Scale.calls kj17 a0_0 a0_1 a0_2 (fun k_ => k_ < w.heap.size) _ _ (rd_L3 l1 0) a2 t879 t882 _ ?side1 A32.out).mono ?_); (case side1 => exact Kd.V_mk HC878_0.out (Kd.F_below (Kd.C_F (Kd.heap_int .u64) HR878_0.out) (by repeat (first | (with_reducible first | exact HB.out | apply below_alloc | apply pw_below_drewN | apply below_drew1 | refine below_set ?_ GE865.out) | exact HB.out)))); rintro e w35 ⟨v880, rfl, ho0, hb⟩; refine ⟨_, rfl, ?_⟩; have n0_ := Aside0.mk (Kd.R_lower (Kd.R_mono (ok' := fun k_ => True) ho0 (fun _ hk_ => trivial)) (below_size (by repeat (first | (with_reducible first | exact HB.out | apply below_alloc | apply pw_below_drewN | apply below_drew1 | refine below_set ?_ GE865.out) | exact HB.out)))); have n1_ := Aside0.mk (blk_below (g := gb865) (o := .cells #[.int .u64 a0_0, .int .i64 a0_1, .int .i64 a0_2] 24 (0, 0)) (by (with_reducible repeat (first | refine blk_drewN ?_ _ | refine blk_drew ?_ | refine blk_alloc ?_ _)); exact BK865.out) hb); have n2_ := Aside0.mk (below_step (by repeat (first | (with_reducible first | exact HB.out | apply below_alloc | apply pw_below_drewN | apply below_drew1 | refine below_set ?_ GE865.out) | exact HB.out)) hb); clear BK865; clear HB; have HO881 := n0_; have BK865 := n1_; have HB := n2_; clear n0_ n1_ n2_; (try clear hb); (try clear hb2); (try clear hk); (try clear hi); (try clear ho0)))
                (try simp only [Act.put, List.setIfInBounds_toArray, List.set_cons_zero, List.set_cons_succ])
                go_cut [76] (fun v76 wc => ∃ (kq : Nat) (x76_32 : Bool), v76 = .bool x76_32 ∧ Aside0 (juntolaw04_ShareSums.j2 kq a2 (rd_L3 l1 0) t879 t882 x76_32 a0_0 a0_1 a0_2 = some r) ∧ Aside0 (kq ≤ kj17) ∧ Aside0 (Kd.R (Kd.int .u64) 22 wc w.heap.size (fun _ => True) v880 t879) ∧ Aside0 (wc.heap[gb865]? = some (.cells #[.int .u64 a0_0, .int .i64 a0_1, .int .i64 a0_2] 24 (0, 0))) ∧ Aside0 (Below w.heap.size w wc))
                case first =>
                  have H := HC33.out
                  clear HC33
                  replace H := Option.bind_eq_some_iff.mp H
                  obtain ⟨t883, A360, H⟩ := H
                  replace H : (if t883 = 0 then ((juntoref04_All.f kj17 a0_0 a0_1 a0_2 (rd_L3 l1 0)).bind fun t884 => (if t884 = 0 then (juntolaw04_ShareSums.j2 kj17 a2 (rd_L3 l1 0) t879 t882 (decide (a2 ≥ a0_0)) a0_0 a0_1 a0_2) else (juntolaw04_ShareSums.j2 kj17 a2 (rd_L3 l1 0) t879 t882 true a0_0 a0_1 a0_2))) else (juntolaw04_ShareSums.j2 kj17 a2 (rd_L3 l1 0) t879 t882 true a0_0 a0_1 a0_2)) = some r := H
                  have A36 := Aside0.mk A360
                  clear A360
                  by_cases c37 : t883 = 0
                  · rw [if_pos c37] at H
                    have c37b0 : (t883 == 0) = true := beq_iff_eq.mpr c37
                    have c37b1 : (t883 != 0) = false := bne_eq_false_iff_eq.mpr c37
                    clear c37
                    (first | rw [c37b0] | (simp only [i64_w, i32_w]; rw [c37b0]) | skip)
                    replace H := Option.bind_eq_some_iff.mp H
                    obtain ⟨t884, A380, H⟩ := H
                    replace H : (if t884 = 0 then (juntolaw04_ShareSums.j2 kj17 a2 (rd_L3 l1 0) t879 t882 (decide (a2 ≥ a0_0)) a0_0 a0_1 a0_2) else (juntolaw04_ShareSums.j2 kj17 a2 (rd_L3 l1 0) t879 t882 true a0_0 a0_1 a0_2)) = some r := H
                    have A38 := Aside0.mk A380
                    clear A380
                    by_cases c39 : t884 = 0
                    · rw [if_pos c39] at H
                      have c39b0 : (t884 == 0) = true := beq_iff_eq.mpr c39
                      have c39b1 : (t884 != 0) = false := bne_eq_false_iff_eq.mpr c39
                      clear c39
                      have H' := Aside0.mk H
                      clear H
                      have hcz40_0 : w35.cell? ⟨gb865, 0, none⟩ = some (.int .u64 a0_0) := (blk_cell BK865.out 0).trans rfl
                      have hcz40_1 : w35.cell? ⟨gb865, 1, none⟩ = some (.int .i64 a0_1) := (blk_cell BK865.out 1).trans rfl
                      have hcz40_2 : w35.cell? ⟨gb865, 2, none⟩ = some (.int .i64 a0_2) := (blk_cell BK865.out 2).trans rfl
                      have hfz40_0 := blk_frozen BK865.out 0
                      have hfz40_1 := blk_frozen BK865.out 1
                      have hfz40_2 := blk_frozen BK865.out 2
                      go_wp2_with (first | ((with_reducible refine gate_callee (f := 42) rfl ?_); refine goesL_ (some 63) rfl rfl Try.func42 (by kernel_rfl) rfl #[.agg #[.int .u64 a0_0, .int .i64 a0_1, .int .i64 a0_2]] rfl (by (try simp only [List.map_toArray, List.map_cons, List.map_nil]); first | done | rfl | (simp only [List.length_drop, List.length_take]; rfl)) ?_; (with_reducible refine (juntoref04_Setup.calls kj17 a0_0 a0_1 a0_2 t883 _ A36.out).mono ?_); rintro e w41 ⟨rfl, hb⟩; refine ⟨_, rfl, ?_⟩; have n0_ := Aside0.mk (Kd.R_below (by (with_reducible repeat (first | apply Kd.R_alloc | apply Kd.R_drewN | apply Kd.R_drew)); exact HO881.out) hb); have n1_ := Aside0.mk (blk_below (g := gb865) (o := .cells #[.int .u64 a0_0, .int .i64 a0_1, .int .i64 a0_2] 24 (0, 0)) (by (with_reducible repeat (first | refine blk_drewN ?_ _ | refine blk_drew ?_ | refine blk_alloc ?_ _)); exact BK865.out) hb); have n2_ := Aside0.mk (below_step (by repeat (first | (with_reducible first | exact HB.out | apply below_alloc | apply pw_below_drewN | apply below_drew1 | refine below_set ?_ GE865.out) | exact HB.out)) hb); clear HO881; clear BK865; clear HB; have HO881 := n0_; have BK865 := n1_; have HB := n2_; clear n0_ n1_ n2_; (try clear hb); (try clear hb2); (try clear hk); (try clear hi); have hcz42_0 : w41.cell? ⟨gb865, 0, none⟩ = some (.int .u64 a0_0) := (blk_cell BK865.out 0).trans rfl; have hcz42_1 : w41.cell? ⟨gb865, 1, none⟩ = some (.int .i64 a0_1) := (blk_cell BK865.out 1).trans rfl; have hcz42_2 : w41.cell? ⟨gb865, 2, none⟩ = some (.int .i64 a0_2) := (blk_cell BK865.out 2).trans rfl; have hfz42_0 := blk_frozen BK865.out 0; have hfz42_1 := blk_frozen BK865.out 1; have hfz42_2 := blk_frozen BK865.out 2) | (go_at_call 79; (with_reducible refine (juntoref04_All.calls kj17 a0_0 a0_1 a0_2 _ _ (rd_L3 l1 0) t884 _ ?side1 ?side2 A38.out).mono ?_); (case side1 => repeat (first | exact (Kd.C_below HR878_0.out HB.out) | (with_reducible refine Kd.C_alloc ?_ _) | (with_reducible refine Kd.C_drewN ?_ _) | (with_reducible refine Kd.C_drew ?_))); (case side2 => exact HC878_0.out); rintro e w43 ⟨rfl, hb⟩; have n0_ := Aside0.mk (Kd.R_below (by (with_reducible repeat (first | apply Kd.R_alloc | apply Kd.R_drewN | apply Kd.R_drew)); exact HO881.out) hb); have n1_ := Aside0.mk (blk_below (g := gb865) (o := .cells #[.int .u64 a0_0, .int .i64 a0_1, .int .i64 a0_2] 24 (0, 0)) (by (with_reducible repeat (first | refine blk_drewN ?_ _ | refine blk_drew ?_ | refine blk_alloc ?_ _)); exact BK865.out) hb); have n2_ := Aside0.mk (below_step (by repeat (first | (with_reducible first | exact HB.out | apply below_alloc | apply pw_below_drewN | apply below_drew1 | refine below_set ?_ GE865.out) | exact HB.out)) hb); clear HO881; clear BK865; clear HB; have HO881 := n0_; have BK865 := n1_; have HB := n2_; clear n0_ n1_ n2_; (try clear hb); (try clear hb2); (try clear hk); (try clear hi); have hcz44_0 : w43.cell? ⟨gb865, 0, none⟩ = some (.int .u64 a0_0) := (blk_cell BK865.out 0).trans rfl; have hcz44_1 : w43.cell? ⟨gb865, 1, none⟩ = some (.int .i64 a0_1) := (blk_cell BK865.out 1).trans rfl; have hcz44_2 : w43.cell? ⟨gb865, 2, none⟩ = some (.int .i64 a0_2) := (blk_cell BK865.out 2).trans rfl; have hfz44_0 := blk_frozen BK865.out 0; have hfz44_1 := blk_frozen BK865.out 1; have hfz44_2 := blk_frozen BK865.out 2))
                      go_meet
                      case rel => exact ⟨_, (decide (a2 ≥ a0_0)), (by first | rfl | (simp; done) | (simp [*]; done)), H', ⟨by have := HK1.out; have := HJ17.out; first | omega | exact Nat.le_refl _⟩, ⟨by (with_reducible repeat (first | apply Kd.R_alloc | apply Kd.R_drewN | apply Kd.R_drew)); exact HO881.out⟩, ⟨by (with_reducible repeat (first | refine blk_drewN ?_ _ | refine blk_drew ?_ | refine blk_alloc ?_ _)); exact BK865.out⟩, ⟨by repeat (first | (with_reducible first | exact HB.out | apply below_alloc | apply pw_below_drewN | apply below_drew1 | refine below_set ?_ GE865.out) | exact HB.out)⟩⟩
                    · rw [if_neg c39] at H
                      have c39b0 : (t884 == 0) = false := beq_eq_false_iff_ne.mpr c39
                      have c39b1 : (t884 != 0) = true := bne_iff_ne.mpr c39
                      have H' := Aside0.mk H
                      clear H
                      have hcz45_0 : w35.cell? ⟨gb865, 0, none⟩ = some (.int .u64 a0_0) := (blk_cell BK865.out 0).trans rfl
                      have hcz45_1 : w35.cell? ⟨gb865, 1, none⟩ = some (.int .i64 a0_1) := (blk_cell BK865.out 1).trans rfl
                      have hcz45_2 : w35.cell? ⟨gb865, 2, none⟩ = some (.int .i64 a0_2) := (blk_cell BK865.out 2).trans rfl
                      have hfz45_0 := blk_frozen BK865.out 0
                      have hfz45_1 := blk_frozen BK865.out 1
                      have hfz45_2 := blk_frozen BK865.out 2
                      go_wp2_with (first | ((with_reducible refine gate_callee (f := 42) rfl ?_); refine goesL_ (some 63) rfl rfl Try.func42 (by kernel_rfl) rfl #[.agg #[.int .u64 a0_0, .int .i64 a0_1, .int .i64 a0_2]] rfl (by (try simp only [List.map_toArray, List.map_cons, List.map_nil]); first | done | rfl | (simp only [List.length_drop, List.length_take]; rfl)) ?_; (with_reducible refine (juntoref04_Setup.calls kj17 a0_0 a0_1 a0_2 t883 _ A36.out).mono ?_); rintro e w46 ⟨rfl, hb⟩; refine ⟨_, rfl, ?_⟩; have n0_ := Aside0.mk (Kd.R_below (by (with_reducible repeat (first | apply Kd.R_alloc | apply Kd.R_drewN | apply Kd.R_drew)); exact HO881.out) hb); have n1_ := Aside0.mk (blk_below (g := gb865) (o := .cells #[.int .u64 a0_0, .int .i64 a0_1, .int .i64 a0_2] 24 (0, 0)) (by (with_reducible repeat (first | refine blk_drewN ?_ _ | refine blk_drew ?_ | refine blk_alloc ?_ _)); exact BK865.out) hb); have n2_ := Aside0.mk (below_step (by repeat (first | (with_reducible first | exact HB.out | apply below_alloc | apply pw_below_drewN | apply below_drew1 | refine below_set ?_ GE865.out) | exact HB.out)) hb); clear HO881; clear BK865; clear HB; have HO881 := n0_; have BK865 := n1_; have HB := n2_; clear n0_ n1_ n2_; (try clear hb); (try clear hb2); (try clear hk); (try clear hi); have hcz47_0 : w46.cell? ⟨gb865, 0, none⟩ = some (.int .u64 a0_0) := (blk_cell BK865.out 0).trans rfl; have hcz47_1 : w46.cell? ⟨gb865, 1, none⟩ = some (.int .i64 a0_1) := (blk_cell BK865.out 1).trans rfl; have hcz47_2 : w46.cell? ⟨gb865, 2, none⟩ = some (.int .i64 a0_2) := (blk_cell BK865.out 2).trans rfl; have hfz47_0 := blk_frozen BK865.out 0; have hfz47_1 := blk_frozen BK865.out 1; have hfz47_2 := blk_frozen BK865.out 2) | (go_at_call 79; (with_reducible refine (juntoref04_All.calls kj17 a0_0 a0_1 a0_2 _ _ (rd_L3 l1 0) t884 _ ?side1 ?side2 A38.out).mono ?_); (case side1 => repeat (first | exact (Kd.C_below HR878_0.out HB.out) | (with_reducible refine Kd.C_alloc ?_ _) | (with_reducible refine Kd.C_drewN ?_ _) | (with_reducible refine Kd.C_drew ?_))); (case side2 => exact HC878_0.out); rintro e w48 ⟨rfl, hb⟩; have n0_ := Aside0.mk (Kd.R_below (by (with_reducible repeat (first | apply Kd.R_alloc | apply Kd.R_drewN | apply Kd.R_drew)); exact HO881.out) hb); have n1_ := Aside0.mk (blk_below (g := gb865) (o := .cells #[.int .u64 a0_0, .int .i64 a0_1, .int .i64 a0_2] 24 (0, 0)) (by (with_reducible repeat (first | refine blk_drewN ?_ _ | refine blk_drew ?_ | refine blk_alloc ?_ _)); exact BK865.out) hb); have n2_ := Aside0.mk (below_step (by repeat (first | (with_reducible first | exact HB.out | apply below_alloc | apply pw_below_drewN | apply below_drew1 | refine below_set ?_ GE865.out) | exact HB.out)) hb); clear HO881; clear BK865; clear HB; have HO881 := n0_; have BK865 := n1_; have HB := n2_; clear n0_ n1_ n2_; (try clear hb); (try clear hb2); (try clear hk); (try clear hi)))
                      go_meet
                      case rel => exact ⟨_, (true), (by first | rfl | (simp; done) | (simp [*]; done)), H', ⟨by have := HK1.out; have := HJ17.out; first | omega | exact Nat.le_refl _⟩, ⟨by (with_reducible repeat (first | apply Kd.R_alloc | apply Kd.R_drewN | apply Kd.R_drew)); exact HO881.out⟩, ⟨by (with_reducible repeat (first | refine blk_drewN ?_ _ | refine blk_drew ?_ | refine blk_alloc ?_ _)); exact BK865.out⟩, ⟨by repeat (first | (with_reducible first | exact HB.out | apply below_alloc | apply pw_below_drewN | apply below_drew1 | refine below_set ?_ GE865.out) | exact HB.out)⟩⟩
                  · rw [if_neg c37] at H
                    have c37b0 : (t883 == 0) = false := beq_eq_false_iff_ne.mpr c37
                    have c37b1 : (t883 != 0) = true := bne_iff_ne.mpr c37
                    (first | rw [c37b0] | (simp only [i64_w, i32_w]; rw [c37b0]) | skip)
                    have H' := Aside0.mk H
                    clear H
                    have hcz49_0 : w35.cell? ⟨gb865, 0, none⟩ = some (.int .u64 a0_0) := (blk_cell BK865.out 0).trans rfl
                    have hcz49_1 : w35.cell? ⟨gb865, 1, none⟩ = some (.int .i64 a0_1) := (blk_cell BK865.out 1).trans rfl
                    have hcz49_2 : w35.cell? ⟨gb865, 2, none⟩ = some (.int .i64 a0_2) := (blk_cell BK865.out 2).trans rfl
                    have hfz49_0 := blk_frozen BK865.out 0
                    have hfz49_1 := blk_frozen BK865.out 1
                    have hfz49_2 := blk_frozen BK865.out 2
                    go_wp2_with (first | ((with_reducible refine gate_callee (f := 42) rfl ?_); refine goesL_ (some 63) rfl rfl Try.func42 (by kernel_rfl) rfl #[.agg #[.int .u64 a0_0, .int .i64 a0_1, .int .i64 a0_2]] rfl (by (try simp only [List.map_toArray, List.map_cons, List.map_nil]); first | done | rfl | (simp only [List.length_drop, List.length_take]; rfl)) ?_; (with_reducible refine (juntoref04_Setup.calls kj17 a0_0 a0_1 a0_2 t883 _ A36.out).mono ?_); rintro e w50 ⟨rfl, hb⟩; refine ⟨_, rfl, ?_⟩; have n0_ := Aside0.mk (Kd.R_below (by (with_reducible repeat (first | apply Kd.R_alloc | apply Kd.R_drewN | apply Kd.R_drew)); exact HO881.out) hb); have n1_ := Aside0.mk (blk_below (g := gb865) (o := .cells #[.int .u64 a0_0, .int .i64 a0_1, .int .i64 a0_2] 24 (0, 0)) (by (with_reducible repeat (first | refine blk_drewN ?_ _ | refine blk_drew ?_ | refine blk_alloc ?_ _)); exact BK865.out) hb); have n2_ := Aside0.mk (below_step (by repeat (first | (with_reducible first | exact HB.out | apply below_alloc | apply pw_below_drewN | apply below_drew1 | refine below_set ?_ GE865.out) | exact HB.out)) hb); clear HO881; clear BK865; clear HB; have HO881 := n0_; have BK865 := n1_; have HB := n2_; clear n0_ n1_ n2_; (try clear hb); (try clear hb2); (try clear hk); (try clear hi)))
                    go_meet
                    case rel => exact ⟨_, (true), (by first | rfl | (simp; done) | (simp [*]; done)), H', ⟨by have := HK1.out; have := HJ17.out; first | omega | exact Nat.le_refl _⟩, ⟨by (with_reducible repeat (first | apply Kd.R_alloc | apply Kd.R_drewN | apply Kd.R_drew)); exact HO881.out⟩, ⟨by (with_reducible repeat (first | refine blk_drewN ?_ _ | refine blk_drew ?_ | refine blk_alloc ?_ _)); exact BK865.out⟩, ⟨by repeat (first | (with_reducible first | exact HB.out | apply below_alloc | apply pw_below_drewN | apply below_drew1 | refine below_set ?_ GE865.out) | exact HB.out)⟩⟩
                case rest =>
                  clear HC33
                  try clear c1
                  try clear c2
                  try clear p2
                  try clear c3
                  try clear c4
                  try clear c6
                  try clear p6
                  try clear c7
                  try clear c8
                  try clear p8
                  try clear q8
                  try clear hx8
                  try clear qi8
                  try clear c11
                  try clear c11b0
                  try clear c12
                  try clear c12b0
                  try clear c13
                  try clear c13b0
                  try clear c14
                  try clear c14b0
                  try clear c14b1
                  try clear c17
                  try clear c19
                  try clear c19b0
                  try clear c19b1
                  try clear c22
                  try clear c28
                  try clear c30
                  try clear c30b0
                  try clear c30b1
                  try clear c31
                  try clear c31b0
                  try clear c31b1
                  try clear c37
                  try clear c37b0
                  try clear c37b1
                  try clear c39
                  try clear c39b0
                  try clear c39b1
                  try clear c42
                  try clear hcz16_0
                  try clear hcz16_1
                  try clear hcz16_2
                  try clear hcz23_0
                  try clear hcz23_1
                  try clear hcz23_2
                  try clear hcz34_0
                  try clear hcz34_1
                  try clear hcz34_2
                  try clear hcz40_0
                  try clear hcz40_1
                  try clear hcz40_2
                  try clear hcz42_0
                  try clear hcz42_1
                  try clear hcz42_2
                  try clear hcz44_0
                  try clear hcz44_1
                  try clear hcz44_2
                  try clear hcz45_0
                  try clear hcz45_1
                  try clear hcz45_2
                  try clear hcz47_0
                  try clear hcz47_1
                  try clear hcz47_2
                  try clear hcz49_0
                  try clear hcz49_1
                  try clear hcz49_2
                  try clear hcz7_0
                  try clear hcz7_1
                  try clear hcz7_2
                  try clear hcz9_0
                  try clear hcz9_1
                  try clear hcz9_2
                  try clear hfz16_0
                  try clear hfz16_1
                  try clear hfz16_2
                  try clear hfz23_0
                  try clear hfz23_1
                  try clear hfz23_2
                  try clear hfz34_0
                  try clear hfz34_1
                  try clear hfz34_2
                  try clear hfz40_0
                  try clear hfz40_1
                  try clear hfz40_2
                  try clear hfz42_0
                  try clear hfz42_1
                  try clear hfz42_2
                  try clear hfz44_0
                  try clear hfz44_1
                  try clear hfz44_2
                  try clear hfz45_0
                  try clear hfz45_1
                  try clear hfz45_2
                  try clear hfz47_0
                  try clear hfz47_1
                  try clear hfz47_2
                  try clear hfz49_0
                  try clear hfz49_1
                  try clear hfz49_2
                  try clear hfz7_0
                  try clear hfz7_1
                  try clear hfz7_2
                  try clear hfz9_0
                  try clear hfz9_1
                  try clear hfz9_2
                  try clear hx871_0
                  try clear hx878_0
                  try clear p2
                  try clear p6
                  try clear p8
                  try clear p871
                  try clear p878
                  try clear q8
                  try clear q871
                  try clear q878
                  obtain ⟨kq, x76_32, rfl, HA, HJ32, HO_13, BK865, HB⟩ := hcut
                  cases kq with
                  | zero => exact absurd HA.out (by simp [juntolaw04_ShareSums.j2])
                  | succ kj32 =>
                    have H := HA.out
                    clear HA
                    simp only [juntolaw04_ShareSums.j2] at H
                    by_cases c51 : x76_32 = true
                    · subst c51
                      have H1 : ((juntolaw04_is.f kj32 t879 t882 ([] : List Int) 2).bind fun t885 => (if t885 = true then ((juntolaw04_alive.f kj32).bind fun t886 => (some t886)) else (some false))) = some r := by rw [if_pos rfl] at H; exact H
                      clear H
                      have H := H1
                      clear H1
                      replace H := Option.bind_eq_some_iff.mp H
                      obtain ⟨t885, A520, H⟩ := H
                      replace H : (if t885 = true then ((juntolaw04_alive.f kj32).bind fun t886 => (some t886)) else (some false)) = some r := H
                      have A52 := Aside0.mk A520
                      clear A520
                      by_cases c53 : t885 = true
                      · subst c53
                        have H1 : ((juntolaw04_alive.f kj32).bind fun t886 => (some t886)) = some r := by rw [if_pos rfl] at H; exact H
                        clear H
                        have H := H1
                        clear H1
                        replace H := Option.bind_eq_some_iff.mp H
                        obtain ⟨t886, A540, H⟩ := H
                        replace H : (some t886) = some r := H
                        have A54 := Aside0.mk A540
                        clear A540
                        obtain rfl := Option.some.inj H
                        obtain ⟨Ao55, co55, eo55⟩ := Kd.R_slice HO_13.out
                        subst eo55
                        go_wp2_with (first | ((with_reducible refine gate_callee (f := 69) rfl ?_); refine goesL_ (some 79) rfl rfl Try.func69 (by kernel_rfl) rfl #[.slice Ao55 t879.length co55, .int .i64 t882, .slice none 0 0, .int .i64 2] rfl (by (try simp only [List.map_toArray, List.map_cons, List.map_nil]); first | done | rfl | (simp only [List.length_drop, List.length_take]; rfl)) ?_; (refine (juntolaw04_is.calls kj32 _ _ t879 t882 _ _ ([] : List Int) 2 true _ ?side1 ?side2 ?side3 ?side4 A52.out).mono ?_); (case side1 => repeat (first | exact (Kd.R_reads' HO_13.out).2.2 | (with_reducible refine Kd.C_alloc ?_ _) | (with_reducible refine Kd.C_drewN ?_ _) | (with_reducible refine Kd.C_drew ?_))); (case side2 => exact (Kd.R_reads' HO_13.out).2.1); (case side3 => exact Kd.C_nil _ _); (case side4 => exact Nat.le_refl _); rintro e w' ⟨rfl, ⟨nd, rfl⟩⟩; refine ⟨_, rfl, ?_⟩) | (go_at_call 67; (with_reducible refine (juntolaw04_alive.calls kj32  t886 _ A54.out (by first | rfl | exact HRT.out)).mono ?_); rintro e w56 ⟨rfl, hb⟩; have n0_ := Aside0.mk (Kd.R_below (by (with_reducible repeat (first | apply Kd.R_alloc | apply Kd.R_drewN | apply Kd.R_drew)); exact HO_13.out) hb); have n1_ := Aside0.mk (blk_below (g := gb865) (o := .cells #[.int .u64 a0_0, .int .i64 a0_1, .int .i64 a0_2] 24 (0, 0)) (by (with_reducible repeat (first | refine blk_drewN ?_ _ | refine blk_drew ?_ | refine blk_alloc ?_ _)); exact BK865.out) hb); have n2_ := Aside0.mk (below_step (by repeat (first | (with_reducible first | exact HB.out | apply below_alloc | apply pw_below_drewN | apply below_drew1 | refine below_set ?_ GE865.out) | exact HB.out)) hb); clear HO_13; clear BK865; clear HB; have HO_13 := n0_; have BK865 := n1_; have HB := n2_; clear n0_ n1_ n2_; (try clear hb); (try clear hb2); (try clear hk); (try clear hi)))
                        go_ret
                        exact ⟨by first | rfl | (simp [errW_none, errW_some] <;> rfl) | (simp [*, errW_none, errW_some] <;> rfl), by repeat (first | (with_reducible first | exact HB.out | apply below_alloc | apply pw_below_drewN | apply below_drew1 | refine below_set ?_ GE865.out) | exact HB.out)⟩
                      · replace c53 := Bool.eq_false_iff.mpr c53
                        subst c53
                        have H1 : (some false) = some r := by rw [if_neg (show ¬ (false = true) by decide)] at H; exact H
                        clear H
                        have H := H1
                        clear H1
                        exact absurd ((Option.some.inj H).trans HRT.out) (by decide)
                    · replace c51 := Bool.eq_false_iff.mpr c51
                      subst c51
                      have H1 : ((juntoref04_Scale.f kj32 a0_0 a0_1 a0_2 (rd_L3 l1 0) a2).bind fun t887 => ((juntolaw04_is.f kj32 t879 t882 t887 0).bind fun t890 => (some t890))) = some r := by rw [if_neg (show ¬ (false = true) by decide)] at H; exact H
                      clear H
                      have H := H1
                      clear H1
                      replace H := Option.bind_eq_some_iff.mp H
                      obtain ⟨t887, A570, H⟩ := H
                      replace H : ((juntolaw04_is.f kj32 t879 t882 t887 0).bind fun t890 => (some t890)) = some r := H
                      have A57 := Aside0.mk A570
                      clear A570
                      replace H := Option.bind_eq_some_iff.mp H
                      obtain ⟨t890, A580, H⟩ := H
                      replace H : (some t890) = some r := H
                      have A58 := Aside0.mk A580
                      clear A580
                      obtain rfl := Option.some.inj H
                      have hcz59_0 : wc.cell? ⟨gb865, 0, none⟩ = some (.int .u64 a0_0) := (blk_cell BK865.out 0).trans rfl
                      have hcz59_1 : wc.cell? ⟨gb865, 1, none⟩ = some (.int .i64 a0_1) := (blk_cell BK865.out 1).trans rfl
                      have hcz59_2 : wc.cell? ⟨gb865, 2, none⟩ = some (.int .i64 a0_2) := (blk_cell BK865.out 2).trans rfl
                      have hfz59_0 := blk_frozen BK865.out 0
                      have hfz59_1 := blk_frozen BK865.out 1
                      have hfz59_2 := blk_frozen BK865.out 2
                      go_wp2_with (first | ((with_reducible refine gate_callee (f := 82) rfl ?_); refine goesL_ (some 88) rfl rfl Try.func82 (by kernel_rfl) rfl #[.agg #[.int .u64 a0_0, .int .i64 a0_1, .int .i64 a0_2], .slice A878_0 (rd_L3 l1 0).length c878_0, .int .u64 a2] rfl (by (try simp only [List.map_toArray, List.map_cons, List.map_nil]); first | done | rfl | (simp only [List.length_drop, List.length_take]; rfl)) ?_; (with_reducible refine (juntoref04_Scale.calls kj32 a0_0 a0_1 a0_2 _ _ (rd_L3 l1 0) a2 t887 _ ?side1 ?side2 A57.out).mono ?_); (case side1 => repeat (first | exact (Kd.C_below HR878_0.out HB.out) | (with_reducible refine Kd.C_alloc ?_ _) | (with_reducible refine Kd.C_drewN ?_ _) | (with_reducible refine Kd.C_drew ?_))); (case side2 => exact HC878_0.out); rintro e w60 ⟨v888, rfl, ho0, hb⟩; refine ⟨_, rfl, ?_⟩; have n0_ := Aside0.mk (Kd.R_elder' (by (with_reducible repeat (first | apply Kd.R_alloc | apply Kd.R_drewN | apply Kd.R_drew)); exact HO_13.out) (Kd.R_base ho0) hb); have n1_ := Aside0.mk (Kd.R_lower (Kd.R_new' ho0 (Kd.R_lt (by (with_reducible repeat (first | apply Kd.R_alloc | apply Kd.R_drewN | apply Kd.R_drew)); exact HO_13.out))) (below_size (by repeat (first | (with_reducible first | exact HB.out | apply below_alloc | apply pw_below_drewN | apply below_drew1 | refine below_set ?_ GE865.out) | exact HB.out)))); have n2_ := Aside0.mk (blk_below (g := gb865) (o := .cells #[.int .u64 a0_0, .int .i64 a0_1, .int .i64 a0_2] 24 (0, 0)) (by (with_reducible repeat (first | refine blk_drewN ?_ _ | refine blk_drew ?_ | refine blk_alloc ?_ _)); exact BK865.out) hb); have n3_ := Aside0.mk (below_step (by repeat (first | (with_reducible first | exact HB.out | apply below_alloc | apply pw_below_drewN | apply below_drew1 | refine below_set ?_ GE865.out) | exact HB.out)) hb); clear HO_13; clear BK865; clear HB; have HO_13 := n0_; have HO889 := n1_; have BK865 := n2_; have HB := n3_; clear n0_ n1_ n2_ n3_; (try clear hb); (try clear hb2); (try clear hk); (try clear hi); (try clear ho0); obtain ⟨Ao61, co61, eo61⟩ := Kd.R_slice HO_13.out; subst eo61; obtain ⟨Ao62, co62, eo62⟩ := Kd.R_slice HO889.out; subst eo62) | ((with_reducible refine gate_callee (f := 69) rfl ?_); refine goesL_ (some 89) rfl rfl Try.func69 (by kernel_rfl) rfl #[.slice Ao61 t879.length co61, .int .i64 t882, .slice Ao62 t887.length co62, .int .i64 0] rfl (by (try simp only [List.map_toArray, List.map_cons, List.map_nil]); first | done | rfl | (simp only [List.length_drop, List.length_take]; rfl)) ?_; (with_reducible refine (juntolaw04_is.calls kj32 _ _ t879 t882 _ _ t887 0 t890 _ ?side1 ?side2 ?side3 ?side4 A58.out).mono ?_); (case side1 => repeat (first | exact (Kd.R_reads' HO_13.out).2.2 | (with_reducible refine Kd.C_alloc ?_ _) | (with_reducible refine Kd.C_drewN ?_ _) | (with_reducible refine Kd.C_drew ?_))); (case side2 => exact (Kd.R_reads' HO_13.out).2.1); (case side3 => repeat (first | exact (Kd.R_reads' HO889.out).2.2 | (with_reducible refine Kd.C_alloc ?_ _) | (with_reducible refine Kd.C_drewN ?_ _) | (with_reducible refine Kd.C_drew ?_))); (case side4 => exact (Kd.R_reads' HO889.out).2.1); rintro e w' ⟨rfl, ⟨nd, rfl⟩⟩; refine ⟨_, rfl, ?_⟩))
                      go_ret
                      exact ⟨by first | rfl | (simp [errW_none, errW_some] <;> rfl) | (simp [*, errW_none, errW_some] <;> rfl), by repeat (first | (with_reducible first | exact HB.out | apply below_alloc | apply pw_below_drewN | apply below_drew1 | refine below_set ?_ GE865.out) | exact HB.out)⟩
              · rw [if_neg c31] at H
                exact absurd H (by simp)
            · rw [if_neg c30] at H
              have c30b0 : decide (0 < (l1.length : Int)) = false := decide_eq_false c30
              have c30b1 : decide (0 < l1.length) = false := decide_eq_false (by omega)
              clear c30
              replace H := Option.bind_eq_some_iff.mp H
              obtain ⟨⟨t891, t894⟩, A630, H⟩ := H
              replace H : ((juntoref04_Setup.f kj17 a0_0 a0_1 a0_2).bind fun t895 => (if t895 = 0 then ((juntoref04_All.f kj17 a0_0 a0_1 a0_2 ([] : List Int)).bind fun t896 => (if t896 = 0 then (juntolaw04_ShareSums.j3 kj17 a2 ([] : List Int) t891 t894 (decide (a2 ≥ a0_0)) a0_0 a0_1 a0_2) else (juntolaw04_ShareSums.j3 kj17 a2 ([] : List Int) t891 t894 true a0_0 a0_1 a0_2))) else (juntolaw04_ShareSums.j3 kj17 a2 ([] : List Int) t891 t894 true a0_0 a0_1 a0_2))) = some r := H
              have A63 := Aside0.mk A630
              clear A630
              have HC64 := Aside0.mk H
              clear H
              have hcz65_0 : wc.cell? ⟨gb865, 0, none⟩ = some (.int .u64 a0_0) := (blk_cell BK865.out 0).trans rfl
              have hcz65_1 : wc.cell? ⟨gb865, 1, none⟩ = some (.int .i64 a0_1) := (blk_cell BK865.out 1).trans rfl
              have hcz65_2 : wc.cell? ⟨gb865, 2, none⟩ = some (.int .i64 a0_2) := (blk_cell BK865.out 2).trans rfl
              have hfz65_0 := blk_frozen BK865.out 0
              have hfz65_1 := blk_frozen BK865.out 1
              have hfz65_2 := blk_frozen BK865.out 2
              go_upto_region 18 with (first | ((with_reducible refine gate_callee (f := 81) rfl ?_); refine goesL_ (some 59) rfl rfl Try.func81 (by kernel_rfl) rfl #[.agg #[.int .u64 a0_0, .int .i64 a0_1, .int .i64 a0_2], .slice none 0 0, .int .u64 a2] rfl (by (try simp only [List.map_toArray, List.map_cons, List.map_nil]); first | done | rfl | (simp only [List.length_drop, List.length_take]; rfl)) ?_; (refine (share_Scale.calls kj17 a0_0 a0_1 a0_2 (fun k_ => False) _ _ ([] : List Int) a2 t891 t894 _ ?side1 A63.out).mono ?_); (case side1 => exact Kd.V_nil _ _ _ _ _); rintro e w66 ⟨v892, rfl, ho0, hb⟩; refine ⟨_, rfl, ?_⟩; have n0_ := Aside0.mk (Kd.R_lower (Kd.R_mono (ok' := fun k_ => True) ho0 (fun _ hk_ => trivial)) (below_size (by repeat (first | (with_reducible first | exact HB.out | apply below_alloc | apply pw_below_drewN | apply below_drew1 | refine below_set ?_ GE865.out) | exact HB.out)))); have n1_ := Aside0.mk (blk_below (g := gb865) (o := .cells #[.int .u64 a0_0, .int .i64 a0_1, .int .i64 a0_2] 24 (0, 0)) (by (with_reducible repeat (first | refine blk_drewN ?_ _ | refine blk_drew ?_ | refine blk_alloc ?_ _)); exact BK865.out) hb); have n2_ := Aside0.mk (below_step (by repeat (first | (with_reducible first | exact HB.out | apply below_alloc | apply pw_below_drewN | apply below_drew1 | refine below_set ?_ GE865.out) | exact HB.out)) hb); clear BK865; clear HB; have HO893 := n0_; have BK865 := n1_; have HB := n2_; clear n0_ n1_ n2_; (try clear hb); (try clear hb2); (try clear hk); (try clear hi); (try clear ho0)))
              (try simp only [Act.put, List.setIfInBounds_toArray, List.set_cons_zero, List.set_cons_succ])
              go_cut [76] (fun v76 wc => ∃ (kq : Nat) (x76_63 : Bool), v76 = .bool x76_63 ∧ Aside0 (juntolaw04_ShareSums.j3 kq a2 ([] : List Int) t891 t894 x76_63 a0_0 a0_1 a0_2 = some r) ∧ Aside0 (kq ≤ kj17) ∧ Aside0 (Kd.R (Kd.int .u64) 22 wc w.heap.size (fun k_ => some k_ ≠ (v892 : Value).ownBlock) (.slice none 0 0) ([] : List Int)) ∧ Aside0 (Kd.R (Kd.int .u64) 22 wc w.heap.size (fun k_ => some k_ ≠ ((.slice none 0 0) : Value).ownBlock) v892 t891) ∧ Aside0 (wc.heap[gb865]? = some (.cells #[.int .u64 a0_0, .int .i64 a0_1, .int .i64 a0_2] 24 (0, 0))) ∧ Aside0 (Below w.heap.size w wc))
              case first =>
                have H := HC64.out
                clear HC64
                replace H := Option.bind_eq_some_iff.mp H
                obtain ⟨t895, A670, H⟩ := H
                replace H : (if t895 = 0 then ((juntoref04_All.f kj17 a0_0 a0_1 a0_2 ([] : List Int)).bind fun t896 => (if t896 = 0 then (juntolaw04_ShareSums.j3 kj17 a2 ([] : List Int) t891 t894 (decide (a2 ≥ a0_0)) a0_0 a0_1 a0_2) else (juntolaw04_ShareSums.j3 kj17 a2 ([] : List Int) t891 t894 true a0_0 a0_1 a0_2))) else (juntolaw04_ShareSums.j3 kj17 a2 ([] : List Int) t891 t894 true a0_0 a0_1 a0_2)) = some r := H
                have A67 := Aside0.mk A670
                clear A670
                by_cases c68 : t895 = 0
                · rw [if_pos c68] at H
                  have c68b0 : (t895 == 0) = true := beq_iff_eq.mpr c68
                  have c68b1 : (t895 != 0) = false := bne_eq_false_iff_eq.mpr c68
                  clear c68
                  (first | rw [c68b0] | (simp only [i64_w, i32_w]; rw [c68b0]) | skip)
                  replace H := Option.bind_eq_some_iff.mp H
                  obtain ⟨t896, A690, H⟩ := H
                  replace H : (if t896 = 0 then (juntolaw04_ShareSums.j3 kj17 a2 ([] : List Int) t891 t894 (decide (a2 ≥ a0_0)) a0_0 a0_1 a0_2) else (juntolaw04_ShareSums.j3 kj17 a2 ([] : List Int) t891 t894 true a0_0 a0_1 a0_2)) = some r := H
                  have A69 := Aside0.mk A690
                  clear A690
                  by_cases c70 : t896 = 0
                  · rw [if_pos c70] at H
                    have c70b0 : (t896 == 0) = true := beq_iff_eq.mpr c70
                    have c70b1 : (t896 != 0) = false := bne_eq_false_iff_eq.mpr c70
                    clear c70
                    have H' := Aside0.mk H
                    clear H
                    have hcz71_0 : w66.cell? ⟨gb865, 0, none⟩ = some (.int .u64 a0_0) := (blk_cell BK865.out 0).trans rfl
                    have hcz71_1 : w66.cell? ⟨gb865, 1, none⟩ = some (.int .i64 a0_1) := (blk_cell BK865.out 1).trans rfl
                    have hcz71_2 : w66.cell? ⟨gb865, 2, none⟩ = some (.int .i64 a0_2) := (blk_cell BK865.out 2).trans rfl
                    have hfz71_0 := blk_frozen BK865.out 0
                    have hfz71_1 := blk_frozen BK865.out 1
                    have hfz71_2 := blk_frozen BK865.out 2
                    go_wp2_with (first | ((with_reducible refine gate_callee (f := 42) rfl ?_); refine goesL_ (some 63) rfl rfl Try.func42 (by kernel_rfl) rfl #[.agg #[.int .u64 a0_0, .int .i64 a0_1, .int .i64 a0_2]] rfl (by (try simp only [List.map_toArray, List.map_cons, List.map_nil]); first | done | rfl | (simp only [List.length_drop, List.length_take]; rfl)) ?_; (with_reducible refine (juntoref04_Setup.calls kj17 a0_0 a0_1 a0_2 t895 _ A67.out).mono ?_); rintro e w72 ⟨rfl, hb⟩; refine ⟨_, rfl, ?_⟩; have n0_ := Aside0.mk (Kd.R_below (by (with_reducible repeat (first | apply Kd.R_alloc | apply Kd.R_drewN | apply Kd.R_drew)); exact HO893.out) hb); have n1_ := Aside0.mk (blk_below (g := gb865) (o := .cells #[.int .u64 a0_0, .int .i64 a0_1, .int .i64 a0_2] 24 (0, 0)) (by (with_reducible repeat (first | refine blk_drewN ?_ _ | refine blk_drew ?_ | refine blk_alloc ?_ _)); exact BK865.out) hb); have n2_ := Aside0.mk (below_step (by repeat (first | (with_reducible first | exact HB.out | apply below_alloc | apply pw_below_drewN | apply below_drew1 | refine below_set ?_ GE865.out) | exact HB.out)) hb); clear HO893; clear BK865; clear HB; have HO893 := n0_; have BK865 := n1_; have HB := n2_; clear n0_ n1_ n2_; (try clear hb); (try clear hb2); (try clear hk); (try clear hi); have hcz73_0 : w72.cell? ⟨gb865, 0, none⟩ = some (.int .u64 a0_0) := (blk_cell BK865.out 0).trans rfl; have hcz73_1 : w72.cell? ⟨gb865, 1, none⟩ = some (.int .i64 a0_1) := (blk_cell BK865.out 1).trans rfl; have hcz73_2 : w72.cell? ⟨gb865, 2, none⟩ = some (.int .i64 a0_2) := (blk_cell BK865.out 2).trans rfl; have hfz73_0 := blk_frozen BK865.out 0; have hfz73_1 := blk_frozen BK865.out 1; have hfz73_2 := blk_frozen BK865.out 2) | (go_at_call 79; (refine (juntoref04_All.calls kj17 a0_0 a0_1 a0_2 _ _ ([] : List Int) t896 _ ?side1 ?side2 A69.out).mono ?_); (case side1 => exact Kd.C_nil _ _); (case side2 => exact Nat.le_refl _); rintro e w74 ⟨rfl, hb⟩; have n0_ := Aside0.mk (Kd.R_below (by (with_reducible repeat (first | apply Kd.R_alloc | apply Kd.R_drewN | apply Kd.R_drew)); exact HO893.out) hb); have n1_ := Aside0.mk (blk_below (g := gb865) (o := .cells #[.int .u64 a0_0, .int .i64 a0_1, .int .i64 a0_2] 24 (0, 0)) (by (with_reducible repeat (first | refine blk_drewN ?_ _ | refine blk_drew ?_ | refine blk_alloc ?_ _)); exact BK865.out) hb); have n2_ := Aside0.mk (below_step (by repeat (first | (with_reducible first | exact HB.out | apply below_alloc | apply pw_below_drewN | apply below_drew1 | refine below_set ?_ GE865.out) | exact HB.out)) hb); clear HO893; clear BK865; clear HB; have HO893 := n0_; have BK865 := n1_; have HB := n2_; clear n0_ n1_ n2_; (try clear hb); (try clear hb2); (try clear hk); (try clear hi); have hcz75_0 : w74.cell? ⟨gb865, 0, none⟩ = some (.int .u64 a0_0) := (blk_cell BK865.out 0).trans rfl; have hcz75_1 : w74.cell? ⟨gb865, 1, none⟩ = some (.int .i64 a0_1) := (blk_cell BK865.out 1).trans rfl; have hcz75_2 : w74.cell? ⟨gb865, 2, none⟩ = some (.int .i64 a0_2) := (blk_cell BK865.out 2).trans rfl; have hfz75_0 := blk_frozen BK865.out 0; have hfz75_1 := blk_frozen BK865.out 1; have hfz75_2 := blk_frozen BK865.out 2))
                    go_meet
                    case rel => exact ⟨_, (decide (a2 ≥ a0_0)), (by first | rfl | (simp; done) | (simp [*]; done)), H', ⟨by have := HK1.out; have := HJ17.out; first | omega | exact Nat.le_refl _⟩, ⟨by first | exact Kd.R_nil _ _ _ _ _ | exact Kd.N_nil _ _ _ _ _ | exact Kd.V_nil _ _ _ _ _ | exact Kd.Q_nil _ _ _ _ _ | exact Kd.S_nil _ _ _ _ _⟩, ⟨by (with_reducible repeat (first | apply Kd.R_alloc | apply Kd.R_drewN | apply Kd.R_drew)); exact Kd.R_mono HO893.out (fun _ hk => (by simp [Value.ownBlock]))⟩, ⟨by (with_reducible repeat (first | refine blk_drewN ?_ _ | refine blk_drew ?_ | refine blk_alloc ?_ _)); exact BK865.out⟩, ⟨by repeat (first | (with_reducible first | exact HB.out | apply below_alloc | apply pw_below_drewN | apply below_drew1 | refine below_set ?_ GE865.out) | exact HB.out)⟩⟩
                  · rw [if_neg c70] at H
                    have c70b0 : (t896 == 0) = false := beq_eq_false_iff_ne.mpr c70
                    have c70b1 : (t896 != 0) = true := bne_iff_ne.mpr c70
                    have H' := Aside0.mk H
                    clear H
                    have hcz76_0 : w66.cell? ⟨gb865, 0, none⟩ = some (.int .u64 a0_0) := (blk_cell BK865.out 0).trans rfl
                    have hcz76_1 : w66.cell? ⟨gb865, 1, none⟩ = some (.int .i64 a0_1) := (blk_cell BK865.out 1).trans rfl
                    have hcz76_2 : w66.cell? ⟨gb865, 2, none⟩ = some (.int .i64 a0_2) := (blk_cell BK865.out 2).trans rfl
                    have hfz76_0 := blk_frozen BK865.out 0
                    have hfz76_1 := blk_frozen BK865.out 1
                    have hfz76_2 := blk_frozen BK865.out 2
                    go_wp2_with (first | ((with_reducible refine gate_callee (f := 42) rfl ?_); refine goesL_ (some 63) rfl rfl Try.func42 (by kernel_rfl) rfl #[.agg #[.int .u64 a0_0, .int .i64 a0_1, .int .i64 a0_2]] rfl (by (try simp only [List.map_toArray, List.map_cons, List.map_nil]); first | done | rfl | (simp only [List.length_drop, List.length_take]; rfl)) ?_; (with_reducible refine (juntoref04_Setup.calls kj17 a0_0 a0_1 a0_2 t895 _ A67.out).mono ?_); rintro e w77 ⟨rfl, hb⟩; refine ⟨_, rfl, ?_⟩; have n0_ := Aside0.mk (Kd.R_below (by (with_reducible repeat (first | apply Kd.R_alloc | apply Kd.R_drewN | apply Kd.R_drew)); exact HO893.out) hb); have n1_ := Aside0.mk (blk_below (g := gb865) (o := .cells #[.int .u64 a0_0, .int .i64 a0_1, .int .i64 a0_2] 24 (0, 0)) (by (with_reducible repeat (first | refine blk_drewN ?_ _ | refine blk_drew ?_ | refine blk_alloc ?_ _)); exact BK865.out) hb); have n2_ := Aside0.mk (below_step (by repeat (first | (with_reducible first | exact HB.out | apply below_alloc | apply pw_below_drewN | apply below_drew1 | refine below_set ?_ GE865.out) | exact HB.out)) hb); clear HO893; clear BK865; clear HB; have HO893 := n0_; have BK865 := n1_; have HB := n2_; clear n0_ n1_ n2_; (try clear hb); (try clear hb2); (try clear hk); (try clear hi); have hcz78_0 : w77.cell? ⟨gb865, 0, none⟩ = some (.int .u64 a0_0) := (blk_cell BK865.out 0).trans rfl; have hcz78_1 : w77.cell? ⟨gb865, 1, none⟩ = some (.int .i64 a0_1) := (blk_cell BK865.out 1).trans rfl; have hcz78_2 : w77.cell? ⟨gb865, 2, none⟩ = some (.int .i64 a0_2) := (blk_cell BK865.out 2).trans rfl; have hfz78_0 := blk_frozen BK865.out 0; have hfz78_1 := blk_frozen BK865.out 1; have hfz78_2 := blk_frozen BK865.out 2) | (go_at_call 79; (refine (juntoref04_All.calls kj17 a0_0 a0_1 a0_2 _ _ ([] : List Int) t896 _ ?side1 ?side2 A69.out).mono ?_); (case side1 => exact Kd.C_nil _ _); (case side2 => exact Nat.le_refl _); rintro e w79 ⟨rfl, hb⟩; have n0_ := Aside0.mk (Kd.R_below (by (with_reducible repeat (first | apply Kd.R_alloc | apply Kd.R_drewN | apply Kd.R_drew)); exact HO893.out) hb); have n1_ := Aside0.mk (blk_below (g := gb865) (o := .cells #[.int .u64 a0_0, .int .i64 a0_1, .int .i64 a0_2] 24 (0, 0)) (by (with_reducible repeat (first | refine blk_drewN ?_ _ | refine blk_drew ?_ | refine blk_alloc ?_ _)); exact BK865.out) hb); have n2_ := Aside0.mk (below_step (by repeat (first | (with_reducible first | exact HB.out | apply below_alloc | apply pw_below_drewN | apply below_drew1 | refine below_set ?_ GE865.out) | exact HB.out)) hb); clear HO893; clear BK865; clear HB; have HO893 := n0_; have BK865 := n1_; have HB := n2_; clear n0_ n1_ n2_; (try clear hb); (try clear hb2); (try clear hk); (try clear hi)))
                    go_meet
                    case rel => exact ⟨_, (true), (by first | rfl | (simp; done) | (simp [*]; done)), H', ⟨by have := HK1.out; have := HJ17.out; first | omega | exact Nat.le_refl _⟩, ⟨by first | exact Kd.R_nil _ _ _ _ _ | exact Kd.N_nil _ _ _ _ _ | exact Kd.V_nil _ _ _ _ _ | exact Kd.Q_nil _ _ _ _ _ | exact Kd.S_nil _ _ _ _ _⟩, ⟨by (with_reducible repeat (first | apply Kd.R_alloc | apply Kd.R_drewN | apply Kd.R_drew)); exact Kd.R_mono HO893.out (fun _ hk => (by simp [Value.ownBlock]))⟩, ⟨by (with_reducible repeat (first | refine blk_drewN ?_ _ | refine blk_drew ?_ | refine blk_alloc ?_ _)); exact BK865.out⟩, ⟨by repeat (first | (with_reducible first | exact HB.out | apply below_alloc | apply pw_below_drewN | apply below_drew1 | refine below_set ?_ GE865.out) | exact HB.out)⟩⟩
                · rw [if_neg c68] at H
                  have c68b0 : (t895 == 0) = false := beq_eq_false_iff_ne.mpr c68
                  have c68b1 : (t895 != 0) = true := bne_iff_ne.mpr c68
                  (first | rw [c68b0] | (simp only [i64_w, i32_w]; rw [c68b0]) | skip)
                  have H' := Aside0.mk H
                  clear H
                  have hcz80_0 : w66.cell? ⟨gb865, 0, none⟩ = some (.int .u64 a0_0) := (blk_cell BK865.out 0).trans rfl
                  have hcz80_1 : w66.cell? ⟨gb865, 1, none⟩ = some (.int .i64 a0_1) := (blk_cell BK865.out 1).trans rfl
                  have hcz80_2 : w66.cell? ⟨gb865, 2, none⟩ = some (.int .i64 a0_2) := (blk_cell BK865.out 2).trans rfl
                  have hfz80_0 := blk_frozen BK865.out 0
                  have hfz80_1 := blk_frozen BK865.out 1
                  have hfz80_2 := blk_frozen BK865.out 2
                  go_wp2_with (first | ((with_reducible refine gate_callee (f := 42) rfl ?_); refine goesL_ (some 63) rfl rfl Try.func42 (by kernel_rfl) rfl #[.agg #[.int .u64 a0_0, .int .i64 a0_1, .int .i64 a0_2]] rfl (by (try simp only [List.map_toArray, List.map_cons, List.map_nil]); first | done | rfl | (simp only [List.length_drop, List.length_take]; rfl)) ?_; (with_reducible refine (juntoref04_Setup.calls kj17 a0_0 a0_1 a0_2 t895 _ A67.out).mono ?_); rintro e w81 ⟨rfl, hb⟩; refine ⟨_, rfl, ?_⟩; have n0_ := Aside0.mk (Kd.R_below (by (with_reducible repeat (first | apply Kd.R_alloc | apply Kd.R_drewN | apply Kd.R_drew)); exact HO893.out) hb); have n1_ := Aside0.mk (blk_below (g := gb865) (o := .cells #[.int .u64 a0_0, .int .i64 a0_1, .int .i64 a0_2] 24 (0, 0)) (by (with_reducible repeat (first | refine blk_drewN ?_ _ | refine blk_drew ?_ | refine blk_alloc ?_ _)); exact BK865.out) hb); have n2_ := Aside0.mk (below_step (by repeat (first | (with_reducible first | exact HB.out | apply below_alloc | apply pw_below_drewN | apply below_drew1 | refine below_set ?_ GE865.out) | exact HB.out)) hb); clear HO893; clear BK865; clear HB; have HO893 := n0_; have BK865 := n1_; have HB := n2_; clear n0_ n1_ n2_; (try clear hb); (try clear hb2); (try clear hk); (try clear hi)))
                  go_meet
                  case rel => exact ⟨_, (true), (by first | rfl | (simp; done) | (simp [*]; done)), H', ⟨by have := HK1.out; have := HJ17.out; first | omega | exact Nat.le_refl _⟩, ⟨by first | exact Kd.R_nil _ _ _ _ _ | exact Kd.N_nil _ _ _ _ _ | exact Kd.V_nil _ _ _ _ _ | exact Kd.Q_nil _ _ _ _ _ | exact Kd.S_nil _ _ _ _ _⟩, ⟨by (with_reducible repeat (first | apply Kd.R_alloc | apply Kd.R_drewN | apply Kd.R_drew)); exact Kd.R_mono HO893.out (fun _ hk => (by simp [Value.ownBlock]))⟩, ⟨by (with_reducible repeat (first | refine blk_drewN ?_ _ | refine blk_drew ?_ | refine blk_alloc ?_ _)); exact BK865.out⟩, ⟨by repeat (first | (with_reducible first | exact HB.out | apply below_alloc | apply pw_below_drewN | apply below_drew1 | refine below_set ?_ GE865.out) | exact HB.out)⟩⟩
              case rest =>
                clear HC64
                try clear c1
                try clear c2
                try clear p2
                try clear c3
                try clear c4
                try clear c5
                try clear c6
                try clear p6
                try clear c7
                try clear c8
                try clear p8
                try clear q8
                try clear hx8
                try clear qi8
                try clear c11
                try clear c11b0
                try clear c12
                try clear c12b0
                try clear c13
                try clear c13b0
                try clear c14
                try clear c14b0
                try clear c14b1
                try clear c17
                try clear c19
                try clear c19b0
                try clear c19b1
                try clear c22
                try clear c28
                try clear c30
                try clear c30b0
                try clear c30b1
                try clear c31
                try clear c31b0
                try clear c31b1
                try clear c37
                try clear c37b0
                try clear c37b1
                try clear c39
                try clear c39b0
                try clear c39b1
                try clear c42
                try clear c51
                try clear c53
                try clear p64
                try clear c68
                try clear c68b0
                try clear c68b1
                try clear c69
                try clear c70
                try clear c70b0
                try clear c70b1
                try clear c79
                try clear c80
                try clear c81
                try clear hcz16_0
                try clear hcz16_1
                try clear hcz16_2
                try clear hcz23_0
                try clear hcz23_1
                try clear hcz23_2
                try clear hcz34_0
                try clear hcz34_1
                try clear hcz34_2
                try clear hcz40_0
                try clear hcz40_1
                try clear hcz40_2
                try clear hcz42_0
                try clear hcz42_1
                try clear hcz42_2
                try clear hcz44_0
                try clear hcz44_1
                try clear hcz44_2
                try clear hcz45_0
                try clear hcz45_1
                try clear hcz45_2
                try clear hcz47_0
                try clear hcz47_1
                try clear hcz47_2
                try clear hcz49_0
                try clear hcz49_1
                try clear hcz49_2
                try clear hcz59_0
                try clear hcz59_1
                try clear hcz59_2
                try clear hcz65_0
                try clear hcz65_1
                try clear hcz65_2
                try clear hcz71_0
                try clear hcz71_1
                try clear hcz71_2
                try clear hcz73_0
                try clear hcz73_1
                try clear hcz73_2
                try clear hcz75_0
                try clear hcz75_1
                try clear hcz75_2
                try clear hcz76_0
                try clear hcz76_1
                try clear hcz76_2
                try clear hcz78_0
                try clear hcz78_1
                try clear hcz78_2
                try clear hcz7_0
                try clear hcz7_1
                try clear hcz7_2
                try clear hcz80_0
                try clear hcz80_1
                try clear hcz80_2
                try clear hcz9_0
                try clear hcz9_1
                try clear hcz9_2
                try clear hfz16_0
                try clear hfz16_1
                try clear hfz16_2
                try clear hfz23_0
                try clear hfz23_1
                try clear hfz23_2
                try clear hfz34_0
                try clear hfz34_1
                try clear hfz34_2
                try clear hfz40_0
                try clear hfz40_1
                try clear hfz40_2
                try clear hfz42_0
                try clear hfz42_1
                try clear hfz42_2
                try clear hfz44_0
                try clear hfz44_1
                try clear hfz44_2
                try clear hfz45_0
                try clear hfz45_1
                try clear hfz45_2
                try clear hfz47_0
                try clear hfz47_1
                try clear hfz47_2
                try clear hfz49_0
                try clear hfz49_1
                try clear hfz49_2
                try clear hfz59_0
                try clear hfz59_1
                try clear hfz59_2
                try clear hfz65_0
                try clear hfz65_1
                try clear hfz65_2
                try clear hfz71_0
                try clear hfz71_1
                try clear hfz71_2
                try clear hfz73_0
                try clear hfz73_1
                try clear hfz73_2
                try clear hfz75_0
                try clear hfz75_1
                try clear hfz75_2
                try clear hfz76_0
                try clear hfz76_1
                try clear hfz76_2
                try clear hfz78_0
                try clear hfz78_1
                try clear hfz78_2
                try clear hfz7_0
                try clear hfz7_1
                try clear hfz7_2
                try clear hfz80_0
                try clear hfz80_1
                try clear hfz80_2
                try clear hfz9_0
                try clear hfz9_1
                try clear hfz9_2
                try clear hx871_0
                try clear hx878_0
                try clear p2
                try clear p6
                try clear p8
                try clear p871
                try clear p878
                try clear q8
                try clear q871
                try clear q878
                obtain ⟨kq, x76_63, rfl, HA, HJ63, HO_12, HO_13, BK865, HB⟩ := hcut
                cases kq with
                | zero => exact absurd HA.out (by simp [juntolaw04_ShareSums.j3])
                | succ kj63 =>
                  have H := HA.out
                  clear HA
                  simp only [juntolaw04_ShareSums.j3] at H
                  by_cases c82 : x76_63 = true
                  · subst c82
                    have H1 : ((juntolaw04_is.f kj63 t891 t894 ([] : List Int) 2).bind fun t897 => (if t897 = true then ((juntolaw04_alive.f kj63).bind fun t898 => (some t898)) else (some false))) = some r := by rw [if_pos rfl] at H; exact H
                    clear H
                    have H := H1
                    clear H1
                    replace H := Option.bind_eq_some_iff.mp H
                    obtain ⟨t897, A830, H⟩ := H
                    replace H : (if t897 = true then ((juntolaw04_alive.f kj63).bind fun t898 => (some t898)) else (some false)) = some r := H
                    have A83 := Aside0.mk A830
                    clear A830
                    by_cases c84 : t897 = true
                    · subst c84
                      have H1 : ((juntolaw04_alive.f kj63).bind fun t898 => (some t898)) = some r := by rw [if_pos rfl] at H; exact H
                      clear H
                      have H := H1
                      clear H1
                      replace H := Option.bind_eq_some_iff.mp H
                      obtain ⟨t898, A850, H⟩ := H
                      replace H : (some t898) = some r := H
                      have A85 := Aside0.mk A850
                      clear A850
                      obtain rfl := Option.some.inj H
                      obtain ⟨Ao86, co86, eo86⟩ := Kd.R_slice HO_13.out
                      subst eo86
                      go_wp2_with (first | ((with_reducible refine gate_callee (f := 69) rfl ?_); refine goesL_ (some 79) rfl rfl Try.func69 (by kernel_rfl) rfl #[.slice Ao86 t891.length co86, .int .i64 t894, .slice none 0 0, .int .i64 2] rfl (by (try simp only [List.map_toArray, List.map_cons, List.map_nil]); first | done | rfl | (simp only [List.length_drop, List.length_take]; rfl)) ?_; (refine (juntolaw04_is.calls kj63 _ _ t891 t894 _ _ ([] : List Int) 2 true _ ?side1 ?side2 ?side3 ?side4 A83.out).mono ?_); (case side1 => repeat (first | exact (Kd.R_reads' HO_13.out).2.2 | (with_reducible refine Kd.C_alloc ?_ _) | (with_reducible refine Kd.C_drewN ?_ _) | (with_reducible refine Kd.C_drew ?_))); (case side2 => exact (Kd.R_reads' HO_13.out).2.1); (case side3 => exact Kd.C_nil _ _); (case side4 => exact Nat.le_refl _); rintro e w' ⟨rfl, ⟨nd, rfl⟩⟩; refine ⟨_, rfl, ?_⟩) | (go_at_call 67; (with_reducible refine (juntolaw04_alive.calls kj63  t898 _ A85.out (by first | rfl | exact HRT.out)).mono ?_); rintro e w87 ⟨rfl, hb⟩; have n0_ := Aside0.mk (Kd.R_below (by (with_reducible repeat (first | apply Kd.R_alloc | apply Kd.R_drewN | apply Kd.R_drew)); exact HO_12.out) hb); have n1_ := Aside0.mk (Kd.R_below (by (with_reducible repeat (first | apply Kd.R_alloc | apply Kd.R_drewN | apply Kd.R_drew)); exact HO_13.out) hb); have n2_ := Aside0.mk (blk_below (g := gb865) (o := .cells #[.int .u64 a0_0, .int .i64 a0_1, .int .i64 a0_2] 24 (0, 0)) (by (with_reducible repeat (first | refine blk_drewN ?_ _ | refine blk_drew ?_ | refine blk_alloc ?_ _)); exact BK865.out) hb); have n3_ := Aside0.mk (below_step (by repeat (first | (with_reducible first | exact HB.out | apply below_alloc | apply pw_below_drewN | apply below_drew1 | refine below_set ?_ GE865.out) | exact HB.out)) hb); clear HO_12; clear HO_13; clear BK865; clear HB; have HO_12 := n0_; have HO_13 := n1_; have BK865 := n2_; have HB := n3_; clear n0_ n1_ n2_ n3_; (try clear hb); (try clear hb2); (try clear hk); (try clear hi)))
                      go_ret
                      exact ⟨by first | rfl | (simp [errW_none, errW_some] <;> rfl) | (simp [*, errW_none, errW_some] <;> rfl), by repeat (first | (with_reducible first | exact HB.out | apply below_alloc | apply pw_below_drewN | apply below_drew1 | refine below_set ?_ GE865.out) | exact HB.out)⟩
                    · replace c84 := Bool.eq_false_iff.mpr c84
                      subst c84
                      have H1 : (some false) = some r := by rw [if_neg (show ¬ (false = true) by decide)] at H; exact H
                      clear H
                      have H := H1
                      clear H1
                      exact absurd ((Option.some.inj H).trans HRT.out) (by decide)
                  · replace c82 := Bool.eq_false_iff.mpr c82
                    subst c82
                    have H1 : ((juntoref04_Scale.f kj63 a0_0 a0_1 a0_2 ([] : List Int) a2).bind fun t899 => ((juntolaw04_is.f kj63 t891 t894 t899 0).bind fun t902 => (some t902))) = some r := by rw [if_neg (show ¬ (false = true) by decide)] at H; exact H
                    clear H
                    have H := H1
                    clear H1
                    replace H := Option.bind_eq_some_iff.mp H
                    obtain ⟨t899, A880, H⟩ := H
                    replace H : ((juntolaw04_is.f kj63 t891 t894 t899 0).bind fun t902 => (some t902)) = some r := H
                    have A88 := Aside0.mk A880
                    clear A880
                    replace H := Option.bind_eq_some_iff.mp H
                    obtain ⟨t902, A890, H⟩ := H
                    replace H : (some t902) = some r := H
                    have A89 := Aside0.mk A890
                    clear A890
                    obtain rfl := Option.some.inj H
                    have hcz90_0 : wc.cell? ⟨gb865, 0, none⟩ = some (.int .u64 a0_0) := (blk_cell BK865.out 0).trans rfl
                    have hcz90_1 : wc.cell? ⟨gb865, 1, none⟩ = some (.int .i64 a0_1) := (blk_cell BK865.out 1).trans rfl
                    have hcz90_2 : wc.cell? ⟨gb865, 2, none⟩ = some (.int .i64 a0_2) := (blk_cell BK865.out 2).trans rfl
                    have hfz90_0 := blk_frozen BK865.out 0
                    have hfz90_1 := blk_frozen BK865.out 1
                    have hfz90_2 := blk_frozen BK865.out 2
                    go_wp2_with (first | ((with_reducible refine gate_callee (f := 82) rfl ?_); refine goesL_ (some 88) rfl rfl Try.func82 (by kernel_rfl) rfl #[.agg #[.int .u64 a0_0, .int .i64 a0_1, .int .i64 a0_2], .slice none ([] : List Int).length 0, .int .u64 a2] rfl (by (try simp only [List.map_toArray, List.map_cons, List.map_nil]); first | done | (rw [show ([] : List Int).length = 0 from (Kd.R_reads' HO_12.out).1.symm] <;> rfl) | rfl | (simp only [List.length_drop, List.length_take]; rfl)) ?_; (with_reducible refine (juntoref04_Scale.calls kj63 a0_0 a0_1 a0_2 _ _ ([] : List Int) a2 t899 _ ?side1 ?side2 A88.out).mono ?_); (case side1 => repeat (first | exact (Kd.R_reads' HO_12.out).2.2 | (with_reducible refine Kd.C_alloc ?_ _) | (with_reducible refine Kd.C_drewN ?_ _) | (with_reducible refine Kd.C_drew ?_))); (case side2 => rw [show ([] : List Int).length = 0 from (Kd.R_reads' HO_12.out).1.symm]; exact (Kd.R_reads' HO_12.out).2.1); rintro e w91 ⟨v900, rfl, ho0, hb⟩; refine ⟨_, rfl, ?_⟩; have n0_ := Aside0.mk (Kd.R_elder' (by (with_reducible repeat (first | apply Kd.R_alloc | apply Kd.R_drewN | apply Kd.R_drew)); exact HO_12.out) (Kd.R_base ho0) hb); have n1_ := Aside0.mk (Kd.R_elder' (by (with_reducible repeat (first | apply Kd.R_alloc | apply Kd.R_drewN | apply Kd.R_drew)); exact HO_13.out) (Kd.R_base ho0) hb); have n2_ := Aside0.mk (Kd.R_lower (Kd.R_new' (Kd.R_new' ho0 (Kd.R_lt (by (with_reducible repeat (first | apply Kd.R_alloc | apply Kd.R_drewN | apply Kd.R_drew)); exact HO_12.out))) (Kd.R_lt (by (with_reducible repeat (first | apply Kd.R_alloc | apply Kd.R_drewN | apply Kd.R_drew)); exact HO_13.out))) (below_size (by repeat (first | (with_reducible first | exact HB.out | apply below_alloc | apply pw_below_drewN | apply below_drew1 | refine below_set ?_ GE865.out) | exact HB.out)))); have n3_ := Aside0.mk (blk_below (g := gb865) (o := .cells #[.int .u64 a0_0, .int .i64 a0_1, .int .i64 a0_2] 24 (0, 0)) (by (with_reducible repeat (first | refine blk_drewN ?_ _ | refine blk_drew ?_ | refine blk_alloc ?_ _)); exact BK865.out) hb); have n4_ := Aside0.mk (below_step (by repeat (first | (with_reducible first | exact HB.out | apply below_alloc | apply pw_below_drewN | apply below_drew1 | refine below_set ?_ GE865.out) | exact HB.out)) hb); clear HO_12; clear HO_13; clear BK865; clear HB; have HO_12 := n0_; have HO_13 := n1_; have HO901 := n2_; have BK865 := n3_; have HB := n4_; clear n0_ n1_ n2_ n3_ n4_; (try clear hb); (try clear hb2); (try clear hk); (try clear hi); (try clear ho0); obtain ⟨Ao92, co92, eo92⟩ := Kd.R_slice HO_13.out; subst eo92; obtain ⟨Ao93, co93, eo93⟩ := Kd.R_slice HO901.out; subst eo93) | ((with_reducible refine gate_callee (f := 69) rfl ?_); refine goesL_ (some 89) rfl rfl Try.func69 (by kernel_rfl) rfl #[.slice Ao92 t891.length co92, .int .i64 t894, .slice Ao93 t899.length co93, .int .i64 0] rfl (by (try simp only [List.map_toArray, List.map_cons, List.map_nil]); first | done | rfl | (simp only [List.length_drop, List.length_take]; rfl)) ?_; (with_reducible refine (juntolaw04_is.calls kj63 _ _ t891 t894 _ _ t899 0 t902 _ ?side1 ?side2 ?side3 ?side4 A89.out).mono ?_); (case side1 => repeat (first | exact (Kd.R_reads' HO_13.out).2.2 | (with_reducible refine Kd.C_alloc ?_ _) | (with_reducible refine Kd.C_drewN ?_ _) | (with_reducible refine Kd.C_drew ?_))); (case side2 => exact (Kd.R_reads' HO_13.out).2.1); (case side3 => repeat (first | exact (Kd.R_reads' HO901.out).2.2 | (with_reducible refine Kd.C_alloc ?_ _) | (with_reducible refine Kd.C_drewN ?_ _) | (with_reducible refine Kd.C_drew ?_))); (case side4 => exact (Kd.R_reads' HO901.out).2.1); rintro e w' ⟨rfl, ⟨nd, rfl⟩⟩; refine ⟨_, rfl, ?_⟩))
                    go_ret
                    exact ⟨by first | rfl | (simp [errW_none, errW_some] <;> rfl) | (simp [*, errW_none, errW_some] <;> rfl), by repeat (first | (with_reducible first | exact HB.out | apply below_alloc | apply pw_below_drewN | apply below_drew1 | refine below_set ?_ GE865.out) | exact HB.out)⟩

end Go.Proofs.Ytjjnfobeeflnhaa.J

/- What comes in laid out as a type says is a value of a kind, within the bounds that its weights leave: once for every type. -/
namespace Go.Proofs.Ytjjnfobeeflnhaa.Op
open Go.RowKit Go.Proofs.YtjjnfobeeflnhaaW.PrintWords Go.Proofs.YtjjnfobeeflnhaaW.PrintLast Go.Proofs.YtjjnfobeeflnhaaW.PrintMore

def Opens {α : Type} (P : Program) (d : Kd α) (t : TypeId) (wf : α → Prop) : Prop :=
  ∀ (H : Type) (enc : TypeId × Value → H) (w : World) (base fuel : Nat) (spare : Nat → Bool) (held : Bool) (cs : List Value) (x : DataW H × List MemPlace), cs.length = d.sz →
    DataW.trod enc P w base spare held fuel t cs = some x → (x.1.weights P t).all (· ≤ reachBytes) = true → ∃ a, d.K w a cs ∧ wf a

theorem op_int {P : Program} {t : TypeId} {k : IntKind} (ht : P.underlying t = some (.int k)) : Opens P (Kd.int k) t (fun n => (Lit.int k n).wf = true) := by
  intro H enc w base fuel spare held cs x _ h _
  obtain ⟨n, rfl, _, hw⟩ := DataW.trod_int ht h
  exact ⟨n, rfl, hw⟩

theorem op_bool {P : Program} {t : TypeId} (ht : P.underlying t = some .bool) : Opens P Kd.bool t (fun _ => True) := by
  intro H enc w base fuel spare held cs x _ h _
  obtain ⟨n, rfl, _⟩ := DataW.trod_bool ht h
  exact ⟨n, rfl, trivial⟩

theorem all_weights {H : Type} {P : Program} {e : TypeId} {p : Nat → Bool} : ∀ (ds : List (DataW H)), (DataW.weightsAll P e ds).all p = true → ∀ d ∈ ds, (d.weights P e).all p = true
  | [], _, d, hd => by simp at hd
  | a :: r, h, d, hd => by
    unfold DataW.weightsAll at h
    rw [List.all_append, Bool.and_eq_true] at h
    rcases List.mem_cons.1 hd with rfl | hd
    · exact h.1
    · exact all_weights r h.2 d hd

theorem add_add_ (a : Addr) (i j : Nat) : a.add (i + j) = (a.add i).add j := by
  cases a
  unfold Addr.add
  rcases Nat.eq_zero_or_pos i with hi | hi <;> rcases Nat.eq_zero_or_pos j with hj | hj
  · simp [hi, hj]
  · simp [hi, show j ≠ 0 by omega]
  · simp [hj, show i ≠ 0 by omega]
  · simp [show i ≠ 0 by omega, show j ≠ 0 by omega, Nat.add_assoc]

theorem pick {β : Type} {p : Nat → β → Prop} : ∀ n, (∀ i : Nat, i < n → ∃ q, p i q) → ∃ l : List β, l.length = n ∧ ∀ (i : Nat) (q : β), l[i]? = some q → p i q
  | 0, _ => ⟨[], rfl, fun i q h => by simp at h⟩
  | n + 1, h => by
    obtain ⟨l, hl, hp⟩ := pick n (fun i hi => h i (by omega))
    obtain ⟨q, hq⟩ := h n (by omega)
    refine ⟨l ++ [q], by simp [hl], fun i r hr => ?_⟩
    rcases Nat.lt_or_ge i l.length with hi | hi
    · rw [List.getElem?_append_left hi] at hr
      exact hp i r hr
    · rw [List.getElem?_append_right hi] at hr
      have h0 : i - l.length = 0 := by
        rcases Nat.eq_zero_or_pos (i - l.length) with h' | h'
        · exact h'
        · rw [List.getElem?_eq_none (by simp; omega)] at hr; cases hr
      rw [h0] at hr
      obtain rfl : q = r := by simpa using hr
      have : i = n := by omega
      rw [this]; exact hq

theorem weights_at {H : Type} {P : Program} {p : Nat → Bool} : ∀ (ts : List TypeId) (ds : List (DataW H)) (j : Nat) {t : TypeId} {d : DataW H}, (DataW.weightsEach P ts ds).all p = true → ts[j]? = some t → ds[j]? = some d → (d.weights P t).all p = true
  | [], _, _, _, _, _, ht, _ => by simp at ht
  | _ :: _, [], _, _, _, _, _, hd => by simp at hd
  | t :: ts, d :: ds, j, t', d', h, ht, hd => by
    unfold DataW.weightsEach at h
    rw [List.all_append, Bool.and_eq_true] at h
    match j, ht, hd with
    | 0, ht, hd =>
      obtain rfl : t = t' := by simpa using ht
      obtain rfl : d = d' := by simpa using hd
      exact h.1
    | j + 1, ht, hd => exact weights_at ts ds j h.2 (by simpa using ht) (by simpa using hd)

theorem op_slice {α : Type} {P : Program} {d : Kd α} {t e : TypeId} {B : Nat} {wf : α → Prop} (ht : P.underlying t = some (.slice e)) (hB : P.bytesOf e = B) (hsz : P.cellsOf e = d.sz) (he : Opens P d e wf) :
    Opens P (Kd.slice e d) t (fun l => l.length ≤ maxLen ∧ l.length * B ≤ 140737488351232 ∧ ∀ a ∈ l, wf a) := by
  intro H enc w base fuel spare held cs x _ h hw
  rcases Go.Deep.open_slice ht h with ⟨rfl, _⟩ | ⟨a, len, cap, m, n, D, Pl, rfl, hb, hl, hm, hmm, rfl, hx⟩
  · exact ⟨[], ⟨none, 0, rfl, Nat.le_refl _, rfl, Nat.zero_le _, fun h0 => absurd h0 (by simp)⟩, by simp, by simp, fun a ha => by simp at ha⟩
  · have hlm : len ≤ m := by rw [hmm]; split <;> omega
    simp only [DataW.weights, ht, List.all_cons, List.all_append, Bool.and_eq_true, List.length_map, List.length_range] at hw
    obtain ⟨hw0, hw1, _⟩ := hw
    have each : ∀ i : Nat, i < len → ∃ q : α, wf q ∧ ∃ c : List Value, c.length = d.sz ∧ d.K w q c ∧ ∀ j u, c[j]? = some u → w.cell? (a.add (i * d.sz + j)) = some u := by
      intro i hi
      obtain ⟨cs', h1, h2⟩ := hx i (by omega)
      rw [hsz] at h1
      obtain ⟨_, hlen, hcell⟩ := World.cells?_some h1
      obtain ⟨y, hK, hwf⟩ := he H enc w base n spare held cs' _ hlen h2 (all_weights _ hw1 _ (List.mem_map.2 ⟨i, List.mem_range.2 hi, rfl⟩))
      refine ⟨y, hwf, cs', hlen, hK, fun j u hu => ?_⟩
      have hj : j < d.sz := by
        rw [← hlen]
        rcases Nat.lt_or_ge j cs'.length with h' | h'
        · exact h'
        · rw [List.getElem?_eq_none h'] at hu; cases hu
      have := hcell j hj
      rw [hu] at this
      rw [show a.add (i * d.sz + j) = (a.add (i * d.sz)).add j from add_add_ _ _ _]
      exact this
    obtain ⟨l, rfl, hl2⟩ := pick len each
    refine ⟨l, ⟨some a, cap, rfl, hl, rfl, Nat.le_trans hl hm, fun _ => ⟨a, rfl, fun j p hj => (hl2 j p hj).2⟩⟩, Nat.le_trans hl hm, ?_, ?_⟩
    · have hw2 := of_decide_eq_true hw0
      rw [hB] at hw2
      exact Nat.le_trans (Nat.mul_le_mul_right _ (by omega)) hw2
    · intro y hy
      obtain ⟨j, hj⟩ := List.mem_iff_getElem?.1 hy
      exact (hl2 j y hj).1

/-- Fields in line, from the place o on. -/
def OpL {β : Type} (P : Program) (d : Kd β) (fs : List Field) (o : Nat) (wf : β → Prop) : Prop :=
  ∀ (H : Type) (enc : TypeId × Value → H) (w : World) (base n : Nat) (spare : Nat → Bool) (held : Bool) (cs : List Value) (xs : List (DataW H × List MemPlace)), cs.length = d.sz → xs.length = fs.length →
    (∀ (i : Nat) (f : Field), fs[i]? = some f → DataW.trod enc P w base spare held n f.type ((cs.drop (f.offset - o)).take (P.cellsOf f.type)) = xs[i]?) →
    (DataW.weightsEach P (fs.map (·.type)) (xs.map (·.1))).all (· ≤ reachBytes) = true → ∃ a, d.K w a cs ∧ wf a

theorem opL_one {β : Type} {P : Program} {d : Kd β} {f : Field} {o : Nat} {wf : β → Prop} (ho : f.offset = o) (hc : P.cellsOf f.type = d.sz) (h : Opens P d f.type wf) : OpL P d [f] o wf := by
  intro H enc w base n spare held cs xs hl hx hf hw
  match xs, hx with
  | [y], _ =>
    have h0 := hf 0 f rfl
    rw [ho, Nat.sub_self, List.drop_zero, hc, ← hl, List.take_length] at h0
    simp only [List.map_cons, List.map_nil, DataW.weightsEach, List.append_nil] at hw
    exact h H enc w base n spare held cs y hl h0 hw

theorem opL_cons {α β : Type} {P : Program} {d1 : Kd α} {d : Kd β} {f : Field} {fs : List Field} {o : Nat} {wf1 : α → Prop} {wf : β → Prop} (ho : f.offset = o) (hc : P.cellsOf f.type = d1.sz) (h1 : Opens P d1 f.type wf1)
    (hfs0 : (fs.all fun g => decide (o + d1.sz ≤ g.offset)) = true) (h : OpL P d fs (o + d1.sz) wf) : OpL P (Kd.pair d1 d) (f :: fs) o (fun x => wf1 x.1 ∧ wf x.2) := by
  have hfs : ∀ g ∈ fs, o + d1.sz ≤ g.offset := fun g hg => of_decide_eq_true (List.all_eq_true.1 hfs0 g hg)
  intro H enc w base n spare held cs xs hl hx hf hw
  have hl' : cs.length = d1.sz + d.sz := hl
  match xs, hx with
  | y :: ys, hx =>
    have h0 := hf 0 f rfl
    rw [ho, Nat.sub_self, List.drop_zero, hc] at h0
    simp only [List.map_cons, DataW.weightsEach, List.all_append, Bool.and_eq_true] at hw
    obtain ⟨a, ka, wa⟩ := h1 H enc w base n spare held (cs.take d1.sz) y (by rw [List.length_take]; omega) h0 hw.1
    obtain ⟨b, kb, wb⟩ := h H enc w base n spare held (cs.drop d1.sz) ys (by rw [List.length_drop]; omega) (by simpa using hx) (fun i g hg => by
      have := hf (i + 1) g (by simpa using hg)
      rw [List.drop_drop]
      have hg2 := hfs g (List.mem_of_getElem? hg)
      rw [show d1.sz + (g.offset - (o + d1.sz)) = g.offset - o by omega, this]
      simp) hw.2
    exact ⟨(a, b), ⟨cs.take d1.sz, cs.drop d1.sz, (List.take_append_drop _ _).symm, ka, kb⟩, wa, wb⟩

theorem op_struct {α β : Type} {P : Program} {d : Kd α} {t : TypeId} {fs : Array Field} {wf : α → Prop} {p : β → α} (g : α → β) (hg : ∀ a, p (g a) = a) (ht : P.underlying t = some (.struct fs)) (h : OpL P d fs.toList 0 wf) :
    Opens P (Kd.iso d p) t (fun b => wf (p b)) := by
  intro H enc w base fuel spare held cs x hl hx hw
  obtain ⟨xs, n, rfl, rfl, _, hxl, hf⟩ := DataW.trod_struct ht hx
  simp only [DataW.weights, ht] at hw
  obtain ⟨a, ka, wa⟩ := h H enc w base n spare held cs xs hl (by simpa using hxl) (fun i f hi => by
    rw [Nat.sub_zero]
    exact hf i f (by simpa using hi)) hw
  refine ⟨g a, ?_, ?_⟩
  · show d.K w (p (g a)) cs
    rw [hg]; exact ka
  · show wf (p (g a))
    rw [hg]; exact wa

theorem op_agg {α : Type} {P : Program} {d : Kd α} {t : TypeId} {fs : Array Field} {wf : α → Prop} (ht : P.underlying t = some (.struct fs)) (h : OpL P d fs.toList 0 wf) : Opens P d t wf :=
  op_struct (d := d) (p := fun a => a) (fun a => a) (fun _ => rfl) ht h

theorem okWide_agg {P : Program} {W : World} {r : Reach} {b0 : Nat} {t : TypeId} {fs : Array Field} {v : Value} (ht : P.underlying t = some (.struct fs)) (h : Value.okWide P W r b0 t v) : ∃ cs, v = .agg cs ∧ cs.size = P.cellsOf t := by
  simp only [Value.okWide, ht] at h
  obtain ⟨cs, h1, h2, _⟩ := h
  exact ⟨cs, h1, h2⟩

/-- One argument. -/
theorem arg {α H : Type} {enc : TypeId × Value → H} {P : Program} {d : Kd α} {t : TypeId} {wf : α → Prop} (h : Opens P d t wf) {w : World} {base : Nat} {spare : Nat → Bool} {held : Bool} {v : Value} {x : DataW H} {ps : List MemPlace}
    (hl : v.cells.toList.length = d.sz) (hv : DataW.Trod enc P w base spare held t v x ps) {ts : List TypeId} {ds : List (DataW H)} {j : Nat} (hsz : (DataW.weightsEach P ts ds).all (· ≤ reachBytes) = true) (ht : ts[j]? = some t) (hd : ds[j]? = some x) :
    ∃ a, d.K w a v.cells.toList ∧ wf a := by
  obtain ⟨fuel, hf⟩ := hv
  exact h H enc w base fuel spare held _ _ hl hf (weights_at ts ds j hsz ht hd)

end Go.Proofs.Ytjjnfobeeflnhaa.Op
