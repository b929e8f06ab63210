/- Part 5 of the proof of TwiceMoved: what the functions compute as plain Lean functions, that the machine comes to just these answers, and that the answer is true; no conditions. -/
import Derived.Test.YtjjnfobeeflnhaaTwiceMovedZ0
import Derived.Test.YtjjnfobeeflnhaaTwiceMovedZ1
import Derived.Test.YtjjnfobeeflnhaaTwiceMovedZ2
import Derived.Test.YtjjnfobeeflnhaaTwiceMovedZ3
import Derived.Test.YtjjnfobeeflnhaaTwiceMovedZ4
set_option maxHeartbeats 8000000
set_option maxRecDepth 100000
namespace Go.Proofs.Ytjjnfobeeflnhaa.J
open Go.RowKit Go.Proofs.YtjjnfobeeflnhaaW.PrintWords Go.Proofs.YtjjnfobeeflnhaaW.PrintLast Go.Proofs.YtjjnfobeeflnhaaW.PrintMore
attribute [local go_sem] max2_int min2_int max_two min_two max_three min_three max_four min_four   -- for this text's walks alone
set_option linter.unusedVariables false
set_option linter.unusedSimpArgs false
theorem qea.calls (k : Nat) (a0_0 : Int) (a0_1 : Int) (a0_2 : Int) (A1 : Option Addr) (c1 : Nat) (l1 : List (List Int)) (A2_0 : Option Addr) (c2_0 : Nat) (l2_0 : List Int) (A2_1 : Option Addr) (c2_1 : Nat) (l2_1 : List Int) (a2_2 : Int) (a2_3 : Int) (A2_4 : Option Addr) (c2_4 : Nat) (l2_4 : List Int) (r : Bool) (w : World) (hr1 : Kd.C (Kd.slice 22 (Kd.int .u64)) w A1 l1.length l1) (hc1 : l1.length ≤ c1) (hr2_0 : Kd.C (Kd.int .u64) w A2_0 l2_0.length l2_0) (hc2_0 : l2_0.length ≤ c2_0) (hr2_1 : Kd.C (Kd.int .u64) w A2_1 l2_1.length l2_1) (hc2_1 : l2_1.length ≤ c2_1) (hr2_4 : Kd.C (Kd.int .i64) w A2_4 l2_4.length l2_4) (hc2_4 : l2_4.length ≤ c2_4) (h : qea.f k a0_0 a0_1 a0_2 l1 l2_0 l2_1 a2_2 a2_3 l2_4 = some r) (hrt : r = true := by rfl) :
  Calls Try.prog 20 #[.agg #[.int .u64 a0_0, .int .i64 a0_1, .int .i64 a0_2], .slice A1 l1.length c1, .agg #[.slice A2_0 l2_0.length c2_0, .slice A2_1 l2_1.length c2_1, .int .u64 a2_2, .int .u64 a2_3, .slice A2_4 l2_4.length c2_4]] w fun e w' => e = .returned (.bool r) ∧ Below w.heap.size w w' := by
 have HRT := Aside0.mk hrt
 clear hrt
 have hu24 := Try.underlying24
 have hu107 := Try.underlying107
 have HR1 := Aside0.mk hr1
 have HC1 := Aside0.mk hc1
 clear hr1 hc1
 have HR2_0 := Aside0.mk hr2_0
 have HC2_0 := Aside0.mk hc2_0
 clear hr2_0 hc2_0
 have HR2_1 := Aside0.mk hr2_1
 have HC2_1 := Aside0.mk hc2_1
 clear hr2_1 hc2_1
 have HR2_4 := Aside0.mk hr2_4
 have HC2_4 := Aside0.mk hc2_4
 clear hr2_4 hc2_4
 have HB := Aside0.mk (Below.refl w.heap.size w)
 have H : ((qva.f k a0_0 a0_1 a0_2 l1).bind fun t1079 => (if t1079 = 0 then ((qtb.f k a0_0 a0_1 a0_2 l2_4).bind fun t1080 => (if t1080 = 0 then (if (l2_0.length : Int) > (wrap64 (a0_2 + 1)) then (qea.j0 k l1 true a0_0 a0_1 a0_2 l2_0 l2_1 a2_2 a2_3 l2_4) else (if (l2_1.length : Int) > (wrap64 (a0_2 + 1)) then (qea.j0 k l1 true a0_0 a0_1 a0_2 l2_0 l2_1 a2_2 a2_3 l2_4) else ((qab.f k a0_0 l2_0).bind fun t1081 => (if t1081 = 0 then ((qab.f k a0_0 l2_1).bind fun t1082 => (if t1082 = 0 then (if a2_2 ≥ a0_0 then (qea.j0 k l1 true a0_0 a0_1 a0_2 l2_0 l2_1 a2_2 a2_3 l2_4) else (qea.j0 k l1 (decide (a2_3 ≥ a0_0)) a0_0 a0_1 a0_2 l2_0 l2_1 a2_2 a2_3 l2_4)) else (qea.j0 k l1 true a0_0 a0_1 a0_2 l2_0 l2_1 a2_2 a2_3 l2_4))) else (qea.j0 k l1 true a0_0 a0_1 a0_2 l2_0 l2_1 a2_2 a2_3 l2_4))))) else (qea.j0 k l1 true a0_0 a0_1 a0_2 l2_0 l2_1 a2_2 a2_3 l2_4))) else (qea.j0 k l1 true a0_0 a0_1 a0_2 l2_0 l2_1 a2_2 a2_3 l2_4))) = some r := h
 clear h
 have HC4 := Aside0.mk H
 clear H
 go_enter Try.func20, Try.ntmps20
 go_upto_region 1 with (first | ((with_reducible refine gate_dst (N := 3) rfl ?_); (try (refine gate_guard (by rfl) ?_; dsimp only)); refine box_event ?hg (N := 3) ?hd (cs := #[.int .u64 a0_0, .int .i64 a0_1, .int .i64 a0_2]) (t := 24) ?hr ?_; (case hd => rfl); (case hg => rfl); (case hr => first | (go_simp; done) | (go_simp; rfl)); intro gb1077 hg w5 hbox hb; have n0_ := Aside0.mk (qla (by with_reducible repeat first | exact HB.out | apply qca | apply qba | apply qda) hb); have n1_ := Aside0.mk (hbox); have n2_ := Aside0.mk ((by rw [hg]; exact (qka (by with_reducible repeat first | exact HB.out | apply qca | apply qba | apply qda)) : w.heap.size ≤ gb1077)); have n3_ := Aside0.mk ((by rw [hg]; exact (qka (by with_reducible repeat first | exact HB.out | apply qca | apply qba | apply qda)) : w.heap.size ≤ gb1077)); clear HB; have HB := n0_; have BK1077 := n1_; have GW1077 := n2_; have GE1077 := n3_; clear n0_ n1_ n2_ n3_; clear hb hbox hg) | ((with_reducible refine gate_dst (N := 5) rfl ?_); (try (refine gate_guard (by rfl) ?_; dsimp only)); refine box_event ?hg (N := 5) ?hd (cs := #[.slice A2_0 l2_0.length c2_0, .slice A2_1 l2_1.length c2_1, .int .u64 a2_2, .int .u64 a2_3, .slice A2_4 l2_4.length c2_4]) (t := 107) ?hr ?_; (case hd => rfl); (case hg => rfl); (case hr => first | (go_simp; done) | (go_simp; rfl)); intro gb1078 hg w6 hbox hb; have n0_ := Aside0.mk (blk_below (g := gb1077) (o := .cells #[.int .u64 a0_0, .int .i64 a0_1, .int .i64 a0_2] 24 (0, 0)) (by (with_reducible repeat first | refine qma ?_ _ | refine qpa ?_ | refine qna ?_ _); exact BK1077.out) hb); have n1_ := Aside0.mk (qla (by with_reducible repeat first | exact HB.out | apply qca | apply qba | apply qda | refine qha ?_ GE1077.out) hb); have n2_ := Aside0.mk (hbox); have n3_ := Aside0.mk ((by rw [hg]; exact (qka (by with_reducible repeat first | exact HB.out | apply qca | apply qba | apply qda | refine qha ?_ GE1077.out)) : w.heap.size ≤ gb1078)); have n4_ := Aside0.mk ((by rw [hg]; exact (qka (by with_reducible repeat first | exact HB.out | apply qca | apply qba | apply qda | refine qha ?_ GE1077.out)) : w.heap.size ≤ gb1078)); have n5_ := Aside0.mk ((by rw [hg]; exact Nat.ne_of_lt (blk_lt (g := gb1077) (o := .cells #[.int .u64 a0_0, .int .i64 a0_1, .int .i64 a0_2] 24 (0, 0)) (by (with_reducible repeat first | refine qma ?_ _ | refine qpa ?_ | refine qna ?_ _); exact BK1077.out)) : gb1077 ≠ gb1078)); have n6_ := Aside0.mk ((by rw [hg]; exact Nat.ne_of_gt (blk_lt (g := gb1077) (o := .cells #[.int .u64 a0_0, .int .i64 a0_1, .int .i64 a0_2] 24 (0, 0)) (by (with_reducible repeat first | refine qma ?_ _ | refine qpa ?_ | refine qna ?_ _); exact BK1077.out)) : gb1078 ≠ gb1077)); clear BK1077; clear HB; have BK1077 := n0_; have HB := n1_; have BK1078 := n2_; have GW1078 := n3_; have GE1078 := n4_; have NB1077_1078 := n5_; have NB1078_1077 := n6_; clear n0_ n1_ n2_ n3_ n4_ n5_ n6_; clear hb hbox hg))
 (try simp only [Act.put, qS1, qS2, qS3])
 go_cut [82] (fun v82 wc => ∃ (kq : Nat) (x82_3 : Bool), v82 = .bool x82_3 ∧ Aside0 (qea.j0 kq l1 x82_3 a0_0 a0_1 a0_2 l2_0 l2_1 a2_2 a2_3 l2_4 = some r) ∧ Aside0 (kq ≤ k) ∧ Aside0 (wc.heap[gb1077]? = some (.cells #[.int .u64 a0_0, .int .i64 a0_1, .int .i64 a0_2] 24 (0, 0))) ∧ Aside0 (wc.heap[gb1078]? = some (.cells #[(.slice A2_0 l2_0.length c2_0), (.slice A2_1 l2_1.length c2_1), .int .u64 a2_2, .int .u64 a2_3, (.slice A2_4 l2_4.length c2_4)] 107 (0, 0))) ∧ Aside0 (Below w.heap.size w wc))
 case first =>
  as_aux_lemma =>
   have H := HC4.out
   clear HC4
   replace H := Option.bind_eq_some_iff.mp H
   obtain ⟨t1079, A70, H⟩ := H
   try dsimp only at H
   have A7 := Aside0.mk A70
   clear A70
   by_cases c8 : t1079 = 0
   ·rw [if_pos c8] at H
    have c8b0 : (t1079 == 0) = true := beq_iff_eq.mpr c8
    have c8b1 : (t1079 != 0) = false := bne_eq_false_iff_eq.mpr c8
    clear c8
    (first | rw [c8b0] | (simp only [i64_w, i32_w]; rw [c8b0]) | skip)
    replace H := Option.bind_eq_some_iff.mp H
    obtain ⟨t1080, A90, H⟩ := H
    try dsimp only at H
    have A9 := Aside0.mk A90
    clear A90
    by_cases c10 : t1080 = 0
    ·rw [if_pos c10] at H
     have c10b0 : (t1080 == 0) = true := beq_iff_eq.mpr c10
     have c10b1 : (t1080 != 0) = false := bne_eq_false_iff_eq.mpr c10
     clear c10
     by_cases c11 : (l2_0.length : Int) > (wrap64 (a0_2 + 1))
     ·rw [if_pos c11] at H
      have c11b0 : decide ((wrap64 (a0_2 + 1)) < (l2_0.length : Int)) = true := decide_eq_true c11
      clear c11
      have H' := Aside0.mk H
      clear H
      have hnb12 := NB1077_1078.out
      have hnc12 := NB1078_1077.out
      have hcz13_0 : w6.cell? ⟨gb1077, 0, none⟩ = some (.int .u64 a0_0) := (qfa BK1077.out 0).trans rfl
      have hcz13_1 : w6.cell? ⟨gb1077, 1, none⟩ = some (.int .i64 a0_1) := (qfa BK1077.out 1).trans rfl
      have hcz13_2 : w6.cell? ⟨gb1077, 2, none⟩ = some (.int .i64 a0_2) := (qfa BK1077.out 2).trans rfl
      have hfz13_0 := qga BK1077.out 0
      have hfz13_1 := qga BK1077.out 1
      have hfz13_2 := qga BK1077.out 2
      go_wp2_with (first | ((with_reducible refine qoa (f := 37) rfl ?_); refine goesL_ (some 26) rfl rfl Try.func37 (by kernel_rfl) rfl #[.agg #[.int .u64 a0_0, .int .i64 a0_1, .int .i64 a0_2], .slice A1 l1.length c1] rfl (by (try simp only [qM1, qM2, qM3]); first | done | rfl) ?_; (with_reducible refine (qva.calls k a0_0 a0_1 a0_2 _ _ l1 t1079 _ ?side1 ?side2 A7.out).mono ?_); (case side1 => repeat (first | exact (Kd.C_below HR1.out HB.out) | (with_reducible first | refine Kd.C_alloc ?_ _ | refine Kd.C_drewN ?_ _ | refine Kd.C_drew ?_))); (case side2 => exact HC1.out); rintro e w14 ⟨rfl, hb⟩; refine ⟨_, rfl, ?_⟩; have n0_ := Aside0.mk (blk_below (g := gb1077) (o := .cells #[.int .u64 a0_0, .int .i64 a0_1, .int .i64 a0_2] 24 (0, 0)) (by (with_reducible repeat first | refine qma ?_ _ | refine qpa ?_ | refine qna ?_ _); exact BK1077.out) hb); have n1_ := Aside0.mk (blk_below (g := gb1078) (o := .cells #[.slice A2_0 l2_0.length c2_0, .slice A2_1 l2_1.length c2_1, .int .u64 a2_2, .int .u64 a2_3, .slice A2_4 l2_4.length c2_4] 107 (0, 0)) (by (with_reducible repeat first | refine qma ?_ _ | refine qpa ?_ | refine qna ?_ _); exact BK1078.out) hb); have n2_ := Aside0.mk (qla (by with_reducible repeat first | exact HB.out | apply qca | apply qba | apply qda | refine qha ?_ GE1077.out | refine qha ?_ GE1078.out) hb); clear BK1077; clear BK1078; clear HB; have BK1077 := n0_; have BK1078 := n1_; have HB := n2_; clear n0_ n1_ n2_; (try clear hb); (try clear hb2); (try clear hk); (try clear hi); have hcz15_0 : w14.cell? ⟨gb1077, 0, none⟩ = some (.int .u64 a0_0) := (qfa BK1077.out 0).trans rfl; have hcz15_1 : w14.cell? ⟨gb1077, 1, none⟩ = some (.int .i64 a0_1) := (qfa BK1077.out 1).trans rfl; have hcz15_2 : w14.cell? ⟨gb1077, 2, none⟩ = some (.int .i64 a0_2) := (qfa BK1077.out 2).trans rfl; have hfz15_0 := qga BK1077.out 0; have hfz15_1 := qga BK1077.out 1; have hfz15_2 := qga BK1077.out 2; have hcz16_0 : w14.cell? ⟨gb1078, 0, none⟩ = some (.slice A2_0 l2_0.length c2_0) := (qfa BK1078.out 0).trans rfl; have hcz16_1 : w14.cell? ⟨gb1078, 1, none⟩ = some (.slice A2_1 l2_1.length c2_1) := (qfa BK1078.out 1).trans rfl; have hcz16_2 : w14.cell? ⟨gb1078, 2, none⟩ = some (.int .u64 a2_2) := (qfa BK1078.out 2).trans rfl; have hcz16_3 : w14.cell? ⟨gb1078, 3, none⟩ = some (.int .u64 a2_3) := (qfa BK1078.out 3).trans rfl; have hcz16_4 : w14.cell? ⟨gb1078, 4, none⟩ = some (.slice A2_4 l2_4.length c2_4) := (qfa BK1078.out 4).trans rfl; have hfz16_0 := qga BK1078.out 0; have hfz16_1 := qga BK1078.out 1; have hfz16_2 := qga BK1078.out 2; have hfz16_3 := qga BK1078.out 3; have hfz16_4 := qga BK1078.out 4) | (go_at_call 66; (with_reducible refine (qtb.calls k a0_0 a0_1 a0_2 _ _ l2_4 t1080 _ ?side1 ?side2 A9.out).mono ?_); (case side1 => repeat (first | exact (Kd.C_below HR2_4.out HB.out) | (with_reducible first | refine Kd.C_alloc ?_ _ | refine Kd.C_drewN ?_ _ | refine Kd.C_drew ?_))); (case side2 => exact HC2_4.out); rintro e w17 ⟨rfl, hb⟩; have n0_ := Aside0.mk (blk_below (g := gb1077) (o := .cells #[.int .u64 a0_0, .int .i64 a0_1, .int .i64 a0_2] 24 (0, 0)) (by (with_reducible repeat first | refine qma ?_ _ | refine qpa ?_ | refine qna ?_ _); exact BK1077.out) hb); have n1_ := Aside0.mk (blk_below (g := gb1078) (o := .cells #[.slice A2_0 l2_0.length c2_0, .slice A2_1 l2_1.length c2_1, .int .u64 a2_2, .int .u64 a2_3, .slice A2_4 l2_4.length c2_4] 107 (0, 0)) (by (with_reducible repeat first | refine qma ?_ _ | refine qpa ?_ | refine qna ?_ _); exact BK1078.out) hb); have n2_ := Aside0.mk (qla (by with_reducible repeat first | exact HB.out | apply qca | apply qba | apply qda | refine qha ?_ GE1077.out | refine qha ?_ GE1078.out) hb); clear BK1077; clear BK1078; clear HB; have BK1077 := n0_; have BK1078 := n1_; have HB := n2_; clear n0_ n1_ n2_; (try clear hb); (try clear hb2); (try clear hk); (try clear hi); have hcz18_0 : w17.cell? ⟨gb1078, 0, none⟩ = some (.slice A2_0 l2_0.length c2_0) := (qfa BK1078.out 0).trans rfl; have hcz18_1 : w17.cell? ⟨gb1078, 1, none⟩ = some (.slice A2_1 l2_1.length c2_1) := (qfa BK1078.out 1).trans rfl; have hcz18_2 : w17.cell? ⟨gb1078, 2, none⟩ = some (.int .u64 a2_2) := (qfa BK1078.out 2).trans rfl; have hcz18_3 : w17.cell? ⟨gb1078, 3, none⟩ = some (.int .u64 a2_3) := (qfa BK1078.out 3).trans rfl; have hcz18_4 : w17.cell? ⟨gb1078, 4, none⟩ = some (.slice A2_4 l2_4.length c2_4) := (qfa BK1078.out 4).trans rfl; have hfz18_0 := qga BK1078.out 0; have hfz18_1 := qga BK1078.out 1; have hfz18_2 := qga BK1078.out 2; have hfz18_3 := qga BK1078.out 3; have hfz18_4 := qga BK1078.out 4; have hcz19_0 : w17.cell? ⟨gb1077, 0, none⟩ = some (.int .u64 a0_0) := (qfa BK1077.out 0).trans rfl; have hcz19_1 : w17.cell? ⟨gb1077, 1, none⟩ = some (.int .i64 a0_1) := (qfa BK1077.out 1).trans rfl; have hcz19_2 : w17.cell? ⟨gb1077, 2, none⟩ = some (.int .i64 a0_2) := (qfa BK1077.out 2).trans rfl; have hfz19_0 := qga BK1077.out 0; have hfz19_1 := qga BK1077.out 1; have hfz19_2 := qga BK1077.out 2))
      go_meet
      case rel => exact ⟨_, (true), (by first | rfl | (simp; done) | (simp [*]; done)), H', ⟨by first | omega | exact Nat.le_refl _⟩, ⟨by (with_reducible repeat first | refine qma ?_ _ | refine qpa ?_ | refine qna ?_ _); exact BK1077.out⟩, ⟨by (with_reducible repeat first | refine qma ?_ _ | refine qpa ?_ | refine qna ?_ _); exact BK1078.out⟩, ⟨by repeat (first | (with_reducible first | exact HB.out | apply qca | apply qba | apply qda | refine qha ?_ GE1077.out | refine qha ?_ GE1078.out) | exact HB.out)⟩⟩
     ·rw [if_neg c11] at H
      have c11b0 : decide ((wrap64 (a0_2 + 1)) < (l2_0.length : Int)) = false := decide_eq_false c11
      clear c11
      by_cases c20 : (l2_1.length : Int) > (wrap64 (a0_2 + 1))
      ·rw [if_pos c20] at H
       have c20b0 : decide ((wrap64 (a0_2 + 1)) < (l2_1.length : Int)) = true := decide_eq_true c20
       clear c20
       have H' := Aside0.mk H
       clear H
       have hnb21 := NB1077_1078.out
       have hnc21 := NB1078_1077.out
       have hcz22_0 : w6.cell? ⟨gb1077, 0, none⟩ = some (.int .u64 a0_0) := (qfa BK1077.out 0).trans rfl
       have hcz22_1 : w6.cell? ⟨gb1077, 1, none⟩ = some (.int .i64 a0_1) := (qfa BK1077.out 1).trans rfl
       have hcz22_2 : w6.cell? ⟨gb1077, 2, none⟩ = some (.int .i64 a0_2) := (qfa BK1077.out 2).trans rfl
       have hfz22_0 := qga BK1077.out 0
       have hfz22_1 := qga BK1077.out 1
       have hfz22_2 := qga BK1077.out 2
       go_wp2_with (first | ((with_reducible refine qoa (f := 37) rfl ?_); refine goesL_ (some 26) rfl rfl Try.func37 (by kernel_rfl) rfl #[.agg #[.int .u64 a0_0, .int .i64 a0_1, .int .i64 a0_2], .slice A1 l1.length c1] rfl (by (try simp only [qM1, qM2, qM3]); first | done | rfl) ?_; (with_reducible refine (qva.calls k a0_0 a0_1 a0_2 _ _ l1 t1079 _ ?side1 ?side2 A7.out).mono ?_); (case side1 => repeat (first | exact (Kd.C_below HR1.out HB.out) | (with_reducible first | refine Kd.C_alloc ?_ _ | refine Kd.C_drewN ?_ _ | refine Kd.C_drew ?_))); (case side2 => exact HC1.out); rintro e w23 ⟨rfl, hb⟩; refine ⟨_, rfl, ?_⟩; have n0_ := Aside0.mk (blk_below (g := gb1077) (o := .cells #[.int .u64 a0_0, .int .i64 a0_1, .int .i64 a0_2] 24 (0, 0)) (by (with_reducible repeat first | refine qma ?_ _ | refine qpa ?_ | refine qna ?_ _); exact BK1077.out) hb); have n1_ := Aside0.mk (blk_below (g := gb1078) (o := .cells #[.slice A2_0 l2_0.length c2_0, .slice A2_1 l2_1.length c2_1, .int .u64 a2_2, .int .u64 a2_3, .slice A2_4 l2_4.length c2_4] 107 (0, 0)) (by (with_reducible repeat first | refine qma ?_ _ | refine qpa ?_ | refine qna ?_ _); exact BK1078.out) hb); have n2_ := Aside0.mk (qla (by with_reducible repeat first | exact HB.out | apply qca | apply qba | apply qda | refine qha ?_ GE1077.out | refine qha ?_ GE1078.out) hb); clear BK1077; clear BK1078; clear HB; have BK1077 := n0_; have BK1078 := n1_; have HB := n2_; clear n0_ n1_ n2_; (try clear hb); (try clear hb2); (try clear hk); (try clear hi); have hcz24_0 : w23.cell? ⟨gb1077, 0, none⟩ = some (.int .u64 a0_0) := (qfa BK1077.out 0).trans rfl; have hcz24_1 : w23.cell? ⟨gb1077, 1, none⟩ = some (.int .i64 a0_1) := (qfa BK1077.out 1).trans rfl; have hcz24_2 : w23.cell? ⟨gb1077, 2, none⟩ = some (.int .i64 a0_2) := (qfa BK1077.out 2).trans rfl; have hfz24_0 := qga BK1077.out 0; have hfz24_1 := qga BK1077.out 1; have hfz24_2 := qga BK1077.out 2; have hcz25_0 : w23.cell? ⟨gb1078, 0, none⟩ = some (.slice A2_0 l2_0.length c2_0) := (qfa BK1078.out 0).trans rfl; have hcz25_1 : w23.cell? ⟨gb1078, 1, none⟩ = some (.slice A2_1 l2_1.length c2_1) := (qfa BK1078.out 1).trans rfl; have hcz25_2 : w23.cell? ⟨gb1078, 2, none⟩ = some (.int .u64 a2_2) := (qfa BK1078.out 2).trans rfl; have hcz25_3 : w23.cell? ⟨gb1078, 3, none⟩ = some (.int .u64 a2_3) := (qfa BK1078.out 3).trans rfl; have hcz25_4 : w23.cell? ⟨gb1078, 4, none⟩ = some (.slice A2_4 l2_4.length c2_4) := (qfa BK1078.out 4).trans rfl; have hfz25_0 := qga BK1078.out 0; have hfz25_1 := qga BK1078.out 1; have hfz25_2 := qga BK1078.out 2; have hfz25_3 := qga BK1078.out 3; have hfz25_4 := qga BK1078.out 4) | (go_at_call 66; (with_reducible refine (qtb.calls k a0_0 a0_1 a0_2 _ _ l2_4 t1080 _ ?side1 ?side2 A9.out).mono ?_); (case side1 => repeat (first | exact (Kd.C_below HR2_4.out HB.out) | (with_reducible first | refine Kd.C_alloc ?_ _ | refine Kd.C_drewN ?_ _ | refine Kd.C_drew ?_))); (case side2 => exact HC2_4.out); rintro e w26 ⟨rfl, hb⟩; have n0_ := Aside0.mk (blk_below (g := gb1077) (o := .cells #[.int .u64 a0_0, .int .i64 a0_1, .int .i64 a0_2] 24 (0, 0)) (by (with_reducible repeat first | refine qma ?_ _ | refine qpa ?_ | refine qna ?_ _); exact BK1077.out) hb); have n1_ := Aside0.mk (blk_below (g := gb1078) (o := .cells #[.slice A2_0 l2_0.length c2_0, .slice A2_1 l2_1.length c2_1, .int .u64 a2_2, .int .u64 a2_3, .slice A2_4 l2_4.length c2_4] 107 (0, 0)) (by (with_reducible repeat first | refine qma ?_ _ | refine qpa ?_ | refine qna ?_ _); exact BK1078.out) hb); have n2_ := Aside0.mk (qla (by with_reducible repeat first | exact HB.out | apply qca | apply qba | apply qda | refine qha ?_ GE1077.out | refine qha ?_ GE1078.out) hb); clear BK1077; clear BK1078; clear HB; have BK1077 := n0_; have BK1078 := n1_; have HB := n2_; clear n0_ n1_ n2_; (try clear hb); (try clear hb2); (try clear hk); (try clear hi); have hcz27_0 : w26.cell? ⟨gb1078, 0, none⟩ = some (.slice A2_0 l2_0.length c2_0) := (qfa BK1078.out 0).trans rfl; have hcz27_1 : w26.cell? ⟨gb1078, 1, none⟩ = some (.slice A2_1 l2_1.length c2_1) := (qfa BK1078.out 1).trans rfl; have hcz27_2 : w26.cell? ⟨gb1078, 2, none⟩ = some (.int .u64 a2_2) := (qfa BK1078.out 2).trans rfl; have hcz27_3 : w26.cell? ⟨gb1078, 3, none⟩ = some (.int .u64 a2_3) := (qfa BK1078.out 3).trans rfl; have hcz27_4 : w26.cell? ⟨gb1078, 4, none⟩ = some (.slice A2_4 l2_4.length c2_4) := (qfa BK1078.out 4).trans rfl; have hfz27_0 := qga BK1078.out 0; have hfz27_1 := qga BK1078.out 1; have hfz27_2 := qga BK1078.out 2; have hfz27_3 := qga BK1078.out 3; have hfz27_4 := qga BK1078.out 4; have hcz28_0 : w26.cell? ⟨gb1077, 0, none⟩ = some (.int .u64 a0_0) := (qfa BK1077.out 0).trans rfl; have hcz28_1 : w26.cell? ⟨gb1077, 1, none⟩ = some (.int .i64 a0_1) := (qfa BK1077.out 1).trans rfl; have hcz28_2 : w26.cell? ⟨gb1077, 2, none⟩ = some (.int .i64 a0_2) := (qfa BK1077.out 2).trans rfl; have hfz28_0 := qga BK1077.out 0; have hfz28_1 := qga BK1077.out 1; have hfz28_2 := qga BK1077.out 2))
       go_meet
       case rel => exact ⟨_, (true), (by first | rfl | (simp; done) | (simp [*]; done)), H', ⟨by first | omega | exact Nat.le_refl _⟩, ⟨by (with_reducible repeat first | refine qma ?_ _ | refine qpa ?_ | refine qna ?_ _); exact BK1077.out⟩, ⟨by (with_reducible repeat first | refine qma ?_ _ | refine qpa ?_ | refine qna ?_ _); exact BK1078.out⟩, ⟨by repeat (first | (with_reducible first | exact HB.out | apply qca | apply qba | apply qda | refine qha ?_ GE1077.out | refine qha ?_ GE1078.out) | exact HB.out)⟩⟩
      ·rw [if_neg c20] at H
       have c20b0 : decide ((wrap64 (a0_2 + 1)) < (l2_1.length : Int)) = false := decide_eq_false c20
       clear c20
       replace H := Option.bind_eq_some_iff.mp H
       obtain ⟨t1081, A290, H⟩ := H
       try dsimp only at H
       have A29 := Aside0.mk A290
       clear A290
       by_cases c30 : t1081 = 0
       ·rw [if_pos c30] at H
        have c30b0 : (t1081 == 0) = true := beq_iff_eq.mpr c30
        have c30b1 : (t1081 != 0) = false := bne_eq_false_iff_eq.mpr c30
        clear c30
        replace H := Option.bind_eq_some_iff.mp H
        obtain ⟨t1082, A310, H⟩ := H
        try dsimp only at H
        have A31 := Aside0.mk A310
        clear A310
        by_cases c32 : t1082 = 0
        ·rw [if_pos c32] at H
         have c32b0 : (t1082 == 0) = true := beq_iff_eq.mpr c32
         have c32b1 : (t1082 != 0) = false := bne_eq_false_iff_eq.mpr c32
         clear c32
         by_cases c33 : a2_2 ≥ a0_0
         ·rw [if_pos c33] at H
          have c33b0 : decide (a0_0 ≤ a2_2) = true := decide_eq_true c33
          clear c33
          have H' := Aside0.mk H
          clear H
          have hnb34 := NB1077_1078.out
          have hnc34 := NB1078_1077.out
          have hcz35_0 : w6.cell? ⟨gb1077, 0, none⟩ = some (.int .u64 a0_0) := (qfa BK1077.out 0).trans rfl
          have hcz35_1 : w6.cell? ⟨gb1077, 1, none⟩ = some (.int .i64 a0_1) := (qfa BK1077.out 1).trans rfl
          have hcz35_2 : w6.cell? ⟨gb1077, 2, none⟩ = some (.int .i64 a0_2) := (qfa BK1077.out 2).trans rfl
          have hfz35_0 := qga BK1077.out 0
          have hfz35_1 := qga BK1077.out 1
          have hfz35_2 := qga BK1077.out 2
          go_wp2_with (first | ((with_reducible refine qoa (f := 37) rfl ?_); refine goesL_ (some 26) rfl rfl Try.func37 (by kernel_rfl) rfl #[.agg #[.int .u64 a0_0, .int .i64 a0_1, .int .i64 a0_2], .slice A1 l1.length c1] rfl (by (try simp only [qM1, qM2, qM3]); first | done | rfl) ?_; (with_reducible refine (qva.calls k a0_0 a0_1 a0_2 _ _ l1 t1079 _ ?side1 ?side2 A7.out).mono ?_); (case side1 => repeat (first | exact (Kd.C_below HR1.out HB.out) | (with_reducible first | refine Kd.C_alloc ?_ _ | refine Kd.C_drewN ?_ _ | refine Kd.C_drew ?_))); (case side2 => exact HC1.out); rintro e w36 ⟨rfl, hb⟩; refine ⟨_, rfl, ?_⟩; have n0_ := Aside0.mk (blk_below (g := gb1077) (o := .cells #[.int .u64 a0_0, .int .i64 a0_1, .int .i64 a0_2] 24 (0, 0)) (by (with_reducible repeat first | refine qma ?_ _ | refine qpa ?_ | refine qna ?_ _); exact BK1077.out) hb); have n1_ := Aside0.mk (blk_below (g := gb1078) (o := .cells #[.slice A2_0 l2_0.length c2_0, .slice A2_1 l2_1.length c2_1, .int .u64 a2_2, .int .u64 a2_3, .slice A2_4 l2_4.length c2_4] 107 (0, 0)) (by (with_reducible repeat first | refine qma ?_ _ | refine qpa ?_ | refine qna ?_ _); exact BK1078.out) hb); have n2_ := Aside0.mk (qla (by with_reducible repeat first | exact HB.out | apply qca | apply qba | apply qda | refine qha ?_ GE1077.out | refine qha ?_ GE1078.out) hb); clear BK1077; clear BK1078; clear HB; have BK1077 := n0_; have BK1078 := n1_; have HB := n2_; clear n0_ n1_ n2_; (try clear hb); (try clear hb2); (try clear hk); (try clear hi); have hcz37_0 : w36.cell? ⟨gb1077, 0, none⟩ = some (.int .u64 a0_0) := (qfa BK1077.out 0).trans rfl; have hcz37_1 : w36.cell? ⟨gb1077, 1, none⟩ = some (.int .i64 a0_1) := (qfa BK1077.out 1).trans rfl; have hcz37_2 : w36.cell? ⟨gb1077, 2, none⟩ = some (.int .i64 a0_2) := (qfa BK1077.out 2).trans rfl; have hfz37_0 := qga BK1077.out 0; have hfz37_1 := qga BK1077.out 1; have hfz37_2 := qga BK1077.out 2; have hcz38_0 : w36.cell? ⟨gb1078, 0, none⟩ = some (.slice A2_0 l2_0.length c2_0) := (qfa BK1078.out 0).trans rfl; have hcz38_1 : w36.cell? ⟨gb1078, 1, none⟩ = some (.slice A2_1 l2_1.length c2_1) := (qfa BK1078.out 1).trans rfl; have hcz38_2 : w36.cell? ⟨gb1078, 2, none⟩ = some (.int .u64 a2_2) := (qfa BK1078.out 2).trans rfl; have hcz38_3 : w36.cell? ⟨gb1078, 3, none⟩ = some (.int .u64 a2_3) := (qfa BK1078.out 3).trans rfl; have hcz38_4 : w36.cell? ⟨gb1078, 4, none⟩ = some (.slice A2_4 l2_4.length c2_4) := (qfa BK1078.out 4).trans rfl; have hfz38_0 := qga BK1078.out 0; have hfz38_1 := qga BK1078.out 1; have hfz38_2 := qga BK1078.out 2; have hfz38_3 := qga BK1078.out 3; have hfz38_4 := qga BK1078.out 4) | (go_at_call 66; (with_reducible refine (qtb.calls k a0_0 a0_1 a0_2 _ _ l2_4 t1080 _ ?side1 ?side2 A9.out).mono ?_); (case side1 => repeat (first | exact (Kd.C_below HR2_4.out HB.out) | (with_reducible first | refine Kd.C_alloc ?_ _ | refine Kd.C_drewN ?_ _ | refine Kd.C_drew ?_))); (case side2 => exact HC2_4.out); rintro e w39 ⟨rfl, hb⟩; have n0_ := Aside0.mk (blk_below (g := gb1077) (o := .cells #[.int .u64 a0_0, .int .i64 a0_1, .int .i64 a0_2] 24 (0, 0)) (by (with_reducible repeat first | refine qma ?_ _ | refine qpa ?_ | refine qna ?_ _); exact BK1077.out) hb); have n1_ := Aside0.mk (blk_below (g := gb1078) (o := .cells #[.slice A2_0 l2_0.length c2_0, .slice A2_1 l2_1.length c2_1, .int .u64 a2_2, .int .u64 a2_3, .slice A2_4 l2_4.length c2_4] 107 (0, 0)) (by (with_reducible repeat first | refine qma ?_ _ | refine qpa ?_ | refine qna ?_ _); exact BK1078.out) hb); have n2_ := Aside0.mk (qla (by with_reducible repeat first | exact HB.out | apply qca | apply qba | apply qda | refine qha ?_ GE1077.out | refine qha ?_ GE1078.out) hb); clear BK1077; clear BK1078; clear HB; have BK1077 := n0_; have BK1078 := n1_; have HB := n2_; clear n0_ n1_ n2_; (try clear hb); (try clear hb2); (try clear hk); (try clear hi); have hcz40_0 : w39.cell? ⟨gb1078, 0, none⟩ = some (.slice A2_0 l2_0.length c2_0) := (qfa BK1078.out 0).trans rfl; have hcz40_1 : w39.cell? ⟨gb1078, 1, none⟩ = some (.slice A2_1 l2_1.length c2_1) := (qfa BK1078.out 1).trans rfl; have hcz40_2 : w39.cell? ⟨gb1078, 2, none⟩ = some (.int .u64 a2_2) := (qfa BK1078.out 2).trans rfl; have hcz40_3 : w39.cell? ⟨gb1078, 3, none⟩ = some (.int .u64 a2_3) := (qfa BK1078.out 3).trans rfl; have hcz40_4 : w39.cell? ⟨gb1078, 4, none⟩ = some (.slice A2_4 l2_4.length c2_4) := (qfa BK1078.out 4).trans rfl; have hfz40_0 := qga BK1078.out 0; have hfz40_1 := qga BK1078.out 1; have hfz40_2 := qga BK1078.out 2; have hfz40_3 := qga BK1078.out 3; have hfz40_4 := qga BK1078.out 4; have hcz41_0 : w39.cell? ⟨gb1077, 0, none⟩ = some (.int .u64 a0_0) := (qfa BK1077.out 0).trans rfl; have hcz41_1 : w39.cell? ⟨gb1077, 1, none⟩ = some (.int .i64 a0_1) := (qfa BK1077.out 1).trans rfl; have hcz41_2 : w39.cell? ⟨gb1077, 2, none⟩ = some (.int .i64 a0_2) := (qfa BK1077.out 2).trans rfl; have hfz41_0 := qga BK1077.out 0; have hfz41_1 := qga BK1077.out 1; have hfz41_2 := qga BK1077.out 2) | (go_at_call 54; (with_reducible refine (qab.calls k a0_0 _ _ l2_0 t1081 _ ?side1 ?side2 A29.out).mono ?_); (case side1 => repeat (first | exact (Kd.C_below HR2_0.out HB.out) | (with_reducible first | refine Kd.C_alloc ?_ _ | refine Kd.C_drewN ?_ _ | refine Kd.C_drew ?_))); (case side2 => exact HC2_0.out); rintro e w' ⟨rfl, ⟨nd, rfl⟩⟩) | (go_at_call 54; (with_reducible refine (qab.calls k a0_0 _ _ l2_1 t1082 _ ?side1 ?side2 A31.out).mono ?_); (case side1 => repeat (first | exact (Kd.C_below HR2_1.out (by with_reducible repeat first | exact HB.out | apply qca | apply qba | apply qda | refine qha ?_ GE1077.out | refine qha ?_ GE1078.out)) | (with_reducible first | refine Kd.C_alloc ?_ _ | refine Kd.C_drewN ?_ _ | refine Kd.C_drew ?_))); (case side2 => exact HC2_1.out); rintro e w' ⟨rfl, ⟨nd, rfl⟩⟩))
          go_meet
          case rel => exact ⟨_, (true), (by first | rfl | (simp; done) | (simp [*]; done)), H', ⟨by first | omega | exact Nat.le_refl _⟩, ⟨by (with_reducible repeat first | refine qma ?_ _ | refine qpa ?_ | refine qna ?_ _); exact BK1077.out⟩, ⟨by (with_reducible repeat first | refine qma ?_ _ | refine qpa ?_ | refine qna ?_ _); exact BK1078.out⟩, ⟨by repeat (first | (with_reducible first | exact HB.out | apply qca | apply qba | apply qda | refine qha ?_ GE1077.out | refine qha ?_ GE1078.out) | exact HB.out)⟩⟩
         ·rw [if_neg c33] at H
          have c33b0 : decide (a0_0 ≤ a2_2) = false := decide_eq_false c33
          clear c33
          have H' := Aside0.mk H
          clear H
          have hnb42 := NB1077_1078.out
          have hnc42 := NB1078_1077.out
          have hcz43_0 : w6.cell? ⟨gb1077, 0, none⟩ = some (.int .u64 a0_0) := (qfa BK1077.out 0).trans rfl
          have hcz43_1 : w6.cell? ⟨gb1077, 1, none⟩ = some (.int .i64 a0_1) := (qfa BK1077.out 1).trans rfl
          have hcz43_2 : w6.cell? ⟨gb1077, 2, none⟩ = some (.int .i64 a0_2) := (qfa BK1077.out 2).trans rfl
          have hfz43_0 := qga BK1077.out 0
          have hfz43_1 := qga BK1077.out 1
          have hfz43_2 := qga BK1077.out 2
          go_wp2_with (first | ((with_reducible refine qoa (f := 37) rfl ?_); refine goesL_ (some 26) rfl rfl Try.func37 (by kernel_rfl) rfl #[.agg #[.int .u64 a0_0, .int .i64 a0_1, .int .i64 a0_2], .slice A1 l1.length c1] rfl (by (try simp only [qM1, qM2, qM3]); first | done | rfl) ?_; (with_reducible refine (qva.calls k a0_0 a0_1 a0_2 _ _ l1 t1079 _ ?side1 ?side2 A7.out).mono ?_); (case side1 => repeat (first | exact (Kd.C_below HR1.out HB.out) | (with_reducible first | refine Kd.C_alloc ?_ _ | refine Kd.C_drewN ?_ _ | refine Kd.C_drew ?_))); (case side2 => exact HC1.out); rintro e w44 ⟨rfl, hb⟩; refine ⟨_, rfl, ?_⟩; have n0_ := Aside0.mk (blk_below (g := gb1077) (o := .cells #[.int .u64 a0_0, .int .i64 a0_1, .int .i64 a0_2] 24 (0, 0)) (by (with_reducible repeat first | refine qma ?_ _ | refine qpa ?_ | refine qna ?_ _); exact BK1077.out) hb); have n1_ := Aside0.mk (blk_below (g := gb1078) (o := .cells #[.slice A2_0 l2_0.length c2_0, .slice A2_1 l2_1.length c2_1, .int .u64 a2_2, .int .u64 a2_3, .slice A2_4 l2_4.length c2_4] 107 (0, 0)) (by (with_reducible repeat first | refine qma ?_ _ | refine qpa ?_ | refine qna ?_ _); exact BK1078.out) hb); have n2_ := Aside0.mk (qla (by with_reducible repeat first | exact HB.out | apply qca | apply qba | apply qda | refine qha ?_ GE1077.out | refine qha ?_ GE1078.out) hb); clear BK1077; clear BK1078; clear HB; have BK1077 := n0_; have BK1078 := n1_; have HB := n2_; clear n0_ n1_ n2_; (try clear hb); (try clear hb2); (try clear hk); (try clear hi); have hcz45_0 : w44.cell? ⟨gb1077, 0, none⟩ = some (.int .u64 a0_0) := (qfa BK1077.out 0).trans rfl; have hcz45_1 : w44.cell? ⟨gb1077, 1, none⟩ = some (.int .i64 a0_1) := (qfa BK1077.out 1).trans rfl; have hcz45_2 : w44.cell? ⟨gb1077, 2, none⟩ = some (.int .i64 a0_2) := (qfa BK1077.out 2).trans rfl; have hfz45_0 := qga BK1077.out 0; have hfz45_1 := qga BK1077.out 1; have hfz45_2 := qga BK1077.out 2; have hcz46_0 : w44.cell? ⟨gb1078, 0, none⟩ = some (.slice A2_0 l2_0.length c2_0) := (qfa BK1078.out 0).trans rfl; have hcz46_1 : w44.cell? ⟨gb1078, 1, none⟩ = some (.slice A2_1 l2_1.length c2_1) := (qfa BK1078.out 1).trans rfl; have hcz46_2 : w44.cell? ⟨gb1078, 2, none⟩ = some (.int .u64 a2_2) := (qfa BK1078.out 2).trans rfl; have hcz46_3 : w44.cell? ⟨gb1078, 3, none⟩ = some (.int .u64 a2_3) := (qfa BK1078.out 3).trans rfl; have hcz46_4 : w44.cell? ⟨gb1078, 4, none⟩ = some (.slice A2_4 l2_4.length c2_4) := (qfa BK1078.out 4).trans rfl; have hfz46_0 := qga BK1078.out 0; have hfz46_1 := qga BK1078.out 1; have hfz46_2 := qga BK1078.out 2; have hfz46_3 := qga BK1078.out 3; have hfz46_4 := qga BK1078.out 4) | (go_at_call 66; (with_reducible refine (qtb.calls k a0_0 a0_1 a0_2 _ _ l2_4 t1080 _ ?side1 ?side2 A9.out).mono ?_); (case side1 => repeat (first | exact (Kd.C_below HR2_4.out HB.out) | (with_reducible first | refine Kd.C_alloc ?_ _ | refine Kd.C_drewN ?_ _ | refine Kd.C_drew ?_))); (case side2 => exact HC2_4.out); rintro e w47 ⟨rfl, hb⟩; have n0_ := Aside0.mk (blk_below (g := gb1077) (o := .cells #[.int .u64 a0_0, .int .i64 a0_1, .int .i64 a0_2] 24 (0, 0)) (by (with_reducible repeat first | refine qma ?_ _ | refine qpa ?_ | refine qna ?_ _); exact BK1077.out) hb); have n1_ := Aside0.mk (blk_below (g := gb1078) (o := .cells #[.slice A2_0 l2_0.length c2_0, .slice A2_1 l2_1.length c2_1, .int .u64 a2_2, .int .u64 a2_3, .slice A2_4 l2_4.length c2_4] 107 (0, 0)) (by (with_reducible repeat first | refine qma ?_ _ | refine qpa ?_ | refine qna ?_ _); exact BK1078.out) hb); have n2_ := Aside0.mk (qla (by with_reducible repeat first | exact HB.out | apply qca | apply qba | apply qda | refine qha ?_ GE1077.out | refine qha ?_ GE1078.out) hb); clear BK1077; clear BK1078; clear HB; have BK1077 := n0_; have BK1078 := n1_; have HB := n2_; clear n0_ n1_ n2_; (try clear hb); (try clear hb2); (try clear hk); (try clear hi); have hcz48_0 : w47.cell? ⟨gb1078, 0, none⟩ = some (.slice A2_0 l2_0.length c2_0) := (qfa BK1078.out 0).trans rfl; have hcz48_1 : w47.cell? ⟨gb1078, 1, none⟩ = some (.slice A2_1 l2_1.length c2_1) := (qfa BK1078.out 1).trans rfl; have hcz48_2 : w47.cell? ⟨gb1078, 2, none⟩ = some (.int .u64 a2_2) := (qfa BK1078.out 2).trans rfl; have hcz48_3 : w47.cell? ⟨gb1078, 3, none⟩ = some (.int .u64 a2_3) := (qfa BK1078.out 3).trans rfl; have hcz48_4 : w47.cell? ⟨gb1078, 4, none⟩ = some (.slice A2_4 l2_4.length c2_4) := (qfa BK1078.out 4).trans rfl; have hfz48_0 := qga BK1078.out 0; have hfz48_1 := qga BK1078.out 1; have hfz48_2 := qga BK1078.out 2; have hfz48_3 := qga BK1078.out 3; have hfz48_4 := qga BK1078.out 4; have hcz49_0 : w47.cell? ⟨gb1077, 0, none⟩ = some (.int .u64 a0_0) := (qfa BK1077.out 0).trans rfl; have hcz49_1 : w47.cell? ⟨gb1077, 1, none⟩ = some (.int .i64 a0_1) := (qfa BK1077.out 1).trans rfl; have hcz49_2 : w47.cell? ⟨gb1077, 2, none⟩ = some (.int .i64 a0_2) := (qfa BK1077.out 2).trans rfl; have hfz49_0 := qga BK1077.out 0; have hfz49_1 := qga BK1077.out 1; have hfz49_2 := qga BK1077.out 2) | (go_at_call 54; (with_reducible refine (qab.calls k a0_0 _ _ l2_0 t1081 _ ?side1 ?side2 A29.out).mono ?_); (case side1 => repeat (first | exact (Kd.C_below HR2_0.out HB.out) | (with_reducible first | refine Kd.C_alloc ?_ _ | refine Kd.C_drewN ?_ _ | refine Kd.C_drew ?_))); (case side2 => exact HC2_0.out); rintro e w' ⟨rfl, ⟨nd, rfl⟩⟩) | (go_at_call 54; (with_reducible refine (qab.calls k a0_0 _ _ l2_1 t1082 _ ?side1 ?side2 A31.out).mono ?_); (case side1 => repeat (first | exact (Kd.C_below HR2_1.out (by with_reducible repeat first | exact HB.out | apply qca | apply qba | apply qda | refine qha ?_ GE1077.out | refine qha ?_ GE1078.out)) | (with_reducible first | refine Kd.C_alloc ?_ _ | refine Kd.C_drewN ?_ _ | refine Kd.C_drew ?_))); (case side2 => exact HC2_1.out); rintro e w' ⟨rfl, ⟨nd, rfl⟩⟩))
          go_meet
          case rel => exact ⟨_, (decide (a2_3 ≥ a0_0)), (by first | rfl | (simp; done) | (simp [*]; done)), H', ⟨by first | omega | exact Nat.le_refl _⟩, ⟨by (with_reducible repeat first | refine qma ?_ _ | refine qpa ?_ | refine qna ?_ _); exact BK1077.out⟩, ⟨by (with_reducible repeat first | refine qma ?_ _ | refine qpa ?_ | refine qna ?_ _); exact BK1078.out⟩, ⟨by repeat (first | (with_reducible first | exact HB.out | apply qca | apply qba | apply qda | refine qha ?_ GE1077.out | refine qha ?_ GE1078.out) | exact HB.out)⟩⟩
        ·rw [if_neg c32] at H
         have c32b0 : (t1082 == 0) = false := beq_eq_false_iff_ne.mpr c32
         have c32b1 : (t1082 != 0) = true := bne_iff_ne.mpr c32
         have H' := Aside0.mk H
         clear H
         have hnb50 := NB1077_1078.out
         have hnc50 := NB1078_1077.out
         have hcz51_0 : w6.cell? ⟨gb1077, 0, none⟩ = some (.int .u64 a0_0) := (qfa BK1077.out 0).trans rfl
         have hcz51_1 : w6.cell? ⟨gb1077, 1, none⟩ = some (.int .i64 a0_1) := (qfa BK1077.out 1).trans rfl
         have hcz51_2 : w6.cell? ⟨gb1077, 2, none⟩ = some (.int .i64 a0_2) := (qfa BK1077.out 2).trans rfl
         have hfz51_0 := qga BK1077.out 0
         have hfz51_1 := qga BK1077.out 1
         have hfz51_2 := qga BK1077.out 2
         go_wp2_with (first | ((with_reducible refine qoa (f := 37) rfl ?_); refine goesL_ (some 26) rfl rfl Try.func37 (by kernel_rfl) rfl #[.agg #[.int .u64 a0_0, .int .i64 a0_1, .int .i64 a0_2], .slice A1 l1.length c1] rfl (by (try simp only [qM1, qM2, qM3]); first | done | rfl) ?_; (with_reducible refine (qva.calls k a0_0 a0_1 a0_2 _ _ l1 t1079 _ ?side1 ?side2 A7.out).mono ?_); (case side1 => repeat (first | exact (Kd.C_below HR1.out HB.out) | (with_reducible first | refine Kd.C_alloc ?_ _ | refine Kd.C_drewN ?_ _ | refine Kd.C_drew ?_))); (case side2 => exact HC1.out); rintro e w52 ⟨rfl, hb⟩; refine ⟨_, rfl, ?_⟩; have n0_ := Aside0.mk (blk_below (g := gb1077) (o := .cells #[.int .u64 a0_0, .int .i64 a0_1, .int .i64 a0_2] 24 (0, 0)) (by (with_reducible repeat first | refine qma ?_ _ | refine qpa ?_ | refine qna ?_ _); exact BK1077.out) hb); have n1_ := Aside0.mk (blk_below (g := gb1078) (o := .cells #[.slice A2_0 l2_0.length c2_0, .slice A2_1 l2_1.length c2_1, .int .u64 a2_2, .int .u64 a2_3, .slice A2_4 l2_4.length c2_4] 107 (0, 0)) (by (with_reducible repeat first | refine qma ?_ _ | refine qpa ?_ | refine qna ?_ _); exact BK1078.out) hb); have n2_ := Aside0.mk (qla (by with_reducible repeat first | exact HB.out | apply qca | apply qba | apply qda | refine qha ?_ GE1077.out | refine qha ?_ GE1078.out) hb); clear BK1077; clear BK1078; clear HB; have BK1077 := n0_; have BK1078 := n1_; have HB := n2_; clear n0_ n1_ n2_; (try clear hb); (try clear hb2); (try clear hk); (try clear hi); have hcz53_0 : w52.cell? ⟨gb1077, 0, none⟩ = some (.int .u64 a0_0) := (qfa BK1077.out 0).trans rfl; have hcz53_1 : w52.cell? ⟨gb1077, 1, none⟩ = some (.int .i64 a0_1) := (qfa BK1077.out 1).trans rfl; have hcz53_2 : w52.cell? ⟨gb1077, 2, none⟩ = some (.int .i64 a0_2) := (qfa BK1077.out 2).trans rfl; have hfz53_0 := qga BK1077.out 0; have hfz53_1 := qga BK1077.out 1; have hfz53_2 := qga BK1077.out 2; have hcz54_0 : w52.cell? ⟨gb1078, 0, none⟩ = some (.slice A2_0 l2_0.length c2_0) := (qfa BK1078.out 0).trans rfl; have hcz54_1 : w52.cell? ⟨gb1078, 1, none⟩ = some (.slice A2_1 l2_1.length c2_1) := (qfa BK1078.out 1).trans rfl; have hcz54_2 : w52.cell? ⟨gb1078, 2, none⟩ = some (.int .u64 a2_2) := (qfa BK1078.out 2).trans rfl; have hcz54_3 : w52.cell? ⟨gb1078, 3, none⟩ = some (.int .u64 a2_3) := (qfa BK1078.out 3).trans rfl; have hcz54_4 : w52.cell? ⟨gb1078, 4, none⟩ = some (.slice A2_4 l2_4.length c2_4) := (qfa BK1078.out 4).trans rfl; have hfz54_0 := qga BK1078.out 0; have hfz54_1 := qga BK1078.out 1; have hfz54_2 := qga BK1078.out 2; have hfz54_3 := qga BK1078.out 3; have hfz54_4 := qga BK1078.out 4) | (go_at_call 66; (with_reducible refine (qtb.calls k a0_0 a0_1 a0_2 _ _ l2_4 t1080 _ ?side1 ?side2 A9.out).mono ?_); (case side1 => repeat (first | exact (Kd.C_below HR2_4.out HB.out) | (with_reducible first | refine Kd.C_alloc ?_ _ | refine Kd.C_drewN ?_ _ | refine Kd.C_drew ?_))); (case side2 => exact HC2_4.out); rintro e w55 ⟨rfl, hb⟩; have n0_ := Aside0.mk (blk_below (g := gb1077) (o := .cells #[.int .u64 a0_0, .int .i64 a0_1, .int .i64 a0_2] 24 (0, 0)) (by (with_reducible repeat first | refine qma ?_ _ | refine qpa ?_ | refine qna ?_ _); exact BK1077.out) hb); have n1_ := Aside0.mk (blk_below (g := gb1078) (o := .cells #[.slice A2_0 l2_0.length c2_0, .slice A2_1 l2_1.length c2_1, .int .u64 a2_2, .int .u64 a2_3, .slice A2_4 l2_4.length c2_4] 107 (0, 0)) (by (with_reducible repeat first | refine qma ?_ _ | refine qpa ?_ | refine qna ?_ _); exact BK1078.out) hb); have n2_ := Aside0.mk (qla (by with_reducible repeat first | exact HB.out | apply qca | apply qba | apply qda | refine qha ?_ GE1077.out | refine qha ?_ GE1078.out) hb); clear BK1077; clear BK1078; clear HB; have BK1077 := n0_; have BK1078 := n1_; have HB := n2_; clear n0_ n1_ n2_; (try clear hb); (try clear hb2); (try clear hk); (try clear hi); have hcz56_0 : w55.cell? ⟨gb1078, 0, none⟩ = some (.slice A2_0 l2_0.length c2_0) := (qfa BK1078.out 0).trans rfl; have hcz56_1 : w55.cell? ⟨gb1078, 1, none⟩ = some (.slice A2_1 l2_1.length c2_1) := (qfa BK1078.out 1).trans rfl; have hcz56_2 : w55.cell? ⟨gb1078, 2, none⟩ = some (.int .u64 a2_2) := (qfa BK1078.out 2).trans rfl; have hcz56_3 : w55.cell? ⟨gb1078, 3, none⟩ = some (.int .u64 a2_3) := (qfa BK1078.out 3).trans rfl; have hcz56_4 : w55.cell? ⟨gb1078, 4, none⟩ = some (.slice A2_4 l2_4.length c2_4) := (qfa BK1078.out 4).trans rfl; have hfz56_0 := qga BK1078.out 0; have hfz56_1 := qga BK1078.out 1; have hfz56_2 := qga BK1078.out 2; have hfz56_3 := qga BK1078.out 3; have hfz56_4 := qga BK1078.out 4; have hcz57_0 : w55.cell? ⟨gb1077, 0, none⟩ = some (.int .u64 a0_0) := (qfa BK1077.out 0).trans rfl; have hcz57_1 : w55.cell? ⟨gb1077, 1, none⟩ = some (.int .i64 a0_1) := (qfa BK1077.out 1).trans rfl; have hcz57_2 : w55.cell? ⟨gb1077, 2, none⟩ = some (.int .i64 a0_2) := (qfa BK1077.out 2).trans rfl; have hfz57_0 := qga BK1077.out 0; have hfz57_1 := qga BK1077.out 1; have hfz57_2 := qga BK1077.out 2) | (go_at_call 54; (with_reducible refine (qab.calls k a0_0 _ _ l2_0 t1081 _ ?side1 ?side2 A29.out).mono ?_); (case side1 => repeat (first | exact (Kd.C_below HR2_0.out HB.out) | (with_reducible first | refine Kd.C_alloc ?_ _ | refine Kd.C_drewN ?_ _ | refine Kd.C_drew ?_))); (case side2 => exact HC2_0.out); rintro e w' ⟨rfl, ⟨nd, rfl⟩⟩) | (go_at_call 54; (with_reducible refine (qab.calls k a0_0 _ _ l2_1 t1082 _ ?side1 ?side2 A31.out).mono ?_); (case side1 => repeat (first | exact (Kd.C_below HR2_1.out (by with_reducible repeat first | exact HB.out | apply qca | apply qba | apply qda | refine qha ?_ GE1077.out | refine qha ?_ GE1078.out)) | (with_reducible first | refine Kd.C_alloc ?_ _ | refine Kd.C_drewN ?_ _ | refine Kd.C_drew ?_))); (case side2 => exact HC2_1.out); rintro e w' ⟨rfl, ⟨nd, rfl⟩⟩))
         go_meet
         case rel => exact ⟨_, (true), (by first | rfl | (simp; done) | (simp [*]; done)), H', ⟨by first | omega | exact Nat.le_refl _⟩, ⟨by (with_reducible repeat first | refine qma ?_ _ | refine qpa ?_ | refine qna ?_ _); exact BK1077.out⟩, ⟨by (with_reducible repeat first | refine qma ?_ _ | refine qpa ?_ | refine qna ?_ _); exact BK1078.out⟩, ⟨by repeat (first | (with_reducible first | exact HB.out | apply qca | apply qba | apply qda | refine qha ?_ GE1077.out | refine qha ?_ GE1078.out) | exact HB.out)⟩⟩
       ·rw [if_neg c30] at H
        have c30b0 : (t1081 == 0) = false := beq_eq_false_iff_ne.mpr c30
        have c30b1 : (t1081 != 0) = true := bne_iff_ne.mpr c30
        have H' := Aside0.mk H
        clear H
        have hnb58 := NB1077_1078.out
        have hnc58 := NB1078_1077.out
        have hcz59_0 : w6.cell? ⟨gb1077, 0, none⟩ = some (.int .u64 a0_0) := (qfa BK1077.out 0).trans rfl
        have hcz59_1 : w6.cell? ⟨gb1077, 1, none⟩ = some (.int .i64 a0_1) := (qfa BK1077.out 1).trans rfl
        have hcz59_2 : w6.cell? ⟨gb1077, 2, none⟩ = some (.int .i64 a0_2) := (qfa BK1077.out 2).trans rfl
        have hfz59_0 := qga BK1077.out 0
        have hfz59_1 := qga BK1077.out 1
        have hfz59_2 := qga BK1077.out 2
        go_wp2_with (first | ((with_reducible refine qoa (f := 37) rfl ?_); refine goesL_ (some 26) rfl rfl Try.func37 (by kernel_rfl) rfl #[.agg #[.int .u64 a0_0, .int .i64 a0_1, .int .i64 a0_2], .slice A1 l1.length c1] rfl (by (try simp only [qM1, qM2, qM3]); first | done | rfl) ?_; (with_reducible refine (qva.calls k a0_0 a0_1 a0_2 _ _ l1 t1079 _ ?side1 ?side2 A7.out).mono ?_); (case side1 => repeat (first | exact (Kd.C_below HR1.out HB.out) | (with_reducible first | refine Kd.C_alloc ?_ _ | refine Kd.C_drewN ?_ _ | refine Kd.C_drew ?_))); (case side2 => exact HC1.out); rintro e w60 ⟨rfl, hb⟩; refine ⟨_, rfl, ?_⟩; have n0_ := Aside0.mk (blk_below (g := gb1077) (o := .cells #[.int .u64 a0_0, .int .i64 a0_1, .int .i64 a0_2] 24 (0, 0)) (by (with_reducible repeat first | refine qma ?_ _ | refine qpa ?_ | refine qna ?_ _); exact BK1077.out) hb); have n1_ := Aside0.mk (blk_below (g := gb1078) (o := .cells #[.slice A2_0 l2_0.length c2_0, .slice A2_1 l2_1.length c2_1, .int .u64 a2_2, .int .u64 a2_3, .slice A2_4 l2_4.length c2_4] 107 (0, 0)) (by (with_reducible repeat first | refine qma ?_ _ | refine qpa ?_ | refine qna ?_ _); exact BK1078.out) hb); have n2_ := Aside0.mk (qla (by with_reducible repeat first | exact HB.out | apply qca | apply qba | apply qda | refine qha ?_ GE1077.out | refine qha ?_ GE1078.out) hb); clear BK1077; clear BK1078; clear HB; have BK1077 := n0_; have BK1078 := n1_; have HB := n2_; clear n0_ n1_ n2_; (try clear hb); (try clear hb2); (try clear hk); (try clear hi); have hcz61_0 : w60.cell? ⟨gb1077, 0, none⟩ = some (.int .u64 a0_0) := (qfa BK1077.out 0).trans rfl; have hcz61_1 : w60.cell? ⟨gb1077, 1, none⟩ = some (.int .i64 a0_1) := (qfa BK1077.out 1).trans rfl; have hcz61_2 : w60.cell? ⟨gb1077, 2, none⟩ = some (.int .i64 a0_2) := (qfa BK1077.out 2).trans rfl; have hfz61_0 := qga BK1077.out 0; have hfz61_1 := qga BK1077.out 1; have hfz61_2 := qga BK1077.out 2; have hcz62_0 : w60.cell? ⟨gb1078, 0, none⟩ = some (.slice A2_0 l2_0.length c2_0) := (qfa BK1078.out 0).trans rfl; have hcz62_1 : w60.cell? ⟨gb1078, 1, none⟩ = some (.slice A2_1 l2_1.length c2_1) := (qfa BK1078.out 1).trans rfl; have hcz62_2 : w60.cell? ⟨gb1078, 2, none⟩ = some (.int .u64 a2_2) := (qfa BK1078.out 2).trans rfl; have hcz62_3 : w60.cell? ⟨gb1078, 3, none⟩ = some (.int .u64 a2_3) := (qfa BK1078.out 3).trans rfl; have hcz62_4 : w60.cell? ⟨gb1078, 4, none⟩ = some (.slice A2_4 l2_4.length c2_4) := (qfa BK1078.out 4).trans rfl; have hfz62_0 := qga BK1078.out 0; have hfz62_1 := qga BK1078.out 1; have hfz62_2 := qga BK1078.out 2; have hfz62_3 := qga BK1078.out 3; have hfz62_4 := qga BK1078.out 4) | (go_at_call 66; (with_reducible refine (qtb.calls k a0_0 a0_1 a0_2 _ _ l2_4 t1080 _ ?side1 ?side2 A9.out).mono ?_); (case side1 => repeat (first | exact (Kd.C_below HR2_4.out HB.out) | (with_reducible first | refine Kd.C_alloc ?_ _ | refine Kd.C_drewN ?_ _ | refine Kd.C_drew ?_))); (case side2 => exact HC2_4.out); rintro e w63 ⟨rfl, hb⟩; have n0_ := Aside0.mk (blk_below (g := gb1077) (o := .cells #[.int .u64 a0_0, .int .i64 a0_1, .int .i64 a0_2] 24 (0, 0)) (by (with_reducible repeat first | refine qma ?_ _ | refine qpa ?_ | refine qna ?_ _); exact BK1077.out) hb); have n1_ := Aside0.mk (blk_below (g := gb1078) (o := .cells #[.slice A2_0 l2_0.length c2_0, .slice A2_1 l2_1.length c2_1, .int .u64 a2_2, .int .u64 a2_3, .slice A2_4 l2_4.length c2_4] 107 (0, 0)) (by (with_reducible repeat first | refine qma ?_ _ | refine qpa ?_ | refine qna ?_ _); exact BK1078.out) hb); have n2_ := Aside0.mk (qla (by with_reducible repeat first | exact HB.out | apply qca | apply qba | apply qda | refine qha ?_ GE1077.out | refine qha ?_ GE1078.out) hb); clear BK1077; clear BK1078; clear HB; have BK1077 := n0_; have BK1078 := n1_; have HB := n2_; clear n0_ n1_ n2_; (try clear hb); (try clear hb2); (try clear hk); (try clear hi); have hcz64_0 : w63.cell? ⟨gb1078, 0, none⟩ = some (.slice A2_0 l2_0.length c2_0) := (qfa BK1078.out 0).trans rfl; have hcz64_1 : w63.cell? ⟨gb1078, 1, none⟩ = some (.slice A2_1 l2_1.length c2_1) := (qfa BK1078.out 1).trans rfl; have hcz64_2 : w63.cell? ⟨gb1078, 2, none⟩ = some (.int .u64 a2_2) := (qfa BK1078.out 2).trans rfl; have hcz64_3 : w63.cell? ⟨gb1078, 3, none⟩ = some (.int .u64 a2_3) := (qfa BK1078.out 3).trans rfl; have hcz64_4 : w63.cell? ⟨gb1078, 4, none⟩ = some (.slice A2_4 l2_4.length c2_4) := (qfa BK1078.out 4).trans rfl; have hfz64_0 := qga BK1078.out 0; have hfz64_1 := qga BK1078.out 1; have hfz64_2 := qga BK1078.out 2; have hfz64_3 := qga BK1078.out 3; have hfz64_4 := qga BK1078.out 4; have hcz65_0 : w63.cell? ⟨gb1077, 0, none⟩ = some (.int .u64 a0_0) := (qfa BK1077.out 0).trans rfl; have hcz65_1 : w63.cell? ⟨gb1077, 1, none⟩ = some (.int .i64 a0_1) := (qfa BK1077.out 1).trans rfl; have hcz65_2 : w63.cell? ⟨gb1077, 2, none⟩ = some (.int .i64 a0_2) := (qfa BK1077.out 2).trans rfl; have hfz65_0 := qga BK1077.out 0; have hfz65_1 := qga BK1077.out 1; have hfz65_2 := qga BK1077.out 2) | (go_at_call 54; (with_reducible refine (qab.calls k a0_0 _ _ l2_0 t1081 _ ?side1 ?side2 A29.out).mono ?_); (case side1 => repeat (first | exact (Kd.C_below HR2_0.out HB.out) | (with_reducible first | refine Kd.C_alloc ?_ _ | refine Kd.C_drewN ?_ _ | refine Kd.C_drew ?_))); (case side2 => exact HC2_0.out); rintro e w' ⟨rfl, ⟨nd, rfl⟩⟩))
        go_meet
        case rel => exact ⟨_, (true), (by first | rfl | (simp; done) | (simp [*]; done)), H', ⟨by first | omega | exact Nat.le_refl _⟩, ⟨by (with_reducible repeat first | refine qma ?_ _ | refine qpa ?_ | refine qna ?_ _); exact BK1077.out⟩, ⟨by (with_reducible repeat first | refine qma ?_ _ | refine qpa ?_ | refine qna ?_ _); exact BK1078.out⟩, ⟨by repeat (first | (with_reducible first | exact HB.out | apply qca | apply qba | apply qda | refine qha ?_ GE1077.out | refine qha ?_ GE1078.out) | exact HB.out)⟩⟩
    ·rw [if_neg c10] at H
     have c10b0 : (t1080 == 0) = false := beq_eq_false_iff_ne.mpr c10
     have c10b1 : (t1080 != 0) = true := bne_iff_ne.mpr c10
     have H' := Aside0.mk H
     clear H
     have hnb66 := NB1077_1078.out
     have hnc66 := NB1078_1077.out
     have hcz67_0 : w6.cell? ⟨gb1077, 0, none⟩ = some (.int .u64 a0_0) := (qfa BK1077.out 0).trans rfl
     have hcz67_1 : w6.cell? ⟨gb1077, 1, none⟩ = some (.int .i64 a0_1) := (qfa BK1077.out 1).trans rfl
     have hcz67_2 : w6.cell? ⟨gb1077, 2, none⟩ = some (.int .i64 a0_2) := (qfa BK1077.out 2).trans rfl
     have hfz67_0 := qga BK1077.out 0
     have hfz67_1 := qga BK1077.out 1
     have hfz67_2 := qga BK1077.out 2
     go_wp2_with (first | ((with_reducible refine qoa (f := 37) rfl ?_); refine goesL_ (some 26) rfl rfl Try.func37 (by kernel_rfl) rfl #[.agg #[.int .u64 a0_0, .int .i64 a0_1, .int .i64 a0_2], .slice A1 l1.length c1] rfl (by (try simp only [qM1, qM2, qM3]); first | done | rfl) ?_; (with_reducible refine (qva.calls k a0_0 a0_1 a0_2 _ _ l1 t1079 _ ?side1 ?side2 A7.out).mono ?_); (case side1 => repeat (first | exact (Kd.C_below HR1.out HB.out) | (with_reducible first | refine Kd.C_alloc ?_ _ | refine Kd.C_drewN ?_ _ | refine Kd.C_drew ?_))); (case side2 => exact HC1.out); rintro e w68 ⟨rfl, hb⟩; refine ⟨_, rfl, ?_⟩; have n0_ := Aside0.mk (blk_below (g := gb1077) (o := .cells #[.int .u64 a0_0, .int .i64 a0_1, .int .i64 a0_2] 24 (0, 0)) (by (with_reducible repeat first | refine qma ?_ _ | refine qpa ?_ | refine qna ?_ _); exact BK1077.out) hb); have n1_ := Aside0.mk (blk_below (g := gb1078) (o := .cells #[.slice A2_0 l2_0.length c2_0, .slice A2_1 l2_1.length c2_1, .int .u64 a2_2, .int .u64 a2_3, .slice A2_4 l2_4.length c2_4] 107 (0, 0)) (by (with_reducible repeat first | refine qma ?_ _ | refine qpa ?_ | refine qna ?_ _); exact BK1078.out) hb); have n2_ := Aside0.mk (qla (by with_reducible repeat first | exact HB.out | apply qca | apply qba | apply qda | refine qha ?_ GE1077.out | refine qha ?_ GE1078.out) hb); clear BK1077; clear BK1078; clear HB; have BK1077 := n0_; have BK1078 := n1_; have HB := n2_; clear n0_ n1_ n2_; (try clear hb); (try clear hb2); (try clear hk); (try clear hi); have hcz69_0 : w68.cell? ⟨gb1077, 0, none⟩ = some (.int .u64 a0_0) := (qfa BK1077.out 0).trans rfl; have hcz69_1 : w68.cell? ⟨gb1077, 1, none⟩ = some (.int .i64 a0_1) := (qfa BK1077.out 1).trans rfl; have hcz69_2 : w68.cell? ⟨gb1077, 2, none⟩ = some (.int .i64 a0_2) := (qfa BK1077.out 2).trans rfl; have hfz69_0 := qga BK1077.out 0; have hfz69_1 := qga BK1077.out 1; have hfz69_2 := qga BK1077.out 2; have hcz70_0 : w68.cell? ⟨gb1078, 0, none⟩ = some (.slice A2_0 l2_0.length c2_0) := (qfa BK1078.out 0).trans rfl; have hcz70_1 : w68.cell? ⟨gb1078, 1, none⟩ = some (.slice A2_1 l2_1.length c2_1) := (qfa BK1078.out 1).trans rfl; have hcz70_2 : w68.cell? ⟨gb1078, 2, none⟩ = some (.int .u64 a2_2) := (qfa BK1078.out 2).trans rfl; have hcz70_3 : w68.cell? ⟨gb1078, 3, none⟩ = some (.int .u64 a2_3) := (qfa BK1078.out 3).trans rfl; have hcz70_4 : w68.cell? ⟨gb1078, 4, none⟩ = some (.slice A2_4 l2_4.length c2_4) := (qfa BK1078.out 4).trans rfl; have hfz70_0 := qga BK1078.out 0; have hfz70_1 := qga BK1078.out 1; have hfz70_2 := qga BK1078.out 2; have hfz70_3 := qga BK1078.out 3; have hfz70_4 := qga BK1078.out 4) | (go_at_call 66; (with_reducible refine (qtb.calls k a0_0 a0_1 a0_2 _ _ l2_4 t1080 _ ?side1 ?side2 A9.out).mono ?_); (case side1 => repeat (first | exact (Kd.C_below HR2_4.out HB.out) | (with_reducible first | refine Kd.C_alloc ?_ _ | refine Kd.C_drewN ?_ _ | refine Kd.C_drew ?_))); (case side2 => exact HC2_4.out); rintro e w71 ⟨rfl, hb⟩; have n0_ := Aside0.mk (blk_below (g := gb1077) (o := .cells #[.int .u64 a0_0, .int .i64 a0_1, .int .i64 a0_2] 24 (0, 0)) (by (with_reducible repeat first | refine qma ?_ _ | refine qpa ?_ | refine qna ?_ _); exact BK1077.out) hb); have n1_ := Aside0.mk (blk_below (g := gb1078) (o := .cells #[.slice A2_0 l2_0.length c2_0, .slice A2_1 l2_1.length c2_1, .int .u64 a2_2, .int .u64 a2_3, .slice A2_4 l2_4.length c2_4] 107 (0, 0)) (by (with_reducible repeat first | refine qma ?_ _ | refine qpa ?_ | refine qna ?_ _); exact BK1078.out) hb); have n2_ := Aside0.mk (qla (by with_reducible repeat first | exact HB.out | apply qca | apply qba | apply qda | refine qha ?_ GE1077.out | refine qha ?_ GE1078.out) hb); clear BK1077; clear BK1078; clear HB; have BK1077 := n0_; have BK1078 := n1_; have HB := n2_; clear n0_ n1_ n2_; (try clear hb); (try clear hb2); (try clear hk); (try clear hi)))
     go_meet
     case rel => exact ⟨_, (true), (by first | rfl | (simp; done) | (simp [*]; done)), H', ⟨by first | omega | exact Nat.le_refl _⟩, ⟨by (with_reducible repeat first | refine qma ?_ _ | refine qpa ?_ | refine qna ?_ _); exact BK1077.out⟩, ⟨by (with_reducible repeat first | refine qma ?_ _ | refine qpa ?_ | refine qna ?_ _); exact BK1078.out⟩, ⟨by repeat (first | (with_reducible first | exact HB.out | apply qca | apply qba | apply qda | refine qha ?_ GE1077.out | refine qha ?_ GE1078.out) | exact HB.out)⟩⟩
   ·rw [if_neg c8] at H
    have c8b0 : (t1079 == 0) = false := beq_eq_false_iff_ne.mpr c8
    have c8b1 : (t1079 != 0) = true := bne_iff_ne.mpr c8
    (first | rw [c8b0] | (simp only [i64_w, i32_w]; rw [c8b0]) | skip)
    have H' := Aside0.mk H
    clear H
    have hnb72 := NB1077_1078.out
    have hnc72 := NB1078_1077.out
    have hcz73_0 : w6.cell? ⟨gb1077, 0, none⟩ = some (.int .u64 a0_0) := (qfa BK1077.out 0).trans rfl
    have hcz73_1 : w6.cell? ⟨gb1077, 1, none⟩ = some (.int .i64 a0_1) := (qfa BK1077.out 1).trans rfl
    have hcz73_2 : w6.cell? ⟨gb1077, 2, none⟩ = some (.int .i64 a0_2) := (qfa BK1077.out 2).trans rfl
    have hfz73_0 := qga BK1077.out 0
    have hfz73_1 := qga BK1077.out 1
    have hfz73_2 := qga BK1077.out 2
    go_wp2_with (first | ((with_reducible refine qoa (f := 37) rfl ?_); refine goesL_ (some 26) rfl rfl Try.func37 (by kernel_rfl) rfl #[.agg #[.int .u64 a0_0, .int .i64 a0_1, .int .i64 a0_2], .slice A1 l1.length c1] rfl (by (try simp only [qM1, qM2, qM3]); first | done | rfl) ?_; (with_reducible refine (qva.calls k a0_0 a0_1 a0_2 _ _ l1 t1079 _ ?side1 ?side2 A7.out).mono ?_); (case side1 => repeat (first | exact (Kd.C_below HR1.out HB.out) | (with_reducible first | refine Kd.C_alloc ?_ _ | refine Kd.C_drewN ?_ _ | refine Kd.C_drew ?_))); (case side2 => exact HC1.out); rintro e w74 ⟨rfl, hb⟩; refine ⟨_, rfl, ?_⟩; have n0_ := Aside0.mk (blk_below (g := gb1077) (o := .cells #[.int .u64 a0_0, .int .i64 a0_1, .int .i64 a0_2] 24 (0, 0)) (by (with_reducible repeat first | refine qma ?_ _ | refine qpa ?_ | refine qna ?_ _); exact BK1077.out) hb); have n1_ := Aside0.mk (blk_below (g := gb1078) (o := .cells #[.slice A2_0 l2_0.length c2_0, .slice A2_1 l2_1.length c2_1, .int .u64 a2_2, .int .u64 a2_3, .slice A2_4 l2_4.length c2_4] 107 (0, 0)) (by (with_reducible repeat first | refine qma ?_ _ | refine qpa ?_ | refine qna ?_ _); exact BK1078.out) hb); have n2_ := Aside0.mk (qla (by with_reducible repeat first | exact HB.out | apply qca | apply qba | apply qda | refine qha ?_ GE1077.out | refine qha ?_ GE1078.out) hb); clear BK1077; clear BK1078; clear HB; have BK1077 := n0_; have BK1078 := n1_; have HB := n2_; clear n0_ n1_ n2_; (try clear hb); (try clear hb2); (try clear hk); (try clear hi)))
    go_meet
    case rel => exact ⟨_, (true), (by first | rfl | (simp; done) | (simp [*]; done)), H', ⟨by first | omega | exact Nat.le_refl _⟩, ⟨by (with_reducible repeat first | refine qma ?_ _ | refine qpa ?_ | refine qna ?_ _); exact BK1077.out⟩, ⟨by (with_reducible repeat first | refine qma ?_ _ | refine qpa ?_ | refine qna ?_ _); exact BK1078.out⟩, ⟨by repeat (first | (with_reducible first | exact HB.out | apply qca | apply qba | apply qda | refine qha ?_ GE1077.out | refine qha ?_ GE1078.out) | exact HB.out)⟩⟩
 case rest =>
  as_aux_lemma =>
   clear HC4; (try clear c1); (try clear c2); (try clear p2); (try clear c3); (try clear c4); (try clear c5); (try clear c6); (try clear p6); (try clear c7); (try clear c8); (try clear c8b0); (try clear c8b1); (try clear c10); (try clear c10b0); (try clear c10b1); (try clear c11); (try clear c11b0); (try clear c12); (try clear c20); (try clear c20b0); (try clear c21); (try clear c30); (try clear c30b0); (try clear c30b1); (try clear c32); (try clear c32b0); (try clear c32b1); (try clear c33); (try clear c33b0); (try clear c34); (try clear c37); (try clear c42); (try clear c50); (try clear c58); (try clear p64); (try clear c66); (try clear c72); (try clear hcz13_0); (try clear hcz13_1); (try clear hcz13_2); (try clear hcz15_0); (try clear hcz15_1); (try clear hcz15_2); (try clear hcz16_0); (try clear hcz16_1); (try clear hcz16_2); (try clear hcz16_3); (try clear hcz16_4); (try clear hcz18_0); (try clear hcz18_1); (try clear hcz18_2); (try clear hcz18_3); (try clear hcz18_4); (try clear hcz19_0); (try clear hcz19_1); (try clear hcz19_2); (try clear hcz22_0); (try clear hcz22_1); (try clear hcz22_2); (try clear hcz24_0); (try clear hcz24_1); (try clear hcz24_2); (try clear hcz25_0); (try clear hcz25_1); (try clear hcz25_2); (try clear hcz25_3); (try clear hcz25_4); (try clear hcz27_0); (try clear hcz27_1); (try clear hcz27_2); (try clear hcz27_3); (try clear hcz27_4); (try clear hcz28_0); (try clear hcz28_1); (try clear hcz28_2); (try clear hcz35_0); (try clear hcz35_1); (try clear hcz35_2); (try clear hcz37_0); (try clear hcz37_1); (try clear hcz37_2); (try clear hcz38_0); (try clear hcz38_1); (try clear hcz38_2); (try clear hcz38_3); (try clear hcz38_4); (try clear hcz40_0); (try clear hcz40_1); (try clear hcz40_2); (try clear hcz40_3); (try clear hcz40_4); (try clear hcz41_0); (try clear hcz41_1); (try clear hcz41_2); (try clear hcz43_0); (try clear hcz43_1); (try clear hcz43_2); (try clear hcz45_0); (try clear hcz45_1); (try clear hcz45_2); (try clear hcz46_0); (try clear hcz46_1); (try clear hcz46_2); (try clear hcz46_3); (try clear hcz46_4); (try clear hcz48_0); (try clear hcz48_1); (try clear hcz48_2); (try clear hcz48_3); (try clear hcz48_4); (try clear hcz49_0); (try clear hcz49_1); (try clear hcz49_2); (try clear hcz51_0); (try clear hcz51_1); (try clear hcz51_2); (try clear hcz53_0); (try clear hcz53_1); (try clear hcz53_2); (try clear hcz54_0); (try clear hcz54_1); (try clear hcz54_2); (try clear hcz54_3); (try clear hcz54_4); (try clear hcz56_0); (try clear hcz56_1); (try clear hcz56_2); (try clear hcz56_3); (try clear hcz56_4); (try clear hcz57_0); (try clear hcz57_1); (try clear hcz57_2); (try clear hcz59_0); (try clear hcz59_1); (try clear hcz59_2); (try clear hcz61_0); (try clear hcz61_1); (try clear hcz61_2); (try clear hcz62_0); (try clear hcz62_1); (try clear hcz62_2); (try clear hcz62_3); (try clear hcz62_4); (try clear hcz64_0); (try clear hcz64_1); (try clear hcz64_2); (try clear hcz64_3); (try clear hcz64_4); (try clear hcz65_0); (try clear hcz65_1); (try clear hcz65_2); (try clear hcz67_0); (try clear hcz67_1); (try clear hcz67_2); (try clear hcz69_0); (try clear hcz69_1); (try clear hcz69_2); (try clear hcz70_0); (try clear hcz70_1); (try clear hcz70_2); (try clear hcz70_3); (try clear hcz70_4); (try clear hcz73_0); (try clear hcz73_1); (try clear hcz73_2); (try clear hfz13_0); (try clear hfz13_1); (try clear hfz13_2); (try clear hfz15_0); (try clear hfz15_1); (try clear hfz15_2); (try clear hfz16_0); (try clear hfz16_1); (try clear hfz16_2); (try clear hfz16_3); (try clear hfz16_4); (try clear hfz18_0); (try clear hfz18_1); (try clear hfz18_2); (try clear hfz18_3); (try clear hfz18_4); (try clear hfz19_0); (try clear hfz19_1); (try clear hfz19_2); (try clear hfz22_0); (try clear hfz22_1); (try clear hfz22_2); (try clear hfz24_0); (try clear hfz24_1); (try clear hfz24_2); (try clear hfz25_0); (try clear hfz25_1); (try clear hfz25_2); (try clear hfz25_3); (try clear hfz25_4); (try clear hfz27_0); (try clear hfz27_1); (try clear hfz27_2); (try clear hfz27_3); (try clear hfz27_4); (try clear hfz28_0); (try clear hfz28_1); (try clear hfz28_2); (try clear hfz35_0); (try clear hfz35_1); (try clear hfz35_2); (try clear hfz37_0); (try clear hfz37_1); (try clear hfz37_2); (try clear hfz38_0); (try clear hfz38_1); (try clear hfz38_2); (try clear hfz38_3); (try clear hfz38_4); (try clear hfz40_0); (try clear hfz40_1); (try clear hfz40_2); (try clear hfz40_3); (try clear hfz40_4); (try clear hfz41_0); (try clear hfz41_1); (try clear hfz41_2); (try clear hfz43_0); (try clear hfz43_1); (try clear hfz43_2); (try clear hfz45_0); (try clear hfz45_1); (try clear hfz45_2); (try clear hfz46_0); (try clear hfz46_1); (try clear hfz46_2); (try clear hfz46_3); (try clear hfz46_4); (try clear hfz48_0); (try clear hfz48_1); (try clear hfz48_2); (try clear hfz48_3); (try clear hfz48_4); (try clear hfz49_0); (try clear hfz49_1); (try clear hfz49_2); (try clear hfz51_0); (try clear hfz51_1); (try clear hfz51_2); (try clear hfz53_0); (try clear hfz53_1); (try clear hfz53_2); (try clear hfz54_0); (try clear hfz54_1); (try clear hfz54_2); (try clear hfz54_3); (try clear hfz54_4); (try clear hfz56_0); (try clear hfz56_1); (try clear hfz56_2); (try clear hfz56_3); (try clear hfz56_4); (try clear hfz57_0); (try clear hfz57_1); (try clear hfz57_2); (try clear hfz59_0); (try clear hfz59_1); (try clear hfz59_2); (try clear hfz61_0); (try clear hfz61_1); (try clear hfz61_2); (try clear hfz62_0); (try clear hfz62_1); (try clear hfz62_2); (try clear hfz62_3); (try clear hfz62_4); (try clear hfz64_0); (try clear hfz64_1); (try clear hfz64_2); (try clear hfz64_3); (try clear hfz64_4); (try clear hfz65_0); (try clear hfz65_1); (try clear hfz65_2); (try clear hfz67_0); (try clear hfz67_1); (try clear hfz67_2); (try clear hfz69_0); (try clear hfz69_1); (try clear hfz69_2); (try clear hfz70_0); (try clear hfz70_1); (try clear hfz70_2); (try clear hfz70_3); (try clear hfz70_4); (try clear hfz73_0); (try clear hfz73_1); (try clear hfz73_2)
   obtain ⟨kq, x82_3, rfl, HA, HJ3, BK1077, BK1078, HB⟩ := hcut
   cases kq with
   | zero => exact absurd HA.out (by simp [qea.j0])
   | succ kj3 =>
    have H := HA.out
    clear HA
    simp only [qea.j0] at H
    by_cases c75 : x82_3 = true
    ·subst c75
     have H1 : ((qwb.f kj3).bind fun t1083 => (some t1083)) = some r := by rw [if_pos rfl] at H; exact H
     clear H; have H := H1; clear H1
     replace H := Option.bind_eq_some_iff.mp H
     obtain ⟨t1083, A760, H⟩ := H
     try dsimp only at H
     have A76 := Aside0.mk A760
     clear A760
     obtain rfl := Option.some.inj H
     go_wp2_with (first | ((with_reducible refine qoa (f := 40) rfl ?_); refine goesL_ (some 83) rfl rfl Try.func40 (by kernel_rfl) rfl #[] rfl (by (try simp only [qM1, qM2, qM3]); first | done | rfl) ?_; (with_reducible refine (qwb.calls kj3  t1083 _ A76.out (by first | rfl | exact HRT.out)).mono ?_); rintro e w77 ⟨rfl, hb⟩; refine ⟨_, rfl, ?_⟩; have n0_ := Aside0.mk (blk_below (g := gb1077) (o := .cells #[.int .u64 a0_0, .int .i64 a0_1, .int .i64 a0_2] 24 (0, 0)) (by (with_reducible repeat first | refine qma ?_ _ | refine qpa ?_ | refine qna ?_ _); exact BK1077.out) hb); have n1_ := Aside0.mk (blk_below (g := gb1078) (o := .cells #[.slice A2_0 l2_0.length c2_0, .slice A2_1 l2_1.length c2_1, .int .u64 a2_2, .int .u64 a2_3, .slice A2_4 l2_4.length c2_4] 107 (0, 0)) (by (with_reducible repeat first | refine qma ?_ _ | refine qpa ?_ | refine qna ?_ _); exact BK1078.out) hb); have n2_ := Aside0.mk (qla (by with_reducible repeat first | exact HB.out | apply qca | apply qba | apply qda | refine qha ?_ GE1077.out | refine qha ?_ GE1078.out) hb); clear BK1077; clear BK1078; clear HB; have BK1077 := n0_; have BK1078 := n1_; have HB := n2_; clear n0_ n1_ n2_; (try clear hb); (try clear hb2); (try clear hk); (try clear hi)))
     go_ret
     exact ⟨by first | rfl | (simp [errW_none, errW_some] <;> rfl) | (simp [*, errW_none, errW_some] <;> rfl), by repeat (first | (with_reducible first | exact HB.out | apply qca | apply qba | apply qda | refine qha ?_ GE1077.out | refine qha ?_ GE1078.out) | exact HB.out)⟩
    ·replace c75 := Bool.eq_false_iff.mpr c75
     subst c75
     have H1 : ((qhb.f kj3 l2_4).bind fun t1084 => ((qsb.f kj3 a0_0 t1084).bind fun t1087 => ((qdb.f kj3 a0_0 t1087 a2_2).bind fun t1090 => ((qxa.f kj3 a0_0 l2_0 t1090).bind fun t1093 => ((qdb.f kj3 a0_0 t1087 a2_3).bind fun t1096 => ((qxa.f kj3 a0_0 l2_1 t1096).bind fun t1099 => ((qra.f kj3 a0_0 l2_0 l2_1).bind fun t1102 => ((qra.f kj3 a0_0 t1093 t1099).bind fun t1105 => ((juntoref02_Sub.f kj3 a0_0 t1105 t1102).bind fun t1108 => ((twice_Cut.f kj3 a0_0 a0_1 a0_2 l2_4 t1108).bind fun bt1111 => (if bt1111.2.2 = 0 then ((qqa.f kj3 bt1111.1 t1087).bind fun t1118 => (if t1118 = true then (qea.j1 kj3 l1 t1087 t1102 t1105 bt1111.2.1 (decide ((bt1111.2.1.length : Int) > (wrap64 (a0_2 + 1)))) a0_0 a0_1 a0_2 l2_0 l2_1 a2_2 a2_3 l2_4) else (qea.j1 kj3 l1 t1087 t1102 t1105 bt1111.2.1 true a0_0 a0_1 a0_2 l2_0 l2_1 a2_2 a2_3 l2_4))) else (qea.j1 kj3 l1 t1087 t1102 t1105 bt1111.2.1 true a0_0 a0_1 a0_2 l2_0 l2_1 a2_2 a2_3 l2_4)))))))))))) = some r := by rw [if_neg (show ¬ (false = true) by decide)] at H; exact H
     clear H; have H := H1; clear H1
     replace H := Option.bind_eq_some_iff.mp H
     obtain ⟨t1084, A780, H⟩ := H
     try dsimp only at H
     have A78 := Aside0.mk A780
     clear A780
     replace H := Option.bind_eq_some_iff.mp H
     obtain ⟨t1087, A790, H⟩ := H
     try dsimp only at H
     have A79 := Aside0.mk A790
     clear A790
     replace H := Option.bind_eq_some_iff.mp H
     obtain ⟨t1090, A800, H⟩ := H
     try dsimp only at H
     have A80 := Aside0.mk A800
     clear A800
     replace H := Option.bind_eq_some_iff.mp H
     obtain ⟨t1093, A810, H⟩ := H
     try dsimp only at H
     have A81 := Aside0.mk A810
     clear A810
     replace H := Option.bind_eq_some_iff.mp H
     obtain ⟨t1096, A820, H⟩ := H
     try dsimp only at H
     have A82 := Aside0.mk A820
     clear A820
     replace H := Option.bind_eq_some_iff.mp H
     obtain ⟨t1099, A830, H⟩ := H
     try dsimp only at H
     have A83 := Aside0.mk A830
     clear A830
     replace H := Option.bind_eq_some_iff.mp H
     obtain ⟨t1102, A840, H⟩ := H
     try dsimp only at H
     have A84 := Aside0.mk A840
     clear A840
     replace H := Option.bind_eq_some_iff.mp H
     obtain ⟨t1105, A850, H⟩ := H
     try dsimp only at H
     have A85 := Aside0.mk A850
     clear A850
     replace H := Option.bind_eq_some_iff.mp H
     obtain ⟨t1108, A860, H⟩ := H
     try dsimp only at H
     have A86 := Aside0.mk A860
     clear A860
     replace H := Option.bind_eq_some_iff.mp H
     obtain ⟨⟨t1111, t1114, t1117⟩, A870, H⟩ := H
     try dsimp only at H
     have A87 := Aside0.mk A870
     clear A870
     have HC88 := Aside0.mk H
     clear H
     try go_wp2
     have n0_ := Aside0.mk (qpa BK1077.out)
     have n1_ := Aside0.mk (qpa BK1078.out)
     have n2_ := Aside0.mk (qda HB.out)
     clear BK1077 BK1078 HB; have BK1077 := n0_; have BK1078 := n1_; have HB := n2_; clear n0_ n1_ n2_
     refine start_ (n := 7) (S := fun w' => w'.cell? ⟨gb1077, 0, none⟩ = some (.int .u64 a0_0) ∧ w'.cell? ⟨gb1077, 1, none⟩ = some (.int .i64 a0_1) ∧ w'.cell? ⟨gb1077, 2, none⟩ = some (.int .i64 a0_2) ∧ w'.cell? ⟨gb1078, 0, none⟩ = some (.slice A2_0 l2_0.length c2_0) ∧ w'.cell? ⟨gb1078, 1, none⟩ = some (.slice A2_1 l2_1.length c2_1) ∧ w'.cell? ⟨gb1078, 2, none⟩ = some (.int .u64 a2_2) ∧ w'.cell? ⟨gb1078, 3, none⟩ = some (.int .u64 a2_3) ∧ w'.cell? ⟨gb1078, 4, none⟩ = some (.slice A2_4 l2_4.length c2_4)) (ds := []) #[false, false, false, false, false, false, false] (by kernel_rfl) rfl rfl ⟨(qfa BK1077.out 0).trans rfl, (qfa BK1077.out 1).trans rfl, (qfa BK1077.out 2).trans rfl, (qfa BK1078.out 0).trans rfl, (qfa BK1078.out 1).trans rfl, (qfa BK1078.out 2).trans rfl, (qfa BK1078.out 3).trans rfl, (qfa BK1078.out 4).trans rfl⟩ (fun hHeld => ?_)
     generalize wc.drew = w89 at BK1077 BK1078 HB hHeld ⊢
     refine pure_ (i := 0) (N := some 84) (v := ?_) (a' := ?_) #[true, false, false, false, false, false, false] rfl rfl (by kernel_rfl) (fun _ _ _ h => h) (Or.inl ⟨by rfl, ?_⟩) ?_ ?_
     rotate_left; (intro w'; go_simp; with_reducible rfl); rotate_left; (simp only [Act.put, qS1, qS2, qS3, i64_w, i32_w]; rfl)
     refine pure_ (i := 2) (N := some 86) (v := ?_) (a' := ?_) #[true, false, true, false, false, false, false] rfl rfl (by kernel_rfl) (fun _ _ _ h => h) (Or.inl ⟨by rfl, ?_⟩) ?_ ?_
     rotate_left; (intro w'; go_simp; with_reducible rfl); rotate_left; (simp only [Act.put, qS1, qS2, qS3, i64_w, i32_w]; rfl)
     refine take_ (i := 1) (N := some 85) (v := ?_) (a' := ?_) #[true, true, true, false, false, false, false] rfl rfl (by kernel_rfl) (fun _ _ _ h => h) (Or.inl ⟨by rfl, ?_⟩) hHeld ?_ ?_
     rotate_left; (rintro w' ⟨s0, s1, s2, s3, s4, s5, s6, s7⟩; go_simp; with_reducible rfl); rotate_left; (simp only [Act.put, qS1, qS2, qS3, i64_w, i32_w]; rfl)
     refine take_ (i := 3) (N := some 87) (v := ?_) (a' := ?_) #[true, true, true, true, false, false, false] rfl rfl (by kernel_rfl) (fun _ _ _ h => h) (Or.inl ⟨by rfl, ?_⟩) hHeld ?_ ?_
     rotate_left; (rintro w' ⟨s0, s1, s2, s3, s4, s5, s6, s7⟩; go_simp; with_reducible rfl); rotate_left; (simp only [Act.put, qS1, qS2, qS3, i64_w, i32_w]; rfl)
     refine one_ (i := 4) (N := some 88) #[true, true, true, true, true, false, false] rfl rfl (by kernel_rfl) (by decide) (fun K hK => ?_)
     refine goes_ Try.func89 (by kernel_rfl) rfl #[.slice A2_4 l2_4.length c2_4] (by rfl) rfl rfl (by (try simp only [qM1, qM2, qM3]); first | done | rfl | (simp only [List.length_drop, List.length_take]; rfl)) ?_
     with_reducible refine (qhb.calls kj3 _ _ l2_4 t1084 _ ?side1 ?side2 A78.out).mono ?_
     (case side1 => repeat (first | exact (Kd.C_below HR2_4.out HB.out) | (with_reducible first | refine Kd.C_alloc ?_ _ | refine Kd.C_drewN ?_ _ | refine Kd.C_drew ?_)))
     (case side2 => exact HC2_4.out)
     rintro e w90 ⟨v1085, rfl, ho0, hb⟩
     refine ⟨_, rfl, ?_⟩
     have n0_ := Aside0.mk (Kd.R_lower ho0 (qka (by with_reducible repeat first | exact HB.out | apply qca | apply qba | apply qda | refine qha ?_ GE1077.out | refine qha ?_ GE1078.out)))
     have n1_ := Aside0.mk (blk_below (g := gb1077) (o := .cells #[.int .u64 a0_0, .int .i64 a0_1, .int .i64 a0_2] 24 (0, 0)) (by (with_reducible repeat first | refine qma ?_ _ | refine qpa ?_ | refine qna ?_ _); exact BK1077.out) hb)
     have n2_ := Aside0.mk (blk_below (g := gb1078) (o := .cells #[.slice A2_0 l2_0.length c2_0, .slice A2_1 l2_1.length c2_1, .int .u64 a2_2, .int .u64 a2_3, .slice A2_4 l2_4.length c2_4] 107 (0, 0)) (by (with_reducible repeat first | refine qma ?_ _ | refine qpa ?_ | refine qna ?_ _); exact BK1078.out) hb)
     have n3_ := Aside0.mk (qla (by with_reducible repeat first | exact HB.out | apply qca | apply qba | apply qda | refine qha ?_ GE1077.out | refine qha ?_ GE1078.out) hb)
     clear BK1077 BK1078 HB; have HO1086 := n0_; have BK1077 := n1_; have BK1078 := n2_; have HB := n3_; clear n0_ n1_ n2_ n3_; (try clear hb); (try clear hb2); (try clear hk); (try clear hi); (try clear ho0)
     obtain ⟨Ao91, co91, eo91⟩ := Kd.R_slice HO1086.out
     (first | subst eo91 | (injection eo91 with f1_ f2_ f3_; have f4_ := f1_.symm; have f5_ := f3_.symm; clear f1_ f2_ f3_; subst f4_; subst f5_))
     refine hK.out _ _ ⟨(qfa BK1077.out 0).trans rfl, (qfa BK1077.out 1).trans rfl, (qfa BK1077.out 2).trans rfl, (qfa BK1078.out 0).trans rfl, (qfa BK1078.out 1).trans rfl, (qfa BK1078.out 2).trans rfl, (qfa BK1078.out 3).trans rfl, (qfa BK1078.out 4).trans rfl⟩ (fun hHeld => ?_)
     clear hK K
     refine norm_ (a' := ?_) ?_ ?_
     rotate_left
     ·show Act.put _ (some 88) _ = _
      simp only [Act.put, qS1, qS2, qS3, i64_w, i32_w]
      rfl
     refine one_ (i := 5) (N := some 89) #[true, true, true, true, true, true, false] rfl rfl (by kernel_rfl) (by decide) (fun K hK => ?_)
     refine goes_ Try.func88 (by kernel_rfl) rfl #[.int .u64 a0_0, .slice Ao91 t1084.length co91] (by rfl) rfl rfl (by (try simp only [qM1, qM2, qM3]); first | done | rfl | (simp only [List.length_drop, List.length_take]; rfl)) ?_
     with_reducible refine (qsb.calls kj3 a0_0 _ _ t1084 t1087 _ ?side1 ?side2 A79.out).mono ?_
     (case side1 => repeat (first | exact (Kd.R_reads' HO1086.out).2.2 | (with_reducible first | refine Kd.C_alloc ?_ _ | refine Kd.C_drewN ?_ _ | refine Kd.C_drew ?_)))
     (case side2 => exact (Kd.R_reads' HO1086.out).2.1)
     rintro e w92 ⟨v1088, rfl, ho0, hb⟩
     refine ⟨_, rfl, ?_⟩
     have n0_ := Aside0.mk (Kd.R_elder' (by (with_reducible repeat first | apply Kd.qja | apply Kd.qia | apply Kd.R_drew); exact HO1086.out) (Kd.R_base ho0) hb)
     have n1_ := Aside0.mk (Kd.R_lower (Kd.R_new' ho0 (Kd.R_lt (by (with_reducible repeat first | apply Kd.qja | apply Kd.qia | apply Kd.R_drew); exact HO1086.out))) (qka (by with_reducible repeat first | exact HB.out | apply qca | apply qba | apply qda | refine qha ?_ GE1077.out | refine qha ?_ GE1078.out)))
     have n2_ := Aside0.mk (blk_below (g := gb1077) (o := .cells #[.int .u64 a0_0, .int .i64 a0_1, .int .i64 a0_2] 24 (0, 0)) (by (with_reducible repeat first | refine qma ?_ _ | refine qpa ?_ | refine qna ?_ _); exact BK1077.out) hb)
     have n3_ := Aside0.mk (blk_below (g := gb1078) (o := .cells #[.slice A2_0 l2_0.length c2_0, .slice A2_1 l2_1.length c2_1, .int .u64 a2_2, .int .u64 a2_3, .slice A2_4 l2_4.length c2_4] 107 (0, 0)) (by (with_reducible repeat first | refine qma ?_ _ | refine qpa ?_ | refine qna ?_ _); exact BK1078.out) hb)
     have n4_ := Aside0.mk (qla (by with_reducible repeat first | exact HB.out | apply qca | apply qba | apply qda | refine qha ?_ GE1077.out | refine qha ?_ GE1078.out) hb)
     clear HO1086 BK1077 BK1078 HB; have HO1086 := n0_; have HO1089 := n1_; have BK1077 := n2_; have BK1078 := n3_; have HB := n4_; clear n0_ n1_ n2_ n3_ n4_; (try clear hb); (try clear hb2); (try clear hk); (try clear hi); (try clear ho0)
     refine hK.out _ _ ⟨(qfa BK1077.out 0).trans rfl, (qfa BK1077.out 1).trans rfl, (qfa BK1077.out 2).trans rfl, (qfa BK1078.out 0).trans rfl, (qfa BK1078.out 1).trans rfl, (qfa BK1078.out 2).trans rfl, (qfa BK1078.out 3).trans rfl, (qfa BK1078.out 4).trans rfl⟩ (fun hHeld => ?_)
     clear hK K
     refine norm_ (a' := ?_) ?_ ?_
     rotate_left
     ·show Act.put _ (some 89) _ = _
      simp only [Act.put, qS1, qS2, qS3, i64_w, i32_w]
      rfl
     refine pure_ (i := 6) (N := some 7) (v := ?_) (a' := ?_) #[true, true, true, true, true, true, true] rfl rfl (by kernel_rfl) (fun _ _ _ h => h) (Or.inl ⟨by rfl, ?_⟩) ?_ ?_
     rotate_left; (intro w'; go_simp; with_reducible rfl); rotate_left; (simp only [Act.put, qS1, qS2, qS3, i64_w, i32_w]; rfl)
     refine done_ (by kernel_rfl) ?_
     try go_wp2
     have n0_ := Aside0.mk (Kd.R_drew HO1086.out)
     have n1_ := Aside0.mk (Kd.R_drew HO1089.out)
     have n2_ := Aside0.mk (qpa BK1077.out)
     have n3_ := Aside0.mk (qpa BK1078.out)
     have n4_ := Aside0.mk (qda HB.out)
     clear HO1086 HO1089 BK1077 BK1078 HB; have HO1086 := n0_; have HO1089 := n1_; have BK1077 := n2_; have BK1078 := n3_; have HB := n4_; clear n0_ n1_ n2_ n3_ n4_
     obtain ⟨Ao94, co94, eo94⟩ := Kd.R_slice HO1089.out
     (first | subst eo94 | (injection eo94 with f1_ f2_ f3_; have f4_ := f1_.symm; have f5_ := f3_.symm; clear f1_ f2_ f3_; subst f4_; subst f5_))
     refine start_ (n := 24) (S := fun w' => w'.cell? ⟨gb1077, 0, none⟩ = some (.int .u64 a0_0) ∧ w'.cell? ⟨gb1077, 1, none⟩ = some (.int .i64 a0_1) ∧ w'.cell? ⟨gb1077, 2, none⟩ = some (.int .i64 a0_2) ∧ w'.cell? ⟨gb1078, 0, none⟩ = some (.slice A2_0 l2_0.length c2_0) ∧ w'.cell? ⟨gb1078, 1, none⟩ = some (.slice A2_1 l2_1.length c2_1) ∧ w'.cell? ⟨gb1078, 2, none⟩ = some (.int .u64 a2_2) ∧ w'.cell? ⟨gb1078, 3, none⟩ = some (.int .u64 a2_3) ∧ w'.cell? ⟨gb1078, 4, none⟩ = some (.slice A2_4 l2_4.length c2_4)) (ds := []) #[false, false, false, false, false, false, false, false, false, false, false, false, false, false, false, false, false, false, false, false, false, false, false, false] (by kernel_rfl) rfl rfl ⟨(qfa BK1077.out 0).trans rfl, (qfa BK1077.out 1).trans rfl, (qfa BK1077.out 2).trans rfl, (qfa BK1078.out 0).trans rfl, (qfa BK1078.out 1).trans rfl, (qfa BK1078.out 2).trans rfl, (qfa BK1078.out 3).trans rfl, (qfa BK1078.out 4).trans rfl⟩ (fun hHeld => ?_); refine with_tabW qea.tab4 qea.bits4 (fun HT_ HW_ => ?_)
     generalize w92.drew = w93 at HO1086 HO1089 BK1077 BK1078 HB hHeld ⊢
     refine pure_ (i := 0) (N := some 90) (v := ?_) (a' := ?_) #[true, false, false, false, false, false, false, false, false, false, false, false, false, false, false, false, false, false, false, false, false, false, false, false] rfl rfl (any_of HT_.out (by kernel_rfl)) (fun _ _ _ h => h) (Or.inl ⟨by rfl, ?_⟩) ?_ ?_
     rotate_left; (intro w'; go_simp; with_reducible rfl); rotate_left; (simp only [Act.put, qS1, qS2, qS3, i64_w, i32_w]; rfl)
     refine pure_ (i := 2) (N := some 92) (v := ?_) (a' := ?_) #[true, false, true, false, false, false, false, false, false, false, false, false, false, false, false, false, false, false, false, false, false, false, false, false] rfl rfl (any_of HT_.out (by kernel_rfl)) (fun _ _ _ h => h) (Or.inl ⟨by rfl, ?_⟩) ?_ ?_
     rotate_left; (intro w'; go_simp; with_reducible rfl); rotate_left; (simp only [Act.put, qS1, qS2, qS3, i64_w, i32_w]; rfl)
     refine pure_ (i := 4) (N := some 94) (v := ?_) (a' := ?_) #[true, false, true, false, true, false, false, false, false, false, false, false, false, false, false, false, false, false, false, false, false, false, false, false] rfl rfl (any_of HT_.out (by kernel_rfl)) (fun _ _ _ h => h) (Or.inl ⟨by rfl, ?_⟩) ?_ ?_
     rotate_left; (intro w'; go_simp; with_reducible rfl); rotate_left; (simp only [Act.put, qS1, qS2, qS3, i64_w, i32_w]; rfl)
     refine pure_ (i := 6) (N := some 96) (v := ?_) (a' := ?_) #[true, false, true, false, true, false, true, false, false, false, false, false, false, false, false, false, false, false, false, false, false, false, false, false] rfl rfl (any_of HT_.out (by kernel_rfl)) (fun _ _ _ h => h) (Or.inl ⟨by rfl, ?_⟩) ?_ ?_
     rotate_left; (intro w'; go_simp; with_reducible rfl); rotate_left; (simp only [Act.put, qS1, qS2, qS3, i64_w, i32_w]; rfl)
     refine pure_ (i := 7) (N := some 97) (v := ?_) (a' := ?_) #[true, false, true, false, true, false, true, true, false, false, false, false, false, false, false, false, false, false, false, false, false, false, false, false] rfl rfl (any_of HT_.out (by kernel_rfl)) (fun _ _ _ h => h) (Or.inl ⟨by rfl, ?_⟩) ?_ ?_
     rotate_left; (intro w'; go_simp; with_reducible rfl); rotate_left; (simp only [Act.put, qS1, qS2, qS3, i64_w, i32_w]; rfl)
     refine pure_ (i := 11) (N := some 101) (v := ?_) (a' := ?_) #[true, false, true, false, true, false, true, true, false, false, false, true, false, false, false, false, false, false, false, false, false, false, false, false] rfl rfl (any_of HT_.out (by kernel_rfl)) (fun _ _ _ h => h) (Or.inl ⟨by rfl, ?_⟩) ?_ ?_
     rotate_left; (intro w'; go_simp; with_reducible rfl); rotate_left; (simp only [Act.put, qS1, qS2, qS3, i64_w, i32_w]; rfl)
     refine pure_ (i := 13) (N := some 103) (v := ?_) (a' := ?_) #[true, false, true, false, true, false, true, true, false, false, false, true, false, true, false, false, false, false, false, false, false, false, false, false] rfl rfl (any_of HT_.out (by kernel_rfl)) (fun _ _ _ h => h) (Or.inl ⟨by rfl, ?_⟩) ?_ ?_
     rotate_left; (intro w'; go_simp; with_reducible rfl); rotate_left; (simp only [Act.put, qS1, qS2, qS3, i64_w, i32_w]; rfl)
     refine pure_ (i := 15) (N := some 105) (v := ?_) (a' := ?_) #[true, false, true, false, true, false, true, true, false, false, false, true, false, true, false, true, false, false, false, false, false, false, false, false] rfl rfl (any_of HT_.out (by kernel_rfl)) (fun _ _ _ h => h) (Or.inl ⟨by rfl, ?_⟩) ?_ ?_
     rotate_left; (intro w'; go_simp; with_reducible rfl); rotate_left; (simp only [Act.put, qS1, qS2, qS3, i64_w, i32_w]; rfl)
     refine pure_ (i := 17) (N := some 107) (v := ?_) (a' := ?_) #[true, false, true, false, true, false, true, true, false, false, false, true, false, true, false, true, false, true, false, false, false, false, false, false] rfl rfl (any_of HT_.out (by kernel_rfl)) (fun _ _ _ h => h) (Or.inl ⟨by rfl, ?_⟩) ?_ ?_
     rotate_left; (intro w'; go_simp; with_reducible rfl); rotate_left; (simp only [Act.put, qS1, qS2, qS3, i64_w, i32_w]; rfl)
     refine pure_ (i := 18) (N := some 108) (v := ?_) (a' := ?_) #[true, false, true, false, true, false, true, true, false, false, false, true, false, true, false, true, false, true, true, false, false, false, false, false] rfl rfl (any_of HT_.out (by kernel_rfl)) (fun _ _ _ h => h) (Or.inl ⟨by rfl, ?_⟩) ?_ ?_
     rotate_left; (intro w'; go_simp; with_reducible rfl); rotate_left; (simp only [Act.put, qS1, qS2, qS3, i64_w, i32_w]; rfl)
     refine take_ (i := 1) (N := some 91) (v := ?_) (a' := ?_) #[true, true, true, false, true, false, true, true, false, false, false, true, false, true, false, true, false, true, true, false, false, false, false, false] rfl rfl (take_ofW HT_.out HW_.out (by kernel_rfl)) (fun _ _ _ h => h) (Or.inl ⟨by rfl, ?_⟩) hHeld ?_ ?_
     rotate_left; (rintro w' ⟨s0, s1, s2, s3, s4, s5, s6, s7⟩; go_simp; with_reducible rfl); rotate_left; (simp only [Act.put, qS1, qS2, qS3, i64_w, i32_w]; rfl)
     refine take_ (i := 3) (N := some 93) (v := ?_) (a' := ?_) #[true, true, true, true, true, false, true, true, false, false, false, true, false, true, false, true, false, true, true, false, false, false, false, false] rfl rfl (take_ofW HT_.out HW_.out (by kernel_rfl)) (fun _ _ _ h => h) (Or.inl ⟨by rfl, ?_⟩) hHeld ?_ ?_
     rotate_left; (rintro w' ⟨s0, s1, s2, s3, s4, s5, s6, s7⟩; go_simp; with_reducible rfl); rotate_left; (simp only [Act.put, qS1, qS2, qS3, i64_w, i32_w]; rfl)
     refine take_ (i := 5) (N := some 95) (v := ?_) (a' := ?_) #[true, true, true, true, true, true, true, true, false, false, false, true, false, true, false, true, false, true, true, false, false, false, false, false] rfl rfl (take_ofW HT_.out HW_.out (by kernel_rfl)) (fun _ _ _ h => h) (Or.inl ⟨by rfl, ?_⟩) hHeld ?_ ?_
     rotate_left; (rintro w' ⟨s0, s1, s2, s3, s4, s5, s6, s7⟩; go_simp; with_reducible rfl); rotate_left; (simp only [Act.put, qS1, qS2, qS3, i64_w, i32_w]; rfl)
     refine take_ (i := 8) (N := some 98) (v := ?_) (a' := ?_) #[true, true, true, true, true, true, true, true, true, false, false, true, false, true, false, true, false, true, true, false, false, false, false, false] rfl rfl (take_ofW HT_.out HW_.out (by kernel_rfl)) (fun _ _ _ h => h) (Or.inl ⟨by rfl, ?_⟩) hHeld ?_ ?_
     rotate_left; (rintro w' ⟨s0, s1, s2, s3, s4, s5, s6, s7⟩; go_simp; with_reducible rfl); rotate_left; (simp only [Act.put, qS1, qS2, qS3, i64_w, i32_w]; rfl)
     refine take_ (i := 12) (N := some 102) (v := ?_) (a' := ?_) #[true, true, true, true, true, true, true, true, true, false, false, true, true, true, false, true, false, true, true, false, false, false, false, false] rfl rfl (take_ofW HT_.out HW_.out (by kernel_rfl)) (fun _ _ _ h => h) (Or.inl ⟨by rfl, ?_⟩) hHeld ?_ ?_
     rotate_left; (rintro w' ⟨s0, s1, s2, s3, s4, s5, s6, s7⟩; go_simp; with_reducible rfl); rotate_left; (simp only [Act.put, qS1, qS2, qS3, i64_w, i32_w]; rfl)
     refine take_ (i := 14) (N := some 104) (v := ?_) (a' := ?_) #[true, true, true, true, true, true, true, true, true, false, false, true, true, true, true, true, false, true, true, false, false, false, false, false] rfl rfl (take_ofW HT_.out HW_.out (by kernel_rfl)) (fun _ _ _ h => h) (Or.inl ⟨by rfl, ?_⟩) hHeld ?_ ?_
     rotate_left; (rintro w' ⟨s0, s1, s2, s3, s4, s5, s6, s7⟩; go_simp; with_reducible rfl); rotate_left; (simp only [Act.put, qS1, qS2, qS3, i64_w, i32_w]; rfl)
     refine take_ (i := 16) (N := some 106) (v := ?_) (a' := ?_) #[true, true, true, true, true, true, true, true, true, false, false, true, true, true, true, true, true, true, true, false, false, false, false, false] rfl rfl (take_ofW HT_.out HW_.out (by kernel_rfl)) (fun _ _ _ h => h) (Or.inl ⟨by rfl, ?_⟩) hHeld ?_ ?_
     rotate_left; (rintro w' ⟨s0, s1, s2, s3, s4, s5, s6, s7⟩; go_simp; with_reducible rfl); rotate_left; (simp only [Act.put, qS1, qS2, qS3, i64_w, i32_w]; rfl)
     refine take_ (i := 19) (N := some 109) (v := ?_) (a' := ?_) #[true, true, true, true, true, true, true, true, true, false, false, true, true, true, true, true, true, true, true, true, false, false, false, false] rfl rfl (take_ofW HT_.out HW_.out (by kernel_rfl)) (fun _ _ _ h => h) (Or.inl ⟨by rfl, ?_⟩) hHeld ?_ ?_
     rotate_left; (rintro w' ⟨s0, s1, s2, s3, s4, s5, s6, s7⟩; go_simp; with_reducible rfl); rotate_left; (simp only [Act.put, qS1, qS2, qS3, i64_w, i32_w]; rfl)
     refine one_ (i := 9) (N := some 99) #[true, true, true, true, true, true, true, true, true, true, false, true, true, true, true, true, true, true, true, true, false, false, false, false] rfl rfl (one_of HT_.out (by kernel_rfl)) (by decide) (fun K hK => ?_)
     refine goes_ Try.func90 (by kernel_rfl) rfl #[.int .u64 a0_0, .slice Ao94 t1087.length co94, .int .u64 a2_2] (by rfl) rfl rfl (by (try simp only [qM1, qM2, qM3]); first | done | rfl | (simp only [List.length_drop, List.length_take]; rfl)) ?_
     with_reducible refine (qdb.calls kj3 a0_0 _ _ t1087 a2_2 t1090 _ ?side1 ?side2 A80.out).mono ?_
     (case side1 => repeat (first | exact (Kd.R_reads' HO1089.out).2.2 | (with_reducible first | refine Kd.C_alloc ?_ _ | refine Kd.C_drewN ?_ _ | refine Kd.C_drew ?_)))
     (case side2 => exact (Kd.R_reads' HO1089.out).2.1)
     rintro e w95 ⟨v1091, rfl, ho0, hb⟩
     refine ⟨_, rfl, ?_⟩
     have n0_ := Aside0.mk (Kd.R_elder' (by (with_reducible repeat first | apply Kd.qja | apply Kd.qia | apply Kd.R_drew); exact HO1086.out) (Kd.R_base ho0) hb)
     have n1_ := Aside0.mk (Kd.R_elder' (by (with_reducible repeat first | apply Kd.qja | apply Kd.qia | apply Kd.R_drew); exact HO1089.out) (Kd.R_base ho0) hb)
     have n2_ := Aside0.mk (Kd.R_lower (Kd.R_new' (Kd.R_new' ho0 (Kd.R_lt (by (with_reducible repeat first | apply Kd.qja | apply Kd.qia | apply Kd.R_drew); exact HO1086.out))) (Kd.R_lt (by (with_reducible repeat first | apply Kd.qja | apply Kd.qia | apply Kd.R_drew); exact HO1089.out))) (qka (by with_reducible repeat first | exact HB.out | apply qca | apply qba | apply qda | refine qha ?_ GE1077.out | refine qha ?_ GE1078.out)))
     have n3_ := Aside0.mk (blk_below (g := gb1077) (o := .cells #[.int .u64 a0_0, .int .i64 a0_1, .int .i64 a0_2] 24 (0, 0)) (by (with_reducible repeat first | refine qma ?_ _ | refine qpa ?_ | refine qna ?_ _); exact BK1077.out) hb)
     have n4_ := Aside0.mk (blk_below (g := gb1078) (o := .cells #[.slice A2_0 l2_0.length c2_0, .slice A2_1 l2_1.length c2_1, .int .u64 a2_2, .int .u64 a2_3, .slice A2_4 l2_4.length c2_4] 107 (0, 0)) (by (with_reducible repeat first | refine qma ?_ _ | refine qpa ?_ | refine qna ?_ _); exact BK1078.out) hb)
     have n5_ := Aside0.mk (qla (by with_reducible repeat first | exact HB.out | apply qca | apply qba | apply qda | refine qha ?_ GE1077.out | refine qha ?_ GE1078.out) hb)
     clear HO1086 HO1089 BK1077 BK1078 HB; have HO1086 := n0_; have HO1089 := n1_; have HO1092 := n2_; have BK1077 := n3_; have BK1078 := n4_; have HB := n5_; clear n0_ n1_ n2_ n3_ n4_ n5_; (try clear hb); (try clear hb2); (try clear hk); (try clear hi); (try clear ho0)
     obtain ⟨Ao96, co96, eo96⟩ := Kd.R_slice HO1092.out
     (first | subst eo96 | (injection eo96 with f1_ f2_ f3_; have f4_ := f1_.symm; have f5_ := f3_.symm; clear f1_ f2_ f3_; subst f4_; subst f5_))
     refine hK.out _ _ ⟨(qfa BK1077.out 0).trans rfl, (qfa BK1077.out 1).trans rfl, (qfa BK1077.out 2).trans rfl, (qfa BK1078.out 0).trans rfl, (qfa BK1078.out 1).trans rfl, (qfa BK1078.out 2).trans rfl, (qfa BK1078.out 3).trans rfl, (qfa BK1078.out 4).trans rfl⟩ (fun hHeld => ?_)
     clear hK K
     refine norm_ (a' := ?_) ?_ ?_
     rotate_left
     ·show Act.put _ (some 99) _ = _
      simp only [Act.put, qS1, qS2, qS3, i64_w, i32_w]
      rfl
     refine one_ (i := 10) (N := some 100) #[true, true, true, true, true, true, true, true, true, true, true, true, true, true, true, true, true, true, true, true, false, false, false, false] rfl rfl (one_of HT_.out (by kernel_rfl)) (by decide) (fun K hK => ?_)
     refine goes_ Try.func55 (by kernel_rfl) rfl #[.int .u64 a0_0, .slice A2_0 l2_0.length c2_0, .slice Ao96 t1090.length co96] (by rfl) rfl rfl (by (try simp only [qM1, qM2, qM3]); first | done | rfl | (simp only [List.length_drop, List.length_take]; rfl)) ?_
     with_reducible refine (qxa.calls kj3 a0_0 _ _ l2_0 _ _ t1090 t1093 _ ?side1 ?side2 ?side3 ?side4 A81.out).mono ?_
     (case side1 => repeat (first | exact (Kd.C_below HR2_0.out HB.out) | (with_reducible first | refine Kd.C_alloc ?_ _ | refine Kd.C_drewN ?_ _ | refine Kd.C_drew ?_)))
     (case side2 => exact HC2_0.out)
     (case side3 => repeat (first | exact (Kd.R_reads' HO1092.out).2.2 | (with_reducible first | refine Kd.C_alloc ?_ _ | refine Kd.C_drewN ?_ _ | refine Kd.C_drew ?_)))
     (case side4 => exact (Kd.R_reads' HO1092.out).2.1)
     rintro e w97 ⟨v1094, rfl, ho0, hb⟩
     refine ⟨_, rfl, ?_⟩
     have n0_ := Aside0.mk (Kd.R_elder' (by (with_reducible repeat first | apply Kd.qja | apply Kd.qia | apply Kd.R_drew); exact HO1086.out) (Kd.R_base ho0) hb)
     have n1_ := Aside0.mk (Kd.R_elder' (by (with_reducible repeat first | apply Kd.qja | apply Kd.qia | apply Kd.R_drew); exact HO1089.out) (Kd.R_base ho0) hb)
     have n2_ := Aside0.mk (Kd.R_elder' (by (with_reducible repeat first | apply Kd.qja | apply Kd.qia | apply Kd.R_drew); exact HO1092.out) (Kd.R_base ho0) hb)
     have n3_ := Aside0.mk (Kd.R_lower (Kd.R_new' (Kd.R_new' (Kd.R_new' ho0 (Kd.R_lt (by (with_reducible repeat first | apply Kd.qja | apply Kd.qia | apply Kd.R_drew); exact HO1086.out))) (Kd.R_lt (by (with_reducible repeat first | apply Kd.qja | apply Kd.qia | apply Kd.R_drew); exact HO1089.out))) (Kd.R_lt (by (with_reducible repeat first | apply Kd.qja | apply Kd.qia | apply Kd.R_drew); exact HO1092.out))) (qka (by with_reducible repeat first | exact HB.out | apply qca | apply qba | apply qda | refine qha ?_ GE1077.out | refine qha ?_ GE1078.out)))
     have n4_ := Aside0.mk (blk_below (g := gb1077) (o := .cells #[.int .u64 a0_0, .int .i64 a0_1, .int .i64 a0_2] 24 (0, 0)) (by (with_reducible repeat first | refine qma ?_ _ | refine qpa ?_ | refine qna ?_ _); exact BK1077.out) hb)
     have n5_ := Aside0.mk (blk_below (g := gb1078) (o := .cells #[.slice A2_0 l2_0.length c2_0, .slice A2_1 l2_1.length c2_1, .int .u64 a2_2, .int .u64 a2_3, .slice A2_4 l2_4.length c2_4] 107 (0, 0)) (by (with_reducible repeat first | refine qma ?_ _ | refine qpa ?_ | refine qna ?_ _); exact BK1078.out) hb)
     have n6_ := Aside0.mk (qla (by with_reducible repeat first | exact HB.out | apply qca | apply qba | apply qda | refine qha ?_ GE1077.out | refine qha ?_ GE1078.out) hb)
     clear HO1086 HO1089 HO1092 BK1077 BK1078 HB; have HO1086 := n0_; have HO1089 := n1_; have HO1092 := n2_; have HO1095 := n3_; have BK1077 := n4_; have BK1078 := n5_; have HB := n6_; clear n0_ n1_ n2_ n3_ n4_ n5_ n6_; (try clear hb); (try clear hb2); (try clear hk); (try clear hi); (try clear ho0)
     refine hK.out _ _ ⟨(qfa BK1077.out 0).trans rfl, (qfa BK1077.out 1).trans rfl, (qfa BK1077.out 2).trans rfl, (qfa BK1078.out 0).trans rfl, (qfa BK1078.out 1).trans rfl, (qfa BK1078.out 2).trans rfl, (qfa BK1078.out 3).trans rfl, (qfa BK1078.out 4).trans rfl⟩ (fun hHeld => ?_)
     clear hK K
     refine norm_ (a' := ?_) ?_ ?_
     rotate_left
     ·show Act.put _ (some 100) _ = _
      simp only [Act.put, qS1, qS2, qS3, i64_w, i32_w]
      rfl
     refine one_ (i := 20) (N := some 110) #[true, true, true, true, true, true, true, true, true, true, true, true, true, true, true, true, true, true, true, true, true, false, false, false] rfl rfl (one_of HT_.out (by kernel_rfl)) (by decide) (fun K hK => ?_)
     refine goes_ Try.func90 (by kernel_rfl) rfl #[.int .u64 a0_0, .slice Ao94 t1087.length co94, .int .u64 a2_3] (by rfl) rfl rfl (by (try simp only [qM1, qM2, qM3]); first | done | rfl | (simp only [List.length_drop, List.length_take]; rfl)) ?_
     with_reducible refine (qdb.calls kj3 a0_0 _ _ t1087 a2_3 t1096 _ ?side1 ?side2 A82.out).mono ?_
     (case side1 => repeat (first | exact (Kd.R_reads' HO1089.out).2.2 | (with_reducible first | refine Kd.C_alloc ?_ _ | refine Kd.C_drewN ?_ _ | refine Kd.C_drew ?_)))
     (case side2 => exact (Kd.R_reads' HO1089.out).2.1)
     rintro e w98 ⟨v1097, rfl, ho0, hb⟩
     refine ⟨_, rfl, ?_⟩
     have n0_ := Aside0.mk (Kd.R_elder' (by (with_reducible repeat first | apply Kd.qja | apply Kd.qia | apply Kd.R_drew); exact HO1086.out) (Kd.R_base ho0) hb)
     have n1_ := Aside0.mk (Kd.R_elder' (by (with_reducible repeat first | apply Kd.qja | apply Kd.qia | apply Kd.R_drew); exact HO1089.out) (Kd.R_base ho0) hb)
     have n2_ := Aside0.mk (Kd.R_elder' (by (with_reducible repeat first | apply Kd.qja | apply Kd.qia | apply Kd.R_drew); exact HO1092.out) (Kd.R_base ho0) hb)
     have n3_ := Aside0.mk (Kd.R_elder' (by (with_reducible repeat first | apply Kd.qja | apply Kd.qia | apply Kd.R_drew); exact HO1095.out) (Kd.R_base ho0) hb)
     have n4_ := Aside0.mk (Kd.R_lower (Kd.R_new' (Kd.R_new' (Kd.R_new' (Kd.R_new' ho0 (Kd.R_lt (by (with_reducible repeat first | apply Kd.qja | apply Kd.qia | apply Kd.R_drew); exact HO1086.out))) (Kd.R_lt (by (with_reducible repeat first | apply Kd.qja | apply Kd.qia | apply Kd.R_drew); exact HO1089.out))) (Kd.R_lt (by (with_reducible repeat first | apply Kd.qja | apply Kd.qia | apply Kd.R_drew); exact HO1092.out))) (Kd.R_lt (by (with_reducible repeat first | apply Kd.qja | apply Kd.qia | apply Kd.R_drew); exact HO1095.out))) (qka (by with_reducible repeat first | exact HB.out | apply qca | apply qba | apply qda | refine qha ?_ GE1077.out | refine qha ?_ GE1078.out)))
     have n5_ := Aside0.mk (blk_below (g := gb1077) (o := .cells #[.int .u64 a0_0, .int .i64 a0_1, .int .i64 a0_2] 24 (0, 0)) (by (with_reducible repeat first | refine qma ?_ _ | refine qpa ?_ | refine qna ?_ _); exact BK1077.out) hb)
     have n6_ := Aside0.mk (blk_below (g := gb1078) (o := .cells #[.slice A2_0 l2_0.length c2_0, .slice A2_1 l2_1.length c2_1, .int .u64 a2_2, .int .u64 a2_3, .slice A2_4 l2_4.length c2_4] 107 (0, 0)) (by (with_reducible repeat first | refine qma ?_ _ | refine qpa ?_ | refine qna ?_ _); exact BK1078.out) hb)
     have n7_ := Aside0.mk (qla (by with_reducible repeat first | exact HB.out | apply qca | apply qba | apply qda | refine qha ?_ GE1077.out | refine qha ?_ GE1078.out) hb)
     clear HO1086 HO1089 HO1092 HO1095 BK1077 BK1078 HB; have HO1086 := n0_; have HO1089 := n1_; have HO1092 := n2_; have HO1095 := n3_; have HO1098 := n4_; have BK1077 := n5_; have BK1078 := n6_; have HB := n7_; clear n0_ n1_ n2_ n3_ n4_ n5_ n6_ n7_; (try clear hb); (try clear hb2); (try clear hk); (try clear hi); (try clear ho0)
     obtain ⟨Ao99, co99, eo99⟩ := Kd.R_slice HO1098.out
     (first | subst eo99 | (injection eo99 with f1_ f2_ f3_; have f4_ := f1_.symm; have f5_ := f3_.symm; clear f1_ f2_ f3_; subst f4_; subst f5_))
     refine hK.out _ _ ⟨(qfa BK1077.out 0).trans rfl, (qfa BK1077.out 1).trans rfl, (qfa BK1077.out 2).trans rfl, (qfa BK1078.out 0).trans rfl, (qfa BK1078.out 1).trans rfl, (qfa BK1078.out 2).trans rfl, (qfa BK1078.out 3).trans rfl, (qfa BK1078.out 4).trans rfl⟩ (fun hHeld => ?_)
     clear hK K
     refine norm_ (a' := ?_) ?_ ?_
     rotate_left
     ·show Act.put _ (some 110) _ = _
      simp only [Act.put, qS1, qS2, qS3, i64_w, i32_w]
      rfl
     refine one_ (i := 21) (N := some 111) #[true, true, true, true, true, true, true, true, true, true, true, true, true, true, true, true, true, true, true, true, true, true, false, false] rfl rfl (one_of HT_.out (by kernel_rfl)) (by decide) (fun K hK => ?_)
     refine goes_ Try.func55 (by kernel_rfl) rfl #[.int .u64 a0_0, .slice A2_1 l2_1.length c2_1, .slice Ao99 t1096.length co99] (by rfl) rfl rfl (by (try simp only [qM1, qM2, qM3]); first | done | rfl | (simp only [List.length_drop, List.length_take]; rfl)) ?_
     with_reducible refine (qxa.calls kj3 a0_0 _ _ l2_1 _ _ t1096 t1099 _ ?side1 ?side2 ?side3 ?side4 A83.out).mono ?_
     (case side1 => repeat (first | exact (Kd.C_below HR2_1.out HB.out) | (with_reducible first | refine Kd.C_alloc ?_ _ | refine Kd.C_drewN ?_ _ | refine Kd.C_drew ?_)))
     (case side2 => exact HC2_1.out)
     (case side3 => repeat (first | exact (Kd.R_reads' HO1098.out).2.2 | (with_reducible first | refine Kd.C_alloc ?_ _ | refine Kd.C_drewN ?_ _ | refine Kd.C_drew ?_)))
     (case side4 => exact (Kd.R_reads' HO1098.out).2.1)
     rintro e w100 ⟨v1100, rfl, ho0, hb⟩
     refine ⟨_, rfl, ?_⟩
     have n0_ := Aside0.mk (Kd.R_elder' (by (with_reducible repeat first | apply Kd.qja | apply Kd.qia | apply Kd.R_drew); exact HO1086.out) (Kd.R_base ho0) hb)
     have n1_ := Aside0.mk (Kd.R_elder' (by (with_reducible repeat first | apply Kd.qja | apply Kd.qia | apply Kd.R_drew); exact HO1089.out) (Kd.R_base ho0) hb)
     have n2_ := Aside0.mk (Kd.R_elder' (by (with_reducible repeat first | apply Kd.qja | apply Kd.qia | apply Kd.R_drew); exact HO1092.out) (Kd.R_base ho0) hb)
     have n3_ := Aside0.mk (Kd.R_elder' (by (with_reducible repeat first | apply Kd.qja | apply Kd.qia | apply Kd.R_drew); exact HO1095.out) (Kd.R_base ho0) hb)
     have n4_ := Aside0.mk (Kd.R_elder' (by (with_reducible repeat first | apply Kd.qja | apply Kd.qia | apply Kd.R_drew); exact HO1098.out) (Kd.R_base ho0) hb)
     have n5_ := Aside0.mk (Kd.R_lower (Kd.R_new' (Kd.R_new' (Kd.R_new' (Kd.R_new' (Kd.R_new' ho0 (Kd.R_lt (by (with_reducible repeat first | apply Kd.qja | apply Kd.qia | apply Kd.R_drew); exact HO1086.out))) (Kd.R_lt (by (with_reducible repeat first | apply Kd.qja | apply Kd.qia | apply Kd.R_drew); exact HO1089.out))) (Kd.R_lt (by (with_reducible repeat first | apply Kd.qja | apply Kd.qia | apply Kd.R_drew); exact HO1092.out))) (Kd.R_lt (by (with_reducible repeat first | apply Kd.qja | apply Kd.qia | apply Kd.R_drew); exact HO1095.out))) (Kd.R_lt (by (with_reducible repeat first | apply Kd.qja | apply Kd.qia | apply Kd.R_drew); exact HO1098.out))) (qka (by with_reducible repeat first | exact HB.out | apply qca | apply qba | apply qda | refine qha ?_ GE1077.out | refine qha ?_ GE1078.out)))
     have n6_ := Aside0.mk (blk_below (g := gb1077) (o := .cells #[.int .u64 a0_0, .int .i64 a0_1, .int .i64 a0_2] 24 (0, 0)) (by (with_reducible repeat first | refine qma ?_ _ | refine qpa ?_ | refine qna ?_ _); exact BK1077.out) hb)
     have n7_ := Aside0.mk (blk_below (g := gb1078) (o := .cells #[.slice A2_0 l2_0.length c2_0, .slice A2_1 l2_1.length c2_1, .int .u64 a2_2, .int .u64 a2_3, .slice A2_4 l2_4.length c2_4] 107 (0, 0)) (by (with_reducible repeat first | refine qma ?_ _ | refine qpa ?_ | refine qna ?_ _); exact BK1078.out) hb)
     have n8_ := Aside0.mk (qla (by with_reducible repeat first | exact HB.out | apply qca | apply qba | apply qda | refine qha ?_ GE1077.out | refine qha ?_ GE1078.out) hb)
     clear HO1086 HO1089 HO1092 HO1095 HO1098 BK1077 BK1078 HB; have HO1086 := n0_; have HO1089 := n1_; have HO1092 := n2_; have HO1095 := n3_; have HO1098 := n4_; have HO1101 := n5_; have BK1077 := n6_; have BK1078 := n7_; have HB := n8_; clear n0_ n1_ n2_ n3_ n4_ n5_ n6_ n7_ n8_; (try clear hb); (try clear hb2); (try clear hk); (try clear hi); (try clear ho0)
     refine hK.out _ _ ⟨(qfa BK1077.out 0).trans rfl, (qfa BK1077.out 1).trans rfl, (qfa BK1077.out 2).trans rfl, (qfa BK1078.out 0).trans rfl, (qfa BK1078.out 1).trans rfl, (qfa BK1078.out 2).trans rfl, (qfa BK1078.out 3).trans rfl, (qfa BK1078.out 4).trans rfl⟩ (fun hHeld => ?_)
     clear hK K
     refine norm_ (a' := ?_) ?_ ?_
     rotate_left
     ·show Act.put _ (some 111) _ = _
      simp only [Act.put, qS1, qS2, qS3, i64_w, i32_w]
      rfl
     refine pure_ (i := 22) (N := some 8) (v := ?_) (a' := ?_) #[true, true, true, true, true, true, true, true, true, true, true, true, true, true, true, true, true, true, true, true, true, true, true, false] rfl rfl (any_of HT_.out (by kernel_rfl)) (fun _ _ _ h => h) (Or.inl ⟨by rfl, ?_⟩) ?_ ?_
     rotate_left; (intro w'; go_simp; with_reducible rfl); rotate_left; (simp only [Act.put, qS1, qS2, qS3, i64_w, i32_w]; rfl)
     refine pure_ (i := 23) (N := some 9) (v := ?_) (a' := ?_) #[true, true, true, true, true, true, true, true, true, true, true, true, true, true, true, true, true, true, true, true, true, true, true, true] rfl rfl (any_of HT_.out (by kernel_rfl)) (fun _ _ _ h => h) (Or.inl ⟨by rfl, ?_⟩) ?_ ?_
     rotate_left; (intro w'; go_simp; with_reducible rfl); rotate_left; (simp only [Act.put, qS1, qS2, qS3, i64_w, i32_w]; rfl)
     refine done_ (done_of HT_.out (by kernel_rfl)) ?_
     try go_wp2
     have n0_ := Aside0.mk (Kd.R_drew HO1086.out)
     have n1_ := Aside0.mk (Kd.R_drew HO1089.out)
     have n2_ := Aside0.mk (Kd.R_drew HO1092.out)
     have n3_ := Aside0.mk (Kd.R_drew HO1095.out)
     have n4_ := Aside0.mk (Kd.R_drew HO1098.out)
     have n5_ := Aside0.mk (Kd.R_drew HO1101.out)
     have n6_ := Aside0.mk (qpa BK1077.out)
     have n7_ := Aside0.mk (qpa BK1078.out)
     have n8_ := Aside0.mk (qda HB.out)
     clear HO1086 HO1089 HO1092 HO1095 HO1098 HO1101 BK1077 BK1078 HB; have HO1086 := n0_; have HO1089 := n1_; have HO1092 := n2_; have HO1095 := n3_; have HO1098 := n4_; have HO1101 := n5_; have BK1077 := n6_; have BK1078 := n7_; have HB := n8_; clear n0_ n1_ n2_ n3_ n4_ n5_ n6_ n7_ n8_
     refine start_ (n := 14) (S := fun w' => w'.cell? ⟨gb1077, 0, none⟩ = some (.int .u64 a0_0) ∧ w'.cell? ⟨gb1077, 1, none⟩ = some (.int .i64 a0_1) ∧ w'.cell? ⟨gb1077, 2, none⟩ = some (.int .i64 a0_2) ∧ w'.cell? ⟨gb1078, 0, none⟩ = some (.slice A2_0 l2_0.length c2_0) ∧ w'.cell? ⟨gb1078, 1, none⟩ = some (.slice A2_1 l2_1.length c2_1) ∧ w'.cell? ⟨gb1078, 2, none⟩ = some (.int .u64 a2_2) ∧ w'.cell? ⟨gb1078, 3, none⟩ = some (.int .u64 a2_3) ∧ w'.cell? ⟨gb1078, 4, none⟩ = some (.slice A2_4 l2_4.length c2_4)) (ds := []) #[false, false, false, false, false, false, false, false, false, false, false, false, false, false] (by kernel_rfl) rfl rfl ⟨(qfa BK1077.out 0).trans rfl, (qfa BK1077.out 1).trans rfl, (qfa BK1077.out 2).trans rfl, (qfa BK1078.out 0).trans rfl, (qfa BK1078.out 1).trans rfl, (qfa BK1078.out 2).trans rfl, (qfa BK1078.out 3).trans rfl, (qfa BK1078.out 4).trans rfl⟩ (fun hHeld => ?_); refine with_tabW qea.tab5 qea.bits5 (fun HT_ HW_ => ?_)
     generalize w100.drew = w101 at HO1086 HO1089 HO1092 HO1095 HO1098 HO1101 BK1077 BK1078 HB hHeld ⊢
     refine pure_ (i := 0) (N := some 112) (v := ?_) (a' := ?_) #[true, false, false, false, false, false, false, false, false, false, false, false, false, false] rfl rfl (any_of HT_.out (by kernel_rfl)) (fun _ _ _ h => h) (Or.inl ⟨by rfl, ?_⟩) ?_ ?_
     rotate_left; (intro w'; go_simp; with_reducible rfl); rotate_left; (simp only [Act.put, qS1, qS2, qS3, i64_w, i32_w]; rfl)
     refine pure_ (i := 2) (N := some 114) (v := ?_) (a' := ?_) #[true, false, true, false, false, false, false, false, false, false, false, false, false, false] rfl rfl (any_of HT_.out (by kernel_rfl)) (fun _ _ _ h => h) (Or.inl ⟨by rfl, ?_⟩) ?_ ?_
     rotate_left; (intro w'; go_simp; with_reducible rfl); rotate_left; (simp only [Act.put, qS1, qS2, qS3, i64_w, i32_w]; rfl)
     refine pure_ (i := 4) (N := some 116) (v := ?_) (a' := ?_) #[true, false, true, false, true, false, false, false, false, false, false, false, false, false] rfl rfl (any_of HT_.out (by kernel_rfl)) (fun _ _ _ h => h) (Or.inl ⟨by rfl, ?_⟩) ?_ ?_
     rotate_left; (intro w'; go_simp; with_reducible rfl); rotate_left; (simp only [Act.put, qS1, qS2, qS3, i64_w, i32_w]; rfl)
     refine pure_ (i := 7) (N := some 119) (v := ?_) (a' := ?_) #[true, false, true, false, true, false, false, true, false, false, false, false, false, false] rfl rfl (any_of HT_.out (by kernel_rfl)) (fun _ _ _ h => h) (Or.inl ⟨by rfl, ?_⟩) ?_ ?_
     rotate_left; (intro w'; go_simp; with_reducible rfl); rotate_left; (simp only [Act.put, qS1, qS2, qS3, i64_w, i32_w]; rfl)
     refine pure_ (i := 9) (N := some 121) (v := ?_) (a' := ?_) #[true, false, true, false, true, false, false, true, false, true, false, false, false, false] rfl rfl (any_of HT_.out (by kernel_rfl)) (fun _ _ _ h => h) (Or.inl ⟨by rfl, ?_⟩) ?_ ?_
     rotate_left; (intro w'; go_simp; with_reducible rfl); rotate_left; (simp only [Act.put, qS1, qS2, qS3, i64_w, i32_w]; rfl)
     refine pure_ (i := 10) (N := some 122) (v := ?_) (a' := ?_) #[true, false, true, false, true, false, false, true, false, true, true, false, false, false] rfl rfl (any_of HT_.out (by kernel_rfl)) (fun _ _ _ h => h) (Or.inl ⟨by rfl, ?_⟩) ?_ ?_
     rotate_left; (intro w'; go_simp; with_reducible rfl); rotate_left; (simp only [Act.put, qS1, qS2, qS3, i64_w, i32_w]; rfl)
     refine take_ (i := 1) (N := some 113) (v := ?_) (a' := ?_) #[true, true, true, false, true, false, false, true, false, true, true, false, false, false] rfl rfl (take_ofW HT_.out HW_.out (by kernel_rfl)) (fun _ _ _ h => h) (Or.inl ⟨by rfl, ?_⟩) hHeld ?_ ?_
     rotate_left; (rintro w' ⟨s0, s1, s2, s3, s4, s5, s6, s7⟩; go_simp; with_reducible rfl); rotate_left; (simp only [Act.put, qS1, qS2, qS3, i64_w, i32_w]; rfl)
     refine take_ (i := 3) (N := some 115) (v := ?_) (a' := ?_) #[true, true, true, true, true, false, false, true, false, true, true, false, false, false] rfl rfl (take_ofW HT_.out HW_.out (by kernel_rfl)) (fun _ _ _ h => h) (Or.inl ⟨by rfl, ?_⟩) hHeld ?_ ?_
     rotate_left; (rintro w' ⟨s0, s1, s2, s3, s4, s5, s6, s7⟩; go_simp; with_reducible rfl); rotate_left; (simp only [Act.put, qS1, qS2, qS3, i64_w, i32_w]; rfl)
     refine take_ (i := 5) (N := some 117) (v := ?_) (a' := ?_) #[true, true, true, true, true, true, false, true, false, true, true, false, false, false] rfl rfl (take_ofW HT_.out HW_.out (by kernel_rfl)) (fun _ _ _ h => h) (Or.inl ⟨by rfl, ?_⟩) hHeld ?_ ?_
     rotate_left; (rintro w' ⟨s0, s1, s2, s3, s4, s5, s6, s7⟩; go_simp; with_reducible rfl); rotate_left; (simp only [Act.put, qS1, qS2, qS3, i64_w, i32_w]; rfl)
     refine take_ (i := 8) (N := some 120) (v := ?_) (a' := ?_) #[true, true, true, true, true, true, false, true, true, true, true, false, false, false] rfl rfl (take_ofW HT_.out HW_.out (by kernel_rfl)) (fun _ _ _ h => h) (Or.inl ⟨by rfl, ?_⟩) hHeld ?_ ?_
     rotate_left; (rintro w' ⟨s0, s1, s2, s3, s4, s5, s6, s7⟩; go_simp; with_reducible rfl); rotate_left; (simp only [Act.put, qS1, qS2, qS3, i64_w, i32_w]; rfl)
     refine one_ (i := 6) (N := some 118) #[true, true, true, true, true, true, true, true, true, true, true, false, false, false] rfl rfl (one_of HT_.out (by kernel_rfl)) (by decide) (fun K hK => ?_)
     refine goes_ Try.func56 (by kernel_rfl) rfl #[.int .u64 a0_0, .slice A2_0 l2_0.length c2_0, .slice A2_1 l2_1.length c2_1] (by rfl) rfl rfl (by (try simp only [qM1, qM2, qM3]); first | done | rfl | (simp only [List.length_drop, List.length_take]; rfl)) ?_
     with_reducible refine (qra.calls kj3 a0_0 _ _ l2_0 _ _ l2_1 t1102 _ ?side1 ?side2 ?side3 ?side4 A84.out).mono ?_
     (case side1 => repeat (first | exact (Kd.C_below HR2_0.out HB.out) | (with_reducible first | refine Kd.C_alloc ?_ _ | refine Kd.C_drewN ?_ _ | refine Kd.C_drew ?_)))
     (case side2 => exact HC2_0.out)
     (case side3 => repeat (first | exact (Kd.C_below HR2_1.out HB.out) | (with_reducible first | refine Kd.C_alloc ?_ _ | refine Kd.C_drewN ?_ _ | refine Kd.C_drew ?_)))
     (case side4 => exact HC2_1.out)
     rintro e w102 ⟨v1103, rfl, ho0, hb⟩
     refine ⟨_, rfl, ?_⟩
     have n0_ := Aside0.mk (Kd.R_elder' (by (with_reducible repeat first | apply Kd.qja | apply Kd.qia | apply Kd.R_drew); exact HO1086.out) (Kd.R_base ho0) hb)
     have n1_ := Aside0.mk (Kd.R_elder' (by (with_reducible repeat first | apply Kd.qja | apply Kd.qia | apply Kd.R_drew); exact HO1089.out) (Kd.R_base ho0) hb)
     have n2_ := Aside0.mk (Kd.R_elder' (by (with_reducible repeat first | apply Kd.qja | apply Kd.qia | apply Kd.R_drew); exact HO1092.out) (Kd.R_base ho0) hb)
     have n3_ := Aside0.mk (Kd.R_elder' (by (with_reducible repeat first | apply Kd.qja | apply Kd.qia | apply Kd.R_drew); exact HO1095.out) (Kd.R_base ho0) hb)
     have n4_ := Aside0.mk (Kd.R_elder' (by (with_reducible repeat first | apply Kd.qja | apply Kd.qia | apply Kd.R_drew); exact HO1098.out) (Kd.R_base ho0) hb)
     have n5_ := Aside0.mk (Kd.R_elder' (by (with_reducible repeat first | apply Kd.qja | apply Kd.qia | apply Kd.R_drew); exact HO1101.out) (Kd.R_base ho0) hb)
     have n6_ := Aside0.mk (Kd.R_lower (Kd.R_new' (Kd.R_new' (Kd.R_new' (Kd.R_new' (Kd.R_new' (Kd.R_new' ho0 (Kd.R_lt (by (with_reducible repeat first | apply Kd.qja | apply Kd.qia | apply Kd.R_drew); exact HO1086.out))) (Kd.R_lt (by (with_reducible repeat first | apply Kd.qja | apply Kd.qia | apply Kd.R_drew); exact HO1089.out))) (Kd.R_lt (by (with_reducible repeat first | apply Kd.qja | apply Kd.qia | apply Kd.R_drew); exact HO1092.out))) (Kd.R_lt (by (with_reducible repeat first | apply Kd.qja | apply Kd.qia | apply Kd.R_drew); exact HO1095.out))) (Kd.R_lt (by (with_reducible repeat first | apply Kd.qja | apply Kd.qia | apply Kd.R_drew); exact HO1098.out))) (Kd.R_lt (by (with_reducible repeat first | apply Kd.qja | apply Kd.qia | apply Kd.R_drew); exact HO1101.out))) (qka (by with_reducible repeat first | exact HB.out | apply qca | apply qba | apply qda | refine qha ?_ GE1077.out | refine qha ?_ GE1078.out)))
     have n7_ := Aside0.mk (blk_below (g := gb1077) (o := .cells #[.int .u64 a0_0, .int .i64 a0_1, .int .i64 a0_2] 24 (0, 0)) (by (with_reducible repeat first | refine qma ?_ _ | refine qpa ?_ | refine qna ?_ _); exact BK1077.out) hb)
     have n8_ := Aside0.mk (blk_below (g := gb1078) (o := .cells #[.slice A2_0 l2_0.length c2_0, .slice A2_1 l2_1.length c2_1, .int .u64 a2_2, .int .u64 a2_3, .slice A2_4 l2_4.length c2_4] 107 (0, 0)) (by (with_reducible repeat first | refine qma ?_ _ | refine qpa ?_ | refine qna ?_ _); exact BK1078.out) hb)
     have n9_ := Aside0.mk (qla (by with_reducible repeat first | exact HB.out | apply qca | apply qba | apply qda | refine qha ?_ GE1077.out | refine qha ?_ GE1078.out) hb)
     clear HO1086 HO1089 HO1092 HO1095 HO1098 HO1101 BK1077 BK1078 HB; have HO1086 := n0_; have HO1089 := n1_; have HO1092 := n2_; have HO1095 := n3_; have HO1098 := n4_; have HO1101 := n5_; have HO1104 := n6_; have BK1077 := n7_; have BK1078 := n8_; have HB := n9_; clear n0_ n1_ n2_ n3_ n4_ n5_ n6_ n7_ n8_ n9_; (try clear hb); (try clear hb2); (try clear hk); (try clear hi); (try clear ho0)
     obtain ⟨Ao103, co103, eo103⟩ := Kd.R_slice HO1095.out
     (first | subst eo103 | (injection eo103 with f1_ f2_ f3_; have f4_ := f1_.symm; have f5_ := f3_.symm; clear f1_ f2_ f3_; subst f4_; subst f5_))
     obtain ⟨Ao104, co104, eo104⟩ := Kd.R_slice HO1101.out
     (first | subst eo104 | (injection eo104 with f1_ f2_ f3_; have f4_ := f1_.symm; have f5_ := f3_.symm; clear f1_ f2_ f3_; subst f4_; subst f5_))
     refine hK.out _ _ ⟨(qfa BK1077.out 0).trans rfl, (qfa BK1077.out 1).trans rfl, (qfa BK1077.out 2).trans rfl, (qfa BK1078.out 0).trans rfl, (qfa BK1078.out 1).trans rfl, (qfa BK1078.out 2).trans rfl, (qfa BK1078.out 3).trans rfl, (qfa BK1078.out 4).trans rfl⟩ (fun hHeld => ?_)
     clear hK K
     refine norm_ (a' := ?_) ?_ ?_
     rotate_left
     ·show Act.put _ (some 118) _ = _
      simp only [Act.put, qS1, qS2, qS3, i64_w, i32_w]
      rfl
     refine one_ (i := 11) (N := some 123) #[true, true, true, true, true, true, true, true, true, true, true, true, false, false] rfl rfl (one_of HT_.out (by kernel_rfl)) (by decide) (fun K hK => ?_)
     refine goes_ Try.func56 (by kernel_rfl) rfl #[.int .u64 a0_0, .slice Ao103 t1093.length co103, .slice Ao104 t1099.length co104] (by rfl) rfl rfl (by (try simp only [qM1, qM2, qM3]); first | done | rfl | (simp only [List.length_drop, List.length_take]; rfl)) ?_
     with_reducible refine (qra.calls kj3 a0_0 _ _ t1093 _ _ t1099 t1105 _ ?side1 ?side2 ?side3 ?side4 A85.out).mono ?_
     (case side1 => repeat (first | exact (Kd.R_reads' HO1095.out).2.2 | (with_reducible first | refine Kd.C_alloc ?_ _ | refine Kd.C_drewN ?_ _ | refine Kd.C_drew ?_)))
     (case side2 => exact (Kd.R_reads' HO1095.out).2.1)
     (case side3 => repeat (first | exact (Kd.R_reads' HO1101.out).2.2 | (with_reducible first | refine Kd.C_alloc ?_ _ | refine Kd.C_drewN ?_ _ | refine Kd.C_drew ?_)))
     (case side4 => exact (Kd.R_reads' HO1101.out).2.1)
     rintro e w105 ⟨v1106, rfl, ho0, hb⟩
     refine ⟨_, rfl, ?_⟩
     have n0_ := Aside0.mk (Kd.R_elder' (by (with_reducible repeat first | apply Kd.qja | apply Kd.qia | apply Kd.R_drew); exact HO1086.out) (Kd.R_base ho0) hb)
     have n1_ := Aside0.mk (Kd.R_elder' (by (with_reducible repeat first | apply Kd.qja | apply Kd.qia | apply Kd.R_drew); exact HO1089.out) (Kd.R_base ho0) hb)
     have n2_ := Aside0.mk (Kd.R_elder' (by (with_reducible repeat first | apply Kd.qja | apply Kd.qia | apply Kd.R_drew); exact HO1092.out) (Kd.R_base ho0) hb)
     have n3_ := Aside0.mk (Kd.R_elder' (by (with_reducible repeat first | apply Kd.qja | apply Kd.qia | apply Kd.R_drew); exact HO1095.out) (Kd.R_base ho0) hb)
     have n4_ := Aside0.mk (Kd.R_elder' (by (with_reducible repeat first | apply Kd.qja | apply Kd.qia | apply Kd.R_drew); exact HO1098.out) (Kd.R_base ho0) hb)
     have n5_ := Aside0.mk (Kd.R_elder' (by (with_reducible repeat first | apply Kd.qja | apply Kd.qia | apply Kd.R_drew); exact HO1101.out) (Kd.R_base ho0) hb)
     have n6_ := Aside0.mk (Kd.R_elder' (by (with_reducible repeat first | apply Kd.qja | apply Kd.qia | apply Kd.R_drew); exact HO1104.out) (Kd.R_base ho0) hb)
     have n7_ := Aside0.mk (Kd.R_lower (Kd.R_new' (Kd.R_new' (Kd.R_new' (Kd.R_new' (Kd.R_new' (Kd.R_new' (Kd.R_new' ho0 (Kd.R_lt (by (with_reducible repeat first | apply Kd.qja | apply Kd.qia | apply Kd.R_drew); exact HO1086.out))) (Kd.R_lt (by (with_reducible repeat first | apply Kd.qja | apply Kd.qia | apply Kd.R_drew); exact HO1089.out))) (Kd.R_lt (by (with_reducible repeat first | apply Kd.qja | apply Kd.qia | apply Kd.R_drew); exact HO1092.out))) (Kd.R_lt (by (with_reducible repeat first | apply Kd.qja | apply Kd.qia | apply Kd.R_drew); exact HO1095.out))) (Kd.R_lt (by (with_reducible repeat first | apply Kd.qja | apply Kd.qia | apply Kd.R_drew); exact HO1098.out))) (Kd.R_lt (by (with_reducible repeat first | apply Kd.qja | apply Kd.qia | apply Kd.R_drew); exact HO1101.out))) (Kd.R_lt (by (with_reducible repeat first | apply Kd.qja | apply Kd.qia | apply Kd.R_drew); exact HO1104.out))) (qka (by with_reducible repeat first | exact HB.out | apply qca | apply qba | apply qda | refine qha ?_ GE1077.out | refine qha ?_ GE1078.out)))
     have n8_ := Aside0.mk (blk_below (g := gb1077) (o := .cells #[.int .u64 a0_0, .int .i64 a0_1, .int .i64 a0_2] 24 (0, 0)) (by (with_reducible repeat first | refine qma ?_ _ | refine qpa ?_ | refine qna ?_ _); exact BK1077.out) hb)
     have n9_ := Aside0.mk (blk_below (g := gb1078) (o := .cells #[.slice A2_0 l2_0.length c2_0, .slice A2_1 l2_1.length c2_1, .int .u64 a2_2, .int .u64 a2_3, .slice A2_4 l2_4.length c2_4] 107 (0, 0)) (by (with_reducible repeat first | refine qma ?_ _ | refine qpa ?_ | refine qna ?_ _); exact BK1078.out) hb)
     have n10_ := Aside0.mk (qla (by with_reducible repeat first | exact HB.out | apply qca | apply qba | apply qda | refine qha ?_ GE1077.out | refine qha ?_ GE1078.out) hb)
     clear HO1086 HO1089 HO1092 HO1095 HO1098 HO1101 HO1104 BK1077 BK1078 HB; have HO1086 := n0_; have HO1089 := n1_; have HO1092 := n2_; have HO1095 := n3_; have HO1098 := n4_; have HO1101 := n5_; have HO1104 := n6_; have HO1107 := n7_; have BK1077 := n8_; have BK1078 := n9_; have HB := n10_; clear n0_ n1_ n2_ n3_ n4_ n5_ n6_ n7_ n8_ n9_ n10_; (try clear hb); (try clear hb2); (try clear hk); (try clear hi); (try clear ho0)
     refine hK.out _ _ ⟨(qfa BK1077.out 0).trans rfl, (qfa BK1077.out 1).trans rfl, (qfa BK1077.out 2).trans rfl, (qfa BK1078.out 0).trans rfl, (qfa BK1078.out 1).trans rfl, (qfa BK1078.out 2).trans rfl, (qfa BK1078.out 3).trans rfl, (qfa BK1078.out 4).trans rfl⟩ (fun hHeld => ?_)
     clear hK K
     refine norm_ (a' := ?_) ?_ ?_
     rotate_left
     ·show Act.put _ (some 123) _ = _
      simp only [Act.put, qS1, qS2, qS3, i64_w, i32_w]
      rfl
     refine pure_ (i := 12) (N := some 10) (v := ?_) (a' := ?_) #[true, true, true, true, true, true, true, true, true, true, true, true, true, false] rfl rfl (any_of HT_.out (by kernel_rfl)) (fun _ _ _ h => h) (Or.inl ⟨by rfl, ?_⟩) ?_ ?_
     rotate_left; (intro w'; go_simp; with_reducible rfl); rotate_left; (simp only [Act.put, qS1, qS2, qS3, i64_w, i32_w]; rfl)
     refine pure_ (i := 13) (N := some 11) (v := ?_) (a' := ?_) #[true, true, true, true, true, true, true, true, true, true, true, true, true, true] rfl rfl (any_of HT_.out (by kernel_rfl)) (fun _ _ _ h => h) (Or.inl ⟨by rfl, ?_⟩) ?_ ?_
     rotate_left; (intro w'; go_simp; with_reducible rfl); rotate_left; (simp only [Act.put, qS1, qS2, qS3, i64_w, i32_w]; rfl)
     refine done_ (done_of HT_.out (by kernel_rfl)) ?_
     try go_wp2
     have n0_ := Aside0.mk (Kd.R_drew HO1086.out)
     have n1_ := Aside0.mk (Kd.R_drew HO1089.out)
     have n2_ := Aside0.mk (Kd.R_drew HO1092.out)
     have n3_ := Aside0.mk (Kd.R_drew HO1095.out)
     have n4_ := Aside0.mk (Kd.R_drew HO1098.out)
     have n5_ := Aside0.mk (Kd.R_drew HO1101.out)
     have n6_ := Aside0.mk (Kd.R_drew HO1104.out)
     have n7_ := Aside0.mk (Kd.R_drew HO1107.out)
     have n8_ := Aside0.mk (qpa BK1077.out)
     have n9_ := Aside0.mk (qpa BK1078.out)
     have n10_ := Aside0.mk (qda HB.out)
     clear HO1086 HO1089 HO1092 HO1095 HO1098 HO1101 HO1104 HO1107 BK1077 BK1078 HB; have HO1086 := n0_; have HO1089 := n1_; have HO1092 := n2_; have HO1095 := n3_; have HO1098 := n4_; have HO1101 := n5_; have HO1104 := n6_; have HO1107 := n7_; have BK1077 := n8_; have BK1078 := n9_; have HB := n10_; clear n0_ n1_ n2_ n3_ n4_ n5_ n6_ n7_ n8_ n9_ n10_
     obtain ⟨Ao107, co107, eo107⟩ := Kd.R_slice HO1107.out
     (first | subst eo107 | (injection eo107 with f1_ f2_ f3_; have f4_ := f1_.symm; have f5_ := f3_.symm; clear f1_ f2_ f3_; subst f4_; subst f5_))
     obtain ⟨Ao108, co108, eo108⟩ := Kd.R_slice HO1104.out
     (first | subst eo108 | (injection eo108 with f1_ f2_ f3_; have f4_ := f1_.symm; have f5_ := f3_.symm; clear f1_ f2_ f3_; subst f4_; subst f5_))
     refine start_ (n := 16) (S := fun w' => w'.cell? ⟨gb1077, 0, none⟩ = some (.int .u64 a0_0) ∧ w'.cell? ⟨gb1077, 1, none⟩ = some (.int .i64 a0_1) ∧ w'.cell? ⟨gb1077, 2, none⟩ = some (.int .i64 a0_2) ∧ w'.cell? ⟨gb1078, 0, none⟩ = some (.slice A2_0 l2_0.length c2_0) ∧ w'.cell? ⟨gb1078, 1, none⟩ = some (.slice A2_1 l2_1.length c2_1) ∧ w'.cell? ⟨gb1078, 2, none⟩ = some (.int .u64 a2_2) ∧ w'.cell? ⟨gb1078, 3, none⟩ = some (.int .u64 a2_3) ∧ w'.cell? ⟨gb1078, 4, none⟩ = some (.slice A2_4 l2_4.length c2_4)) (ds := []) #[false, false, false, false, false, false, false, false, false, false, false, false, false, false, false, false] (by kernel_rfl) rfl rfl ⟨(qfa BK1077.out 0).trans rfl, (qfa BK1077.out 1).trans rfl, (qfa BK1077.out 2).trans rfl, (qfa BK1078.out 0).trans rfl, (qfa BK1078.out 1).trans rfl, (qfa BK1078.out 2).trans rfl, (qfa BK1078.out 3).trans rfl, (qfa BK1078.out 4).trans rfl⟩ (fun hHeld => ?_); refine with_tabW qea.tab6 qea.bits6 (fun HT_ HW_ => ?_)
     generalize w105.drew = w106 at HO1086 HO1089 HO1092 HO1095 HO1098 HO1101 HO1104 HO1107 BK1077 BK1078 HB hHeld ⊢
     refine pure_ (i := 1) (N := some 126) (v := ?_) (a' := ?_) #[false, true, false, false, false, false, false, false, false, false, false, false, false, false, false, false] rfl rfl (any_of HT_.out (by kernel_rfl)) (fun _ _ _ h => h) (Or.inl ⟨by rfl, ?_⟩) ?_ ?_
     rotate_left; (intro w'; go_simp; with_reducible rfl); rotate_left; (simp only [Act.put, qS1, qS2, qS3, i64_w, i32_w]; rfl)
     refine pure_ (i := 3) (N := some 128) (v := ?_) (a' := ?_) #[false, true, false, true, false, false, false, false, false, false, false, false, false, false, false, false] rfl rfl (any_of HT_.out (by kernel_rfl)) (fun _ _ _ h => h) (Or.inl ⟨by rfl, ?_⟩) ?_ ?_
     rotate_left; (intro w'; go_simp; with_reducible rfl); rotate_left; (simp only [Act.put, qS1, qS2, qS3, i64_w, i32_w]; rfl)
     refine pure_ (i := 5) (N := some 130) (v := ?_) (a' := ?_) #[false, true, false, true, false, true, false, false, false, false, false, false, false, false, false, false] rfl rfl (any_of HT_.out (by kernel_rfl)) (fun _ _ _ h => h) (Or.inl ⟨by rfl, ?_⟩) ?_ ?_
     rotate_left; (intro w'; go_simp; with_reducible rfl); rotate_left; (simp only [Act.put, qS1, qS2, qS3, i64_w, i32_w]; rfl)
     refine pure_ (i := 6) (N := some 131) (v := ?_) (a' := ?_) #[false, true, false, true, false, true, true, false, false, false, false, false, false, false, false, false] rfl rfl (any_of HT_.out (by kernel_rfl)) (fun _ _ _ h => h) (Or.inl ⟨by rfl, ?_⟩) ?_ ?_
     rotate_left; (intro w'; go_simp; with_reducible rfl); rotate_left; (simp only [Act.put, qS1, qS2, qS3, i64_w, i32_w]; rfl)
     refine take_ (i := 0) (N := some 125) (v := ?_) (a' := ?_) #[true, true, false, true, false, true, true, false, false, false, false, false, false, false, false, false] rfl rfl (take_ofW HT_.out HW_.out (by kernel_rfl)) (fun _ _ _ h => h) (Or.inl ⟨by rfl, ?_⟩) hHeld ?_ ?_
     rotate_left; (rintro w' ⟨s0, s1, s2, s3, s4, s5, s6, s7⟩; go_simp; with_reducible rfl); rotate_left; (simp only [Act.put, qS1, qS2, qS3, i64_w, i32_w]; rfl)
     refine take_ (i := 2) (N := some 127) (v := ?_) (a' := ?_) #[true, true, true, true, false, true, true, false, false, false, false, false, false, false, false, false] rfl rfl (take_ofW HT_.out HW_.out (by kernel_rfl)) (fun _ _ _ h => h) (Or.inl ⟨by rfl, ?_⟩) hHeld ?_ ?_
     rotate_left; (rintro w' ⟨s0, s1, s2, s3, s4, s5, s6, s7⟩; go_simp; with_reducible rfl); rotate_left; (simp only [Act.put, qS1, qS2, qS3, i64_w, i32_w]; rfl)
     refine take_ (i := 4) (N := some 129) (v := ?_) (a' := ?_) #[true, true, true, true, true, true, true, false, false, false, false, false, false, false, false, false] rfl rfl (take_ofW HT_.out HW_.out (by kernel_rfl)) (fun _ _ _ h => h) (Or.inl ⟨by rfl, ?_⟩) hHeld ?_ ?_
     rotate_left; (rintro w' ⟨s0, s1, s2, s3, s4, s5, s6, s7⟩; go_simp; with_reducible rfl); rotate_left; (simp only [Act.put, qS1, qS2, qS3, i64_w, i32_w]; rfl)
     refine one_ (i := 7) (N := some 132) #[true, true, true, true, true, true, true, true, false, false, false, false, false, false, false, false] rfl rfl (one_of HT_.out (by kernel_rfl)) (by decide) (fun K hK => ?_)
     refine goes_ Try.func57 (by kernel_rfl) rfl #[.int .u64 a0_0, .slice Ao107 t1105.length co107, .slice Ao108 t1102.length co108] (by rfl) rfl rfl (by (try simp only [qM1, qM2, qM3]); first | done | rfl | (simp only [List.length_drop, List.length_take]; rfl)) ?_
     with_reducible refine (juntoref02_Sub.calls kj3 a0_0 _ _ t1105 _ _ t1102 t1108 _ ?side1 ?side2 ?side3 ?side4 A86.out).mono ?_
     (case side1 => repeat (first | exact (Kd.R_reads' HO1107.out).2.2 | (with_reducible first | refine Kd.C_alloc ?_ _ | refine Kd.C_drewN ?_ _ | refine Kd.C_drew ?_)))
     (case side2 => exact (Kd.R_reads' HO1107.out).2.1)
     (case side3 => repeat (first | exact (Kd.R_reads' HO1104.out).2.2 | (with_reducible first | refine Kd.C_alloc ?_ _ | refine Kd.C_drewN ?_ _ | refine Kd.C_drew ?_)))
     (case side4 => exact (Kd.R_reads' HO1104.out).2.1)
     rintro e w109 ⟨v1109, rfl, ho0, hb⟩
     refine ⟨_, rfl, ?_⟩
     have n0_ := Aside0.mk (Kd.R_elder' (by (with_reducible repeat first | apply Kd.qja | apply Kd.qia | apply Kd.R_drew); exact HO1086.out) (Kd.R_base ho0) hb)
     have n1_ := Aside0.mk (Kd.R_elder' (by (with_reducible repeat first | apply Kd.qja | apply Kd.qia | apply Kd.R_drew); exact HO1089.out) (Kd.R_base ho0) hb)
     have n2_ := Aside0.mk (Kd.R_elder' (by (with_reducible repeat first | apply Kd.qja | apply Kd.qia | apply Kd.R_drew); exact HO1092.out) (Kd.R_base ho0) hb)
     have n3_ := Aside0.mk (Kd.R_elder' (by (with_reducible repeat first | apply Kd.qja | apply Kd.qia | apply Kd.R_drew); exact HO1095.out) (Kd.R_base ho0) hb)
     have n4_ := Aside0.mk (Kd.R_elder' (by (with_reducible repeat first | apply Kd.qja | apply Kd.qia | apply Kd.R_drew); exact HO1098.out) (Kd.R_base ho0) hb)
     have n5_ := Aside0.mk (Kd.R_elder' (by (with_reducible repeat first | apply Kd.qja | apply Kd.qia | apply Kd.R_drew); exact HO1101.out) (Kd.R_base ho0) hb)
     have n6_ := Aside0.mk (Kd.R_elder' (by (with_reducible repeat first | apply Kd.qja | apply Kd.qia | apply Kd.R_drew); exact HO1104.out) (Kd.R_base ho0) hb)
     have n7_ := Aside0.mk (Kd.R_elder' (by (with_reducible repeat first | apply Kd.qja | apply Kd.qia | apply Kd.R_drew); exact HO1107.out) (Kd.R_base ho0) hb)
     have n8_ := Aside0.mk (Kd.R_lower (Kd.R_new' (Kd.R_new' (Kd.R_new' (Kd.R_new' (Kd.R_new' (Kd.R_new' (Kd.R_new' (Kd.R_new' ho0 (Kd.R_lt (by (with_reducible repeat first | apply Kd.qja | apply Kd.qia | apply Kd.R_drew); exact HO1086.out))) (Kd.R_lt (by (with_reducible repeat first | apply Kd.qja | apply Kd.qia | apply Kd.R_drew); exact HO1089.out))) (Kd.R_lt (by (with_reducible repeat first | apply Kd.qja | apply Kd.qia | apply Kd.R_drew); exact HO1092.out))) (Kd.R_lt (by (with_reducible repeat first | apply Kd.qja | apply Kd.qia | apply Kd.R_drew); exact HO1095.out))) (Kd.R_lt (by (with_reducible repeat first | apply Kd.qja | apply Kd.qia | apply Kd.R_drew); exact HO1098.out))) (Kd.R_lt (by (with_reducible repeat first | apply Kd.qja | apply Kd.qia | apply Kd.R_drew); exact HO1101.out))) (Kd.R_lt (by (with_reducible repeat first | apply Kd.qja | apply Kd.qia | apply Kd.R_drew); exact HO1104.out))) (Kd.R_lt (by (with_reducible repeat first | apply Kd.qja | apply Kd.qia | apply Kd.R_drew); exact HO1107.out))) (qka (by with_reducible repeat first | exact HB.out | apply qca | apply qba | apply qda | refine qha ?_ GE1077.out | refine qha ?_ GE1078.out)))
     have n9_ := Aside0.mk (blk_below (g := gb1077) (o := .cells #[.int .u64 a0_0, .int .i64 a0_1, .int .i64 a0_2] 24 (0, 0)) (by (with_reducible repeat first | refine qma ?_ _ | refine qpa ?_ | refine qna ?_ _); exact BK1077.out) hb)
     have n10_ := Aside0.mk (blk_below (g := gb1078) (o := .cells #[.slice A2_0 l2_0.length c2_0, .slice A2_1 l2_1.length c2_1, .int .u64 a2_2, .int .u64 a2_3, .slice A2_4 l2_4.length c2_4] 107 (0, 0)) (by (with_reducible repeat first | refine qma ?_ _ | refine qpa ?_ | refine qna ?_ _); exact BK1078.out) hb)
     have n11_ := Aside0.mk (qla (by with_reducible repeat first | exact HB.out | apply qca | apply qba | apply qda | refine qha ?_ GE1077.out | refine qha ?_ GE1078.out) hb)
     clear HO1086 HO1089 HO1092 HO1095 HO1098 HO1101 HO1104 HO1107 BK1077 BK1078 HB; have HO1086 := n0_; have HO1089 := n1_; have HO1092 := n2_; have HO1095 := n3_; have HO1098 := n4_; have HO1101 := n5_; have HO1104 := n6_; have HO1107 := n7_; have HO1110 := n8_; have BK1077 := n9_; have BK1078 := n10_; have HB := n11_; clear n0_ n1_ n2_ n3_ n4_ n5_ n6_ n7_ n8_ n9_ n10_ n11_; (try clear hb); (try clear hb2); (try clear hk); (try clear hi); (try clear ho0)
     obtain ⟨Ao110, co110, eo110⟩ := Kd.R_slice HO1110.out
     (first | subst eo110 | (injection eo110 with f1_ f2_ f3_; have f4_ := f1_.symm; have f5_ := f3_.symm; clear f1_ f2_ f3_; subst f4_; subst f5_))
     refine hK.out _ _ ⟨(qfa BK1077.out 0).trans rfl, (qfa BK1077.out 1).trans rfl, (qfa BK1077.out 2).trans rfl, (qfa BK1078.out 0).trans rfl, (qfa BK1078.out 1).trans rfl, (qfa BK1078.out 2).trans rfl, (qfa BK1078.out 3).trans rfl, (qfa BK1078.out 4).trans rfl⟩ (fun hHeld => ?_)
     clear hK K
     refine norm_ (a' := ?_) ?_ ?_
     rotate_left
     ·show Act.put _ (some 132) _ = _
      simp only [Act.put, qS1, qS2, qS3, i64_w, i32_w]
      rfl
     refine one_ (i := 8) (N := some 133) #[true, true, true, true, true, true, true, true, true, false, false, false, false, false, false, false] rfl rfl (one_of HT_.out (by kernel_rfl)) (by decide) (fun K hK => ?_)
     refine goes_ Try.func86 (by kernel_rfl) rfl #[.agg #[.int .u64 a0_0, .int .i64 a0_1, .int .i64 a0_2], .slice A2_4 l2_4.length c2_4, .slice Ao110 t1108.length co110] (by rfl) rfl rfl (by (try simp only [qM1, qM2, qM3]); first | done | rfl | (simp only [List.length_drop, List.length_take]; rfl)) ?_
     with_reducible refine (twice_Cut.calls kj3 a0_0 a0_1 a0_2 _ _ l2_4 (fun k_ => some k_ = (.slice Ao110 t1108.length co110 : Value).ownBlock) _ _ t1108 t1111 t1114 t1117 _ ?side1 ?side2 ?side3 A87.out).mono ?_
     (case side1 => repeat (first | exact (Kd.C_below HR2_4.out HB.out) | (with_reducible first | refine Kd.C_alloc ?_ _ | refine Kd.C_drewN ?_ _ | refine Kd.C_drew ?_)))
     (case side2 => exact HC2_4.out)
     (case side3 => exact Kd.R_V (Kd.R_tight rfl (Kd.R_types (Kd.R_types (HO1110.out) BK1077.out (by decide)) BK1078.out (by decide))))
     rintro e w111 ⟨v1112, v1115, rfl, ho0, ho1, hb⟩
     refine ⟨_, rfl, ?_⟩
     have n0_ := Aside0.mk (Kd.R_mono (Kd.R_told (Kd.R_told (Kd.R_old (by (with_reducible repeat first | apply Kd.qja | apply Kd.qia | apply Kd.R_drew); exact HO1086.out) hb) (Kd.R_base ho0)) (Kd.R_base ho1)) (fun _ h_ => h_.1))
     have n1_ := Aside0.mk (Kd.R_mono (Kd.R_told (Kd.R_told (Kd.R_old (by (with_reducible repeat first | apply Kd.qja | apply Kd.qia | apply Kd.R_drew); exact HO1089.out) hb) (Kd.R_base ho0)) (Kd.R_base ho1)) (fun _ h_ => h_.1))
     have n2_ := Aside0.mk (Kd.R_mono (Kd.R_told (Kd.R_told (Kd.R_old (by (with_reducible repeat first | apply Kd.qja | apply Kd.qia | apply Kd.R_drew); exact HO1092.out) hb) (Kd.R_base ho0)) (Kd.R_base ho1)) (fun _ h_ => h_.1))
     have n3_ := Aside0.mk (Kd.R_mono (Kd.R_told (Kd.R_told (Kd.R_old (by (with_reducible repeat first | apply Kd.qja | apply Kd.qia | apply Kd.R_drew); exact HO1095.out) hb) (Kd.R_base ho0)) (Kd.R_base ho1)) (fun _ h_ => h_.1))
     have n4_ := Aside0.mk (Kd.R_mono (Kd.R_told (Kd.R_told (Kd.R_old (by (with_reducible repeat first | apply Kd.qja | apply Kd.qia | apply Kd.R_drew); exact HO1098.out) hb) (Kd.R_base ho0)) (Kd.R_base ho1)) (fun _ h_ => h_.1))
     have n5_ := Aside0.mk (Kd.R_mono (Kd.R_told (Kd.R_told (Kd.R_old (by (with_reducible repeat first | apply Kd.qja | apply Kd.qia | apply Kd.R_drew); exact HO1101.out) hb) (Kd.R_base ho0)) (Kd.R_base ho1)) (fun _ h_ => h_.1))
     have n6_ := Aside0.mk (Kd.R_mono (Kd.R_told (Kd.R_told (Kd.R_old (by (with_reducible repeat first | apply Kd.qja | apply Kd.qia | apply Kd.R_drew); exact HO1104.out) hb) (Kd.R_base ho0)) (Kd.R_base ho1)) (fun _ h_ => h_.1))
     have n7_ := Aside0.mk (Kd.R_mono (Kd.R_told (Kd.R_told (Kd.R_old (by (with_reducible repeat first | apply Kd.qja | apply Kd.qia | apply Kd.R_drew); exact HO1107.out) hb) (Kd.R_base ho0)) (Kd.R_base ho1)) (fun _ h_ => h_.1))
     have n8_ := Aside0.mk (Kd.R_mono (Kd.R_told (Kd.R_told (Kd.R_old (by (with_reducible repeat first | apply Kd.qja | apply Kd.qia | apply Kd.R_drew); exact HO1110.out) hb) (Kd.R_base ho0)) (Kd.R_base ho1)) (fun _ h_ => h_.1))
     have n9_ := Aside0.mk (Kd.R_lower (Kd.R_new' (Kd.R_new' (Kd.R_new' (Kd.R_new' (Kd.R_new' (Kd.R_new' (Kd.R_new' (Kd.R_new' (Kd.R_new' (Kd.R_mono (ok' := fun k_ => some k_ ≠ (v1115 : Value).ownBlock) ho0 (fun _ hk_ => hk_.2)) (Kd.R_lt (by (with_reducible repeat first | apply Kd.qja | apply Kd.qia | apply Kd.R_drew); exact HO1086.out))) (Kd.R_lt (by (with_reducible repeat first | apply Kd.qja | apply Kd.qia | apply Kd.R_drew); exact HO1089.out))) (Kd.R_lt (by (with_reducible repeat first | apply Kd.qja | apply Kd.qia | apply Kd.R_drew); exact HO1092.out))) (Kd.R_lt (by (with_reducible repeat first | apply Kd.qja | apply Kd.qia | apply Kd.R_drew); exact HO1095.out))) (Kd.R_lt (by (with_reducible repeat first | apply Kd.qja | apply Kd.qia | apply Kd.R_drew); exact HO1098.out))) (Kd.R_lt (by (with_reducible repeat first | apply Kd.qja | apply Kd.qia | apply Kd.R_drew); exact HO1101.out))) (Kd.R_lt (by (with_reducible repeat first | apply Kd.qja | apply Kd.qia | apply Kd.R_drew); exact HO1104.out))) (Kd.R_lt (by (with_reducible repeat first | apply Kd.qja | apply Kd.qia | apply Kd.R_drew); exact HO1107.out))) (Kd.R_lt (by (with_reducible repeat first | apply Kd.qja | apply Kd.qia | apply Kd.R_drew); exact HO1110.out))) (qka (by with_reducible repeat first | exact HB.out | apply qca | apply qba | apply qda | refine qha ?_ GE1077.out | refine qha ?_ GE1078.out)))
     have n10_ := Aside0.mk (Kd.R_lower (Kd.R_new' (Kd.R_new' (Kd.R_new' (Kd.R_new' (Kd.R_new' (Kd.R_new' (Kd.R_new' (Kd.R_new' (Kd.R_new' (Kd.R_mono (ok' := fun k_ => some k_ ≠ (v1112 : Value).ownBlock) ho1 (fun _ hk_ => hk_.2)) (Kd.R_lt (by (with_reducible repeat first | apply Kd.qja | apply Kd.qia | apply Kd.R_drew); exact HO1086.out))) (Kd.R_lt (by (with_reducible repeat first | apply Kd.qja | apply Kd.qia | apply Kd.R_drew); exact HO1089.out))) (Kd.R_lt (by (with_reducible repeat first | apply Kd.qja | apply Kd.qia | apply Kd.R_drew); exact HO1092.out))) (Kd.R_lt (by (with_reducible repeat first | apply Kd.qja | apply Kd.qia | apply Kd.R_drew); exact HO1095.out))) (Kd.R_lt (by (with_reducible repeat first | apply Kd.qja | apply Kd.qia | apply Kd.R_drew); exact HO1098.out))) (Kd.R_lt (by (with_reducible repeat first | apply Kd.qja | apply Kd.qia | apply Kd.R_drew); exact HO1101.out))) (Kd.R_lt (by (with_reducible repeat first | apply Kd.qja | apply Kd.qia | apply Kd.R_drew); exact HO1104.out))) (Kd.R_lt (by (with_reducible repeat first | apply Kd.qja | apply Kd.qia | apply Kd.R_drew); exact HO1107.out))) (Kd.R_lt (by (with_reducible repeat first | apply Kd.qja | apply Kd.qia | apply Kd.R_drew); exact HO1110.out))) (qka (by with_reducible repeat first | exact HB.out | apply qca | apply qba | apply qda | refine qha ?_ GE1077.out | refine qha ?_ GE1078.out)))
     have n11_ := Aside0.mk (blk_below (g := gb1077) (o := .cells #[.int .u64 a0_0, .int .i64 a0_1, .int .i64 a0_2] 24 (0, 0)) (by (with_reducible repeat first | refine qma ?_ _ | refine qpa ?_ | refine qna ?_ _); exact BK1077.out) hb)
     have n12_ := Aside0.mk (blk_below (g := gb1078) (o := .cells #[.slice A2_0 l2_0.length c2_0, .slice A2_1 l2_1.length c2_1, .int .u64 a2_2, .int .u64 a2_3, .slice A2_4 l2_4.length c2_4] 107 (0, 0)) (by (with_reducible repeat first | refine qma ?_ _ | refine qpa ?_ | refine qna ?_ _); exact BK1078.out) hb)
     have n13_ := Aside0.mk (qla (by with_reducible repeat first | exact HB.out | apply qca | apply qba | apply qda | refine qha ?_ GE1077.out | refine qha ?_ GE1078.out) hb)
     clear HO1086 HO1089 HO1092 HO1095 HO1098 HO1101 HO1104 HO1107 HO1110 BK1077 BK1078 HB; have HO1086 := n0_; have HO1089 := n1_; have HO1092 := n2_; have HO1095 := n3_; have HO1098 := n4_; have HO1101 := n5_; have HO1104 := n6_; have HO1107 := n7_; have HO1110 := n8_; have HO1113 := n9_; have HO1116 := n10_; have BK1077 := n11_; have BK1078 := n12_; have HB := n13_; clear n0_ n1_ n2_ n3_ n4_ n5_ n6_ n7_ n8_ n9_ n10_ n11_ n12_ n13_; (try clear hb); (try clear hb2); (try clear hk); (try clear hi); (try clear ho0); (try clear ho1)
     refine hK.out _ _ ⟨(qfa BK1077.out 0).trans rfl, (qfa BK1077.out 1).trans rfl, (qfa BK1077.out 2).trans rfl, (qfa BK1078.out 0).trans rfl, (qfa BK1078.out 1).trans rfl, (qfa BK1078.out 2).trans rfl, (qfa BK1078.out 3).trans rfl, (qfa BK1078.out 4).trans rfl⟩ (fun hHeld => ?_)
     clear hK K
     refine norm_ (a' := ?_) ?_ ?_
     rotate_left
     ·show Act.put _ (some 133) _ = _
      simp only [Act.put, qS1, qS2, qS3, i64_w, i32_w]
      rfl
     refine pure_ (i := 9) (N := some 124) (v := ?_) (a' := ?_) #[true, true, true, true, true, true, true, true, true, true, false, false, false, false, false, false] rfl rfl (any_of HT_.out (by kernel_rfl)) (fun _ _ _ h => h) (Or.inl ⟨by rfl, ?_⟩) ?_ ?_
     rotate_left; (intro w'; go_simp; with_reducible rfl); rotate_left; (simp only [Act.put, qS1, qS2, qS3, i64_w, i32_w]; rfl)
     refine pure_ (i := 10) (N := some 134) (v := ?_) (a' := ?_) #[true, true, true, true, true, true, true, true, true, true, true, false, false, false, false, false] rfl rfl (any_of HT_.out (by kernel_rfl)) (fun _ _ _ h => h) (Or.inl ⟨by rfl, ?_⟩) ?_ ?_
     rotate_left; (intro w'; go_simp; with_reducible rfl); rotate_left; (simp only [Act.put, qS1, qS2, qS3, i64_w, i32_w]; rfl)
     refine pure_ (i := 11) (N := some 135) (v := ?_) (a' := ?_) #[true, true, true, true, true, true, true, true, true, true, true, true, false, false, false, false] rfl rfl (any_of HT_.out (by kernel_rfl)) (fun _ _ _ h => h) (Or.inl ⟨by rfl, ?_⟩) ?_ ?_
     rotate_left; (intro w'; go_simp; with_reducible rfl); rotate_left; (simp only [Act.put, qS1, qS2, qS3, i64_w, i32_w]; rfl)
     refine pure_ (i := 12) (N := some 136) (v := ?_) (a' := ?_) #[true, true, true, true, true, true, true, true, true, true, true, true, true, false, false, false] rfl rfl (any_of HT_.out (by kernel_rfl)) (fun _ _ _ h => h) (Or.inl ⟨by rfl, ?_⟩) ?_ ?_
     rotate_left; (intro w'; go_simp; with_reducible rfl); rotate_left; (simp only [Act.put, qS1, qS2, qS3, i64_w, i32_w]; rfl)
     refine pure_ (i := 13) (N := some 12) (v := ?_) (a' := ?_) #[true, true, true, true, true, true, true, true, true, true, true, true, true, true, false, false] rfl rfl (any_of HT_.out (by kernel_rfl)) (fun _ _ _ h => h) (Or.inl ⟨by rfl, ?_⟩) ?_ ?_
     rotate_left; (intro w'; go_simp; with_reducible rfl); rotate_left; (simp only [Act.put, qS1, qS2, qS3, i64_w, i32_w]; rfl)
     refine pure_ (i := 14) (N := some 13) (v := ?_) (a' := ?_) #[true, true, true, true, true, true, true, true, true, true, true, true, true, true, true, false] rfl rfl (any_of HT_.out (by kernel_rfl)) (fun _ _ _ h => h) (Or.inl ⟨by rfl, ?_⟩) ?_ ?_
     rotate_left; (intro w'; go_simp; with_reducible rfl); rotate_left; (simp only [Act.put, qS1, qS2, qS3, i64_w, i32_w]; rfl)
     refine pure_ (i := 15) (N := some 14) (v := ?_) (a' := ?_) #[true, true, true, true, true, true, true, true, true, true, true, true, true, true, true, true] rfl rfl (any_of HT_.out (by kernel_rfl)) (fun _ _ _ h => h) (Or.inl ⟨by rfl, ?_⟩) ?_ ?_
     rotate_left; (intro w'; go_simp; with_reducible rfl); rotate_left; (simp only [Act.put, qS1, qS2, qS3, i64_w, i32_w]; rfl)
     refine done_ (done_of HT_.out (by kernel_rfl)) ?_
     go_upto_region 7 with (fail)
     go_cut [152] (fun v152 wc => ∃ (kq : Nat) (x152_87 : Bool), v152 = .bool x152_87 ∧ Aside0 (qea.j1 kq l1 t1087 t1102 t1105 t1114 x152_87 a0_0 a0_1 a0_2 l2_0 l2_1 a2_2 a2_3 l2_4 = some r) ∧ Aside0 (kq ≤ kj3) ∧ Aside0 (Kd.R (Kd.int .u64) 22 wc w.heap.size (fun k_ => some k_ ≠ ((.slice Ao108 t1102.length co108) : Value).ownBlock ∧ some k_ ≠ ((.slice Ao107 t1105.length co107) : Value).ownBlock ∧ some k_ ≠ (v1115 : Value).ownBlock) (.slice Ao94 t1087.length co94) t1087) ∧ Aside0 (Kd.R (Kd.int .u64) 22 wc w.heap.size (fun k_ => some k_ ≠ ((.slice Ao94 t1087.length co94) : Value).ownBlock ∧ some k_ ≠ ((.slice Ao107 t1105.length co107) : Value).ownBlock ∧ some k_ ≠ (v1115 : Value).ownBlock) (.slice Ao108 t1102.length co108) t1102) ∧ Aside0 (Kd.R (Kd.int .u64) 22 wc w.heap.size (fun k_ => some k_ ≠ ((.slice Ao94 t1087.length co94) : Value).ownBlock ∧ some k_ ≠ ((.slice Ao108 t1102.length co108) : Value).ownBlock ∧ some k_ ≠ (v1115 : Value).ownBlock) (.slice Ao107 t1105.length co107) t1105) ∧ Aside0 (Kd.R (Kd.int .u64) 22 wc w.heap.size (fun k_ => some k_ ≠ ((.slice Ao94 t1087.length co94) : Value).ownBlock ∧ some k_ ≠ ((.slice Ao108 t1102.length co108) : Value).ownBlock ∧ some k_ ≠ ((.slice Ao107 t1105.length co107) : Value).ownBlock) v1115 t1114) ∧ Aside0 (wc.heap[gb1077]? = some (.cells #[.int .u64 a0_0, .int .i64 a0_1, .int .i64 a0_2] 24 (0, 0))) ∧ Aside0 (wc.heap[gb1078]? = some (.cells #[(.slice A2_0 l2_0.length c2_0), (.slice A2_1 l2_1.length c2_1), .int .u64 a2_2, .int .u64 a2_3, (.slice A2_4 l2_4.length c2_4)] 107 (0, 0))) ∧ Aside0 (Below w.heap.size w wc))
     case first =>
      as_aux_lemma =>
       have H := HC88.out
       clear HC88
       by_cases c112 : t1117 = 0
       ·rw [if_pos c112] at H
        have c112b0 : (t1117 == 0) = true := beq_iff_eq.mpr c112
        have c112b1 : (t1117 != 0) = false := bne_eq_false_iff_eq.mpr c112
        clear c112
        (first | rw [c112b0] | (simp only [i64_w, i32_w]; rw [c112b0]) | skip)
        replace H := Option.bind_eq_some_iff.mp H
        obtain ⟨t1118, A1130, H⟩ := H
        try dsimp only at H
        have A113 := Aside0.mk A1130
        clear A1130
        by_cases c114 : t1118 = true
        ·subst c114
         have H1 : (qea.j1 kj3 l1 t1087 t1102 t1105 t1114 (decide ((t1114.length : Int) > (wrap64 (a0_2 + 1)))) a0_0 a0_1 a0_2 l2_0 l2_1 a2_2 a2_3 l2_4) = some r := by rw [if_pos rfl] at H; exact H
         clear H; have H := H1; clear H1
         have H' := Aside0.mk H
         clear H
         obtain ⟨Ao115, co115, eo115⟩ := Kd.R_slice HO1113.out
         subst eo115
         go_wp2_with (first | (go_at_call 45; (with_reducible refine (qqa.calls kj3 _ _ t1111 _ _ t1087 true _ ?side1 ?side2 ?side3 ?side4 A113.out).mono ?_); (case side1 => repeat (first | exact (Kd.R_reads' HO1113.out).2.2 | (with_reducible first | refine Kd.C_alloc ?_ _ | refine Kd.C_drewN ?_ _ | refine Kd.C_drew ?_))); (case side2 => exact (Kd.R_reads' HO1113.out).2.1); (case side3 => repeat (first | exact (Kd.R_reads' HO1089.out).2.2 | (with_reducible first | refine Kd.C_alloc ?_ _ | refine Kd.C_drewN ?_ _ | refine Kd.C_drew ?_))); (case side4 => exact (Kd.R_reads' HO1089.out).2.1); rintro e w' ⟨rfl, ⟨nd, rfl⟩⟩; obtain ⟨Ao116, co116, eo116⟩ := Kd.R_slice HO1116.out; subst eo116; have hnb117 := NB1077_1078.out; have hnc117 := NB1078_1077.out; have hcz118_0 : w111.cell? ⟨gb1077, 0, none⟩ = some (.int .u64 a0_0) := (qfa BK1077.out 0).trans rfl; have hcz118_1 : w111.cell? ⟨gb1077, 1, none⟩ = some (.int .i64 a0_1) := (qfa BK1077.out 1).trans rfl; have hcz118_2 : w111.cell? ⟨gb1077, 2, none⟩ = some (.int .i64 a0_2) := (qfa BK1077.out 2).trans rfl; have hfz118_0 := qga BK1077.out 0; have hfz118_1 := qga BK1077.out 1; have hfz118_2 := qga BK1077.out 2))
         go_meet
         case rel => exact ⟨_, (decide ((t1114.length : Int) > (wrap64 (a0_2 + 1)))), (by first | rfl | (simp; done) | (simp [*]; done)), H', ⟨by have := HJ3.out; first | omega | exact Nat.le_refl _⟩, ⟨by (with_reducible repeat first | apply Kd.qja | apply Kd.qia | apply Kd.R_drew); exact Kd.R_mono HO1089.out (fun _ hk => ⟨hk.1.1.1.1.2, ⟨hk.1.1.1.2, hk.2⟩⟩)⟩, ⟨by (with_reducible repeat first | apply Kd.qja | apply Kd.qia | apply Kd.R_drew); exact Kd.R_mono HO1104.out (fun _ hk => ⟨hk.1.1.1.1.1.1.1.1.2, ⟨hk.1.1.1.2, hk.2⟩⟩)⟩, ⟨by (with_reducible repeat first | apply Kd.qja | apply Kd.qia | apply Kd.R_drew); exact Kd.R_mono HO1107.out (fun _ hk => ⟨hk.1.1.1.1.1.1.1.1.2, ⟨hk.1.1.1.2, hk.2⟩⟩)⟩, ⟨by (with_reducible repeat first | apply Kd.qja | apply Kd.qia | apply Kd.R_drew); exact Kd.R_mono HO1116.out (fun _ hk => ⟨hk.1.1.1.1.1.1.1.2, ⟨hk.1.1.2, hk.1.2⟩⟩)⟩, ⟨by (with_reducible repeat first | refine qma ?_ _ | refine qpa ?_ | refine qna ?_ _); exact BK1077.out⟩, ⟨by (with_reducible repeat first | refine qma ?_ _ | refine qpa ?_ | refine qna ?_ _); exact BK1078.out⟩, ⟨by repeat (first | (with_reducible first | exact HB.out | apply qca | apply qba | apply qda | refine qha ?_ GE1077.out | refine qha ?_ GE1078.out) | exact HB.out)⟩⟩
        ·replace c114 := Bool.eq_false_iff.mpr c114
         subst c114
         have H1 : (qea.j1 kj3 l1 t1087 t1102 t1105 t1114 true a0_0 a0_1 a0_2 l2_0 l2_1 a2_2 a2_3 l2_4) = some r := by rw [if_neg (show ¬ (false = true) by decide)] at H; exact H
         clear H; have H := H1; clear H1
         exact (qea.j1_no HRT.out H).elim
       ·rw [if_neg c112] at H
        have c112b0 : (t1117 == 0) = false := beq_eq_false_iff_ne.mpr c112
        have c112b1 : (t1117 != 0) = true := bne_iff_ne.mpr c112
        (first | rw [c112b0] | (simp only [i64_w, i32_w]; rw [c112b0]) | skip)
        exact (qea.j1_no HRT.out H).elim
     case rest =>
      as_aux_lemma =>
       clear HC88; (try clear c1); (try clear c2); (try clear p2); (try clear c5); (try clear p6); (try clear c8); (try clear c11); (try clear c56); (try clear c57); (try clear p64); (try clear c86); (try clear c112); (try clear c112b0); (try clear c112b1); (try clear c114); (try clear c117); (try clear hcz118_0); (try clear hcz118_1); (try clear hcz118_2); (try clear hfz118_0); (try clear hfz118_1); (try clear hfz118_2)
       obtain ⟨kq, x152_87, rfl, HA, HJ87, HO_7, HO_10, HO_11, HO_13, BK1077, BK1078, HB⟩ := hcut
       cases kq with
       | zero => exact absurd HA.out (by simp [qea.j1])
       | succ kj87 =>
        have H := HA.out
        clear HA
        simp only [qea.j1] at H
        by_cases c120 : x152_87 = true
        ·subst c120
         have H1 : (some false) = some r := by rw [if_pos rfl] at H; exact H
         clear H; have H := H1; clear H1
         exact absurd ((Option.some.inj H).trans HRT.out) (by decide)
        ·replace c120 := Bool.eq_false_iff.mpr c120
         subst c120
         have H1 : ((qfb.f kj87 a0_0 a0_1 a0_2 l1 t1087 t1114).bind fun bt1119 => ((twice_Whole.f kj87 a0_0 a0_1 a0_2 l1).bind fun bt1123 => ((twice_Whole.f kj87 a0_0 a0_1 a0_2 bt1119.1).bind fun bt1127 => (if bt1119.2 = 0 then (if bt1127.2 = 0 then ((qra.f kj87 a0_0 t1087 t1114).bind fun t1131 => ((juntoref02_Sub.f kj87 a0_0 bt1123.1 t1131).bind fun t1134 => ((qqa.f kj87 bt1127.1 t1134).bind fun t1137 => (if t1137 = true then ((qxa.f kj87 a0_0 t1105 bt1127.1).bind fun t1138 => ((qxa.f kj87 a0_0 t1102 bt1123.1).bind fun t1141 => ((qqa.f kj87 t1138 t1141).bind fun t1144 => (if t1144 = true then (qea.j2 kj87 l1 bt1119.1 ((bt1119.1.length : Int) != (l1.length : Int)) a0_0 a0_1 a0_2 l2_0 l2_1 a2_2 a2_3 l2_4) else (qea.j2 kj87 l1 bt1119.1 true a0_0 a0_1 a0_2 l2_0 l2_1 a2_2 a2_3 l2_4))))) else (qea.j2 kj87 l1 bt1119.1 true a0_0 a0_1 a0_2 l2_0 l2_1 a2_2 a2_3 l2_4))))) else (qea.j2 kj87 l1 bt1119.1 true a0_0 a0_1 a0_2 l2_0 l2_1 a2_2 a2_3 l2_4)) else (qea.j2 kj87 l1 bt1119.1 true a0_0 a0_1 a0_2 l2_0 l2_1 a2_2 a2_3 l2_4))))) = some r := by rw [if_neg (show ¬ (false = true) by decide)] at H; exact H
         clear H; have H := H1; clear H1
         replace H := Option.bind_eq_some_iff.mp H
         obtain ⟨⟨t1119, t1122⟩, A1210, H⟩ := H
         try dsimp only at H
         have A121 := Aside0.mk A1210
         clear A1210
         replace H := Option.bind_eq_some_iff.mp H
         obtain ⟨⟨t1123, t1126⟩, A1220, H⟩ := H
         try dsimp only at H
         have A122 := Aside0.mk A1220
         clear A1220
         replace H := Option.bind_eq_some_iff.mp H
         obtain ⟨⟨t1127, t1130⟩, A1230, H⟩ := H
         try dsimp only at H
         have A123 := Aside0.mk A1230
         clear A1230
         have HC124 := Aside0.mk H
         clear H
         have hnb125 := NB1077_1078.out
         have hnc125 := NB1078_1077.out
         have hcz126_0 : wc.cell? ⟨gb1077, 0, none⟩ = some (.int .u64 a0_0) := (qfa BK1077.out 0).trans rfl
         have hcz126_1 : wc.cell? ⟨gb1077, 1, none⟩ = some (.int .i64 a0_1) := (qfa BK1077.out 1).trans rfl
         have hcz126_2 : wc.cell? ⟨gb1077, 2, none⟩ = some (.int .i64 a0_2) := (qfa BK1077.out 2).trans rfl
         have hfz126_0 := qga BK1077.out 0
         have hfz126_1 := qga BK1077.out 1
         have hfz126_2 := qga BK1077.out 2
         obtain ⟨Ao127, co127, eo127⟩ := Kd.R_slice HO_13.out
         subst eo127
         go_upto_region 12 with (first | ((with_reducible refine qoa (f := 62) rfl ?_); refine goesL_ (some 158) rfl rfl Try.func62 (by kernel_rfl) rfl #[.agg #[.int .u64 a0_0, .int .i64 a0_1, .int .i64 a0_2], .slice A1 l1.length c1, .slice Ao94 t1087.length co94, .slice Ao127 t1114.length co127] rfl (by (try simp only [qM1, qM2, qM3]); first | done | rfl) ?_; (with_reducible refine (qfb.calls kj87 a0_0 a0_1 a0_2 _ _ l1 _ _ t1087 _ _ t1114 t1119 t1122 _ ?side1 ?side2 ?side3 ?side4 ?side5 ?side6 A121.out).mono ?_); (case side1 => repeat (first | exact (Kd.C_below HR1.out HB.out) | (with_reducible first | refine Kd.C_alloc ?_ _ | refine Kd.C_drewN ?_ _ | refine Kd.C_drew ?_))); (case side2 => exact HC1.out); (case side3 => repeat (first | exact (Kd.R_reads' HO_7.out).2.2 | (with_reducible first | refine Kd.C_alloc ?_ _ | refine Kd.C_drewN ?_ _ | refine Kd.C_drew ?_))); (case side4 => exact (Kd.R_reads' HO_7.out).2.1); (case side5 => repeat (first | exact (Kd.R_reads' HO_13.out).2.2 | (with_reducible first | refine Kd.C_alloc ?_ _ | refine Kd.C_drewN ?_ _ | refine Kd.C_drew ?_))); (case side6 => exact (Kd.R_reads' HO_13.out).2.1); rintro e w128 ⟨v1120, rfl, ho0, hb⟩; refine ⟨_, rfl, ?_⟩; have n0_ := Aside0.mk (Kd.R_below (by (with_reducible repeat first | apply Kd.qja | apply Kd.qia | apply Kd.R_drew); exact HO_7.out) hb); have n1_ := Aside0.mk (Kd.R_below (by (with_reducible repeat first | apply Kd.qja | apply Kd.qia | apply Kd.R_drew); exact HO_10.out) hb); have n2_ := Aside0.mk (Kd.R_below (by (with_reducible repeat first | apply Kd.qja | apply Kd.qia | apply Kd.R_drew); exact HO_11.out) hb); have n3_ := Aside0.mk (Kd.R_below (by (with_reducible repeat first | apply Kd.qja | apply Kd.qia | apply Kd.R_drew); exact HO_13.out) hb); have n4_ := Aside0.mk (Kd.N_lower (Kd.N_mono (ok' := fun k_ => some k_ ≠ (.slice Ao94 t1087.length co94 : Value).ownBlock ∧ some k_ ≠ (.slice Ao108 t1102.length co108 : Value).ownBlock ∧ some k_ ≠ (.slice Ao107 t1105.length co107 : Value).ownBlock ∧ some k_ ≠ (.slice Ao127 t1114.length co127 : Value).ownBlock ∧ k_ ≠ gb1077 ∧ k_ ≠ gb1078) ho0 (fun k_ hk_ => ⟨(Kd.fresh' (Kd.R_lt (by (with_reducible repeat first | apply Kd.qja | apply Kd.qia | apply Kd.R_drew); exact HO_7.out)) k_ hk_), (Kd.fresh' (Kd.R_lt (by (with_reducible repeat first | apply Kd.qja | apply Kd.qia | apply Kd.R_drew); exact HO_10.out)) k_ hk_), (Kd.fresh' (Kd.R_lt (by (with_reducible repeat first | apply Kd.qja | apply Kd.qia | apply Kd.R_drew); exact HO_11.out)) k_ hk_), (Kd.fresh' (Kd.R_lt (by (with_reducible repeat first | apply Kd.qja | apply Kd.qia | apply Kd.R_drew); exact HO_13.out)) k_ hk_), (Kd.freshB (g := gb1077) (o := .cells #[.int .u64 a0_0, .int .i64 a0_1, .int .i64 a0_2] 24 (0, 0)) (by (with_reducible repeat first | refine qma ?_ _ | refine qpa ?_ | refine qna ?_ _); exact BK1077.out) k_ hk_), (Kd.freshB (g := gb1078) (o := .cells #[.slice A2_0 l2_0.length c2_0, .slice A2_1 l2_1.length c2_1, .int .u64 a2_2, .int .u64 a2_3, .slice A2_4 l2_4.length c2_4] 107 (0, 0)) (by (with_reducible repeat first | refine qma ?_ _ | refine qpa ?_ | refine qna ?_ _); exact BK1078.out) k_ hk_)⟩)) (qka (by with_reducible repeat first | exact HB.out | apply qca | apply qba | apply qda | refine qha ?_ GE1077.out | refine qha ?_ GE1078.out))); have n5_ := Aside0.mk (blk_below (g := gb1077) (o := .cells #[.int .u64 a0_0, .int .i64 a0_1, .int .i64 a0_2] 24 (0, 0)) (by (with_reducible repeat first | refine qma ?_ _ | refine qpa ?_ | refine qna ?_ _); exact BK1077.out) hb); have n6_ := Aside0.mk (blk_below (g := gb1078) (o := .cells #[.slice A2_0 l2_0.length c2_0, .slice A2_1 l2_1.length c2_1, .int .u64 a2_2, .int .u64 a2_3, .slice A2_4 l2_4.length c2_4] 107 (0, 0)) (by (with_reducible repeat first | refine qma ?_ _ | refine qpa ?_ | refine qna ?_ _); exact BK1078.out) hb); have n7_ := Aside0.mk (qla (by with_reducible repeat first | exact HB.out | apply qca | apply qba | apply qda | refine qha ?_ GE1077.out | refine qha ?_ GE1078.out) hb); clear HO_7; clear HO_10; clear HO_11; clear HO_13; clear BK1077; clear BK1078; clear HB; have HO_7 := n0_; have HO_10 := n1_; have HO_11 := n2_; have HO_13 := n3_; have HO1121 := n4_; have BK1077 := n5_; have BK1078 := n6_; have HB := n7_; clear n0_ n1_ n2_ n3_ n4_ n5_ n6_ n7_; (try clear hb); (try clear hb2); (try clear hk); (try clear hi); (try clear ho0); have hcz129_0 : w128.cell? ⟨gb1077, 0, none⟩ = some (.int .u64 a0_0) := (qfa BK1077.out 0).trans rfl; have hcz129_1 : w128.cell? ⟨gb1077, 1, none⟩ = some (.int .i64 a0_1) := (qfa BK1077.out 1).trans rfl; have hcz129_2 : w128.cell? ⟨gb1077, 2, none⟩ = some (.int .i64 a0_2) := (qfa BK1077.out 2).trans rfl; have hfz129_0 := qga BK1077.out 0; have hfz129_1 := qga BK1077.out 1; have hfz129_2 := qga BK1077.out 2) | ((with_reducible refine qoa (f := 48) rfl ?_); refine goesL_ (some 164) rfl rfl Try.func48 (by kernel_rfl) rfl #[.agg #[.int .u64 a0_0, .int .i64 a0_1, .int .i64 a0_2], .slice A1 l1.length c1] rfl (by (try simp only [qM1, qM2, qM3]); first | done | rfl) ?_; (with_reducible refine (twice_Whole.calls kj87 a0_0 a0_1 a0_2 _ _ l1 t1123 t1126 _ ?side1 ?side2 A122.out).mono ?_); (case side1 => repeat (first | exact (Kd.C_below HR1.out HB.out) | (with_reducible first | refine Kd.C_alloc ?_ _ | refine Kd.C_drewN ?_ _ | refine Kd.C_drew ?_))); (case side2 => exact HC1.out); rintro e w130 ⟨v1124, rfl, ho0, hb⟩; refine ⟨_, rfl, ?_⟩; have n0_ := Aside0.mk (Kd.R_elder' (by (with_reducible repeat first | apply Kd.qja | apply Kd.qia | apply Kd.R_drew); exact HO_7.out) (Kd.R_base ho0) hb); have n1_ := Aside0.mk (Kd.R_elder' (by (with_reducible repeat first | apply Kd.qja | apply Kd.qia | apply Kd.R_drew); exact HO_10.out) (Kd.R_base ho0) hb); have n2_ := Aside0.mk (Kd.R_elder' (by (with_reducible repeat first | apply Kd.qja | apply Kd.qia | apply Kd.R_drew); exact HO_11.out) (Kd.R_base ho0) hb); have n3_ := Aside0.mk (Kd.R_elder' (by (with_reducible repeat first | apply Kd.qja | apply Kd.qia | apply Kd.R_drew); exact HO_13.out) (Kd.R_base ho0) hb); have n4_ := Aside0.mk (Kd.N_elder' (by (with_reducible repeat first | apply Kd.N_alloc | apply Kd.N_drewN | apply Kd.N_drew); exact HO1121.out) (Kd.R_base ho0) hb); have n5_ := Aside0.mk (Kd.R_lower (Kd.R_new' (Kd.R_new' (Kd.R_new' (Kd.R_new' ho0 (Kd.R_lt (by (with_reducible repeat first | apply Kd.qja | apply Kd.qia | apply Kd.R_drew); exact HO_7.out))) (Kd.R_lt (by (with_reducible repeat first | apply Kd.qja | apply Kd.qia | apply Kd.R_drew); exact HO_10.out))) (Kd.R_lt (by (with_reducible repeat first | apply Kd.qja | apply Kd.qia | apply Kd.R_drew); exact HO_11.out))) (Kd.R_lt (by (with_reducible repeat first | apply Kd.qja | apply Kd.qia | apply Kd.R_drew); exact HO_13.out))) (qka (by with_reducible repeat first | exact HB.out | apply qca | apply qba | apply qda | refine qha ?_ GE1077.out | refine qha ?_ GE1078.out))); have n6_ := Aside0.mk (blk_below (g := gb1077) (o := .cells #[.int .u64 a0_0, .int .i64 a0_1, .int .i64 a0_2] 24 (0, 0)) (by (with_reducible repeat first | refine qma ?_ _ | refine qpa ?_ | refine qna ?_ _); exact BK1077.out) hb); have n7_ := Aside0.mk (blk_below (g := gb1078) (o := .cells #[.slice A2_0 l2_0.length c2_0, .slice A2_1 l2_1.length c2_1, .int .u64 a2_2, .int .u64 a2_3, .slice A2_4 l2_4.length c2_4] 107 (0, 0)) (by (with_reducible repeat first | refine qma ?_ _ | refine qpa ?_ | refine qna ?_ _); exact BK1078.out) hb); have n8_ := Aside0.mk (qla (by with_reducible repeat first | exact HB.out | apply qca | apply qba | apply qda | refine qha ?_ GE1077.out | refine qha ?_ GE1078.out) hb); clear HO_7; clear HO_10; clear HO_11; clear HO_13; clear HO1121; clear BK1077; clear BK1078; clear HB; have HO_7 := n0_; have HO_10 := n1_; have HO_11 := n2_; have HO_13 := n3_; have HO1121 := n4_; have HO1125 := n5_; have BK1077 := n6_; have BK1078 := n7_; have HB := n8_; clear n0_ n1_ n2_ n3_ n4_ n5_ n6_ n7_ n8_; (try clear hb); (try clear hb2); (try clear hk); (try clear hi); (try clear ho0); have hcz131_0 : w130.cell? ⟨gb1077, 0, none⟩ = some (.int .u64 a0_0) := (qfa BK1077.out 0).trans rfl; have hcz131_1 : w130.cell? ⟨gb1077, 1, none⟩ = some (.int .i64 a0_1) := (qfa BK1077.out 1).trans rfl; have hcz131_2 : w130.cell? ⟨gb1077, 2, none⟩ = some (.int .i64 a0_2) := (qfa BK1077.out 2).trans rfl; have hfz131_0 := qga BK1077.out 0; have hfz131_1 := qga BK1077.out 1; have hfz131_2 := qga BK1077.out 2; obtain ⟨Ao132, co132, eo132⟩ := Kd.N_slice HO1121.out; subst eo132) | ((with_reducible refine qoa (f := 48) rfl ?_); refine goesL_ (some 170) rfl rfl Try.func48 (by kernel_rfl) rfl #[.agg #[.int .u64 a0_0, .int .i64 a0_1, .int .i64 a0_2], .slice Ao132 t1119.length co132] rfl (by (try simp only [qM1, qM2, qM3]); first | done | rfl) ?_; (with_reducible refine (twice_Whole.calls kj87 a0_0 a0_1 a0_2 _ _ t1119 t1127 t1130 _ ?side1 ?side2 A123.out).mono ?_); (case side1 => repeat (first | exact (Kd.N_reads' HO1121.out).2.2 | (with_reducible first | refine Kd.C_alloc ?_ _ | refine Kd.C_drewN ?_ _ | refine Kd.C_drew ?_))); (case side2 => exact (Kd.N_reads' HO1121.out).2.1); rintro e w133 ⟨v1128, rfl, ho0, hb⟩; refine ⟨_, rfl, ?_⟩; have n0_ := Aside0.mk (Kd.R_elder' (by (with_reducible repeat first | apply Kd.qja | apply Kd.qia | apply Kd.R_drew); exact HO_7.out) (Kd.R_base ho0) hb); have n1_ := Aside0.mk (Kd.R_elder' (by (with_reducible repeat first | apply Kd.qja | apply Kd.qia | apply Kd.R_drew); exact HO_10.out) (Kd.R_base ho0) hb); have n2_ := Aside0.mk (Kd.R_elder' (by (with_reducible repeat first | apply Kd.qja | apply Kd.qia | apply Kd.R_drew); exact HO_11.out) (Kd.R_base ho0) hb); have n3_ := Aside0.mk (Kd.R_elder' (by (with_reducible repeat first | apply Kd.qja | apply Kd.qia | apply Kd.R_drew); exact HO_13.out) (Kd.R_base ho0) hb); have n4_ := Aside0.mk (Kd.N_elder' (by (with_reducible repeat first | apply Kd.N_alloc | apply Kd.N_drewN | apply Kd.N_drew); exact HO1121.out) (Kd.R_base ho0) hb); have n5_ := Aside0.mk (Kd.R_elder' (by (with_reducible repeat first | apply Kd.qja | apply Kd.qia | apply Kd.R_drew); exact HO1125.out) (Kd.R_base ho0) hb); have n6_ := Aside0.mk (Kd.R_lower (Kd.R_new' (Kd.R_new' (Kd.R_new' (Kd.R_new' (Kd.R_new' ho0 (Kd.R_lt (by (with_reducible repeat first | apply Kd.qja | apply Kd.qia | apply Kd.R_drew); exact HO_7.out))) (Kd.R_lt (by (with_reducible repeat first | apply Kd.qja | apply Kd.qia | apply Kd.R_drew); exact HO_10.out))) (Kd.R_lt (by (with_reducible repeat first | apply Kd.qja | apply Kd.qia | apply Kd.R_drew); exact HO_11.out))) (Kd.R_lt (by (with_reducible repeat first | apply Kd.qja | apply Kd.qia | apply Kd.R_drew); exact HO_13.out))) (Kd.R_lt (by (with_reducible repeat first | apply Kd.qja | apply Kd.qia | apply Kd.R_drew); exact HO1125.out))) (qka (by with_reducible repeat first | exact HB.out | apply qca | apply qba | apply qda | refine qha ?_ GE1077.out | refine qha ?_ GE1078.out))); have n7_ := Aside0.mk (blk_below (g := gb1077) (o := .cells #[.int .u64 a0_0, .int .i64 a0_1, .int .i64 a0_2] 24 (0, 0)) (by (with_reducible repeat first | refine qma ?_ _ | refine qpa ?_ | refine qna ?_ _); exact BK1077.out) hb); have n8_ := Aside0.mk (blk_below (g := gb1078) (o := .cells #[.slice A2_0 l2_0.length c2_0, .slice A2_1 l2_1.length c2_1, .int .u64 a2_2, .int .u64 a2_3, .slice A2_4 l2_4.length c2_4] 107 (0, 0)) (by (with_reducible repeat first | refine qma ?_ _ | refine qpa ?_ | refine qna ?_ _); exact BK1078.out) hb); have n9_ := Aside0.mk (qla (by with_reducible repeat first | exact HB.out | apply qca | apply qba | apply qda | refine qha ?_ GE1077.out | refine qha ?_ GE1078.out) hb); clear HO_7; clear HO_10; clear HO_11; clear HO_13; clear HO1121; clear HO1125; clear BK1077; clear BK1078; clear HB; have HO_7 := n0_; have HO_10 := n1_; have HO_11 := n2_; have HO_13 := n3_; have HO1121 := n4_; have HO1125 := n5_; have HO1129 := n6_; have BK1077 := n7_; have BK1078 := n8_; have HB := n9_; clear n0_ n1_ n2_ n3_ n4_ n5_ n6_ n7_ n8_ n9_; (try clear hb); (try clear hb2); (try clear hk); (try clear hi); (try clear ho0)))
         (try simp only [Act.put, qS1, qS2, qS3])
         go_cut [213] (fun v213 wc => ∃ (kq : Nat) (x213_123 : Bool), v213 = .bool x213_123 ∧ Aside0 (qea.j2 kq l1 t1119 x213_123 a0_0 a0_1 a0_2 l2_0 l2_1 a2_2 a2_3 l2_4 = some r) ∧ Aside0 (kq ≤ kj87) ∧ Aside0 (Kd.N (Kd.slice 22 (Kd.int .u64)) 31 wc w.heap.size (fun k_ => k_ ≠ gb1077 ∧ k_ ≠ gb1078) (.slice Ao132 t1119.length co132) t1119) ∧ Aside0 (wc.heap[gb1077]? = some (.cells #[.int .u64 a0_0, .int .i64 a0_1, .int .i64 a0_2] 24 (0, 0))) ∧ Aside0 (wc.heap[gb1078]? = some (.cells #[(.slice A2_0 l2_0.length c2_0), (.slice A2_1 l2_1.length c2_1), .int .u64 a2_2, .int .u64 a2_3, (.slice A2_4 l2_4.length c2_4)] 107 (0, 0))) ∧ Aside0 (Below w.heap.size w wc))
         case first =>
          as_aux_lemma =>
           have H := HC124.out
           clear HC124
           by_cases c134 : t1122 = 0
           ·rw [if_pos c134] at H
            have c134b0 : (t1122 == 0) = true := beq_iff_eq.mpr c134
            have c134b1 : (t1122 != 0) = false := bne_eq_false_iff_eq.mpr c134
            clear c134
            (first | rw [c134b0] | (simp only [i64_w, i32_w]; rw [c134b0]) | skip)
            by_cases c135 : t1130 = 0
            ·rw [if_pos c135] at H
             have c135b0 : (t1130 == 0) = true := beq_iff_eq.mpr c135
             have c135b1 : (t1130 != 0) = false := bne_eq_false_iff_eq.mpr c135
             clear c135
             replace H := Option.bind_eq_some_iff.mp H
             obtain ⟨t1131, A1360, H⟩ := H
             try dsimp only at H
             have A136 := Aside0.mk A1360
             clear A1360
             replace H := Option.bind_eq_some_iff.mp H
             obtain ⟨t1134, A1370, H⟩ := H
             try dsimp only at H
             have A137 := Aside0.mk A1370
             clear A1370
             replace H := Option.bind_eq_some_iff.mp H
             obtain ⟨t1137, A1380, H⟩ := H
             try dsimp only at H
             have A138 := Aside0.mk A1380
             clear A1380
             by_cases c139 : t1137 = true
             ·subst c139
              have H1 : ((qxa.f kj87 a0_0 t1105 t1127).bind fun t1138 => ((qxa.f kj87 a0_0 t1102 t1123).bind fun t1141 => ((qqa.f kj87 t1138 t1141).bind fun t1144 => (if t1144 = true then (qea.j2 kj87 l1 t1119 ((t1119.length : Int) != (l1.length : Int)) a0_0 a0_1 a0_2 l2_0 l2_1 a2_2 a2_3 l2_4) else (qea.j2 kj87 l1 t1119 true a0_0 a0_1 a0_2 l2_0 l2_1 a2_2 a2_3 l2_4))))) = some r := by rw [if_pos rfl] at H; exact H
              clear H; have H := H1; clear H1
              replace H := Option.bind_eq_some_iff.mp H
              obtain ⟨t1138, A1400, H⟩ := H
              try dsimp only at H
              have A140 := Aside0.mk A1400
              clear A1400
              replace H := Option.bind_eq_some_iff.mp H
              obtain ⟨t1141, A1410, H⟩ := H
              try dsimp only at H
              have A141 := Aside0.mk A1410
              clear A1410
              replace H := Option.bind_eq_some_iff.mp H
              obtain ⟨t1144, A1420, H⟩ := H
              try dsimp only at H
              have A142 := Aside0.mk A1420
              clear A1420
              by_cases c143 : t1144 = true
              ·subst c143
               have H1 : (qea.j2 kj87 l1 t1119 ((t1119.length : Int) != (l1.length : Int)) a0_0 a0_1 a0_2 l2_0 l2_1 a2_2 a2_3 l2_4) = some r := by rw [if_pos rfl] at H; exact H
               clear H; have H := H1; clear H1
               have H' := Aside0.mk H
               clear H
               try go_wp2
               have n0_ := Aside0.mk (Kd.R_drew HO_7.out)
               have n1_ := Aside0.mk (Kd.R_drew HO_10.out)
               have n2_ := Aside0.mk (Kd.R_drew HO_11.out)
               have n3_ := Aside0.mk (Kd.R_drew HO_13.out)
               have n4_ := Aside0.mk (Kd.N_drew HO1121.out)
               have n5_ := Aside0.mk (Kd.R_drew HO1125.out)
               have n6_ := Aside0.mk (Kd.R_drew HO1129.out)
               have n7_ := Aside0.mk (qpa BK1077.out)
               have n8_ := Aside0.mk (qpa BK1078.out)
               have n9_ := Aside0.mk (qda HB.out)
               clear HO_7 HO_10 HO_11 HO_13 HO1121 HO1125 HO1129 BK1077 BK1078 HB; have HO_7 := n0_; have HO_10 := n1_; have HO_11 := n2_; have HO_13 := n3_; have HO1121 := n4_; have HO1125 := n5_; have HO1129 := n6_; have BK1077 := n7_; have BK1078 := n8_; have HB := n9_; clear n0_ n1_ n2_ n3_ n4_ n5_ n6_ n7_ n8_ n9_
               refine start_ (n := 41) (S := fun w' => w'.cell? ⟨gb1077, 0, none⟩ = some (.int .u64 a0_0) ∧ w'.cell? ⟨gb1077, 1, none⟩ = some (.int .i64 a0_1) ∧ w'.cell? ⟨gb1077, 2, none⟩ = some (.int .i64 a0_2)) (ds := []) #[false, false, false, false, false, false, false, false, false, false, false, false, false, false, false, false, false, false, false, false, false, false, false, false, false, false, false, false, false, false, false, false, false, false, false, false, false, false, false, false, false] (by kernel_rfl) rfl rfl ⟨(qfa BK1077.out 0).trans rfl, (qfa BK1077.out 1).trans rfl, (qfa BK1077.out 2).trans rfl⟩ (fun hHeld => ?_); refine with_tabW qea.tab12 qea.bits12 (fun HT_ HW_ => ?_)
               generalize w133.drew = w144 at HO_7 HO_10 HO_11 HO_13 HO1121 HO1125 HO1129 BK1077 BK1078 HB hHeld ⊢
               refine pure_ (i := 0) (N := some 173) (v := ?_) (a' := ?_) #[true, false, false, false, false, false, false, false, false, false, false, false, false, false, false, false, false, false, false, false, false, false, false, false, false, false, false, false, false, false, false, false, false, false, false, false, false, false, false, false, false] rfl rfl (any_of HT_.out (by kernel_rfl)) (fun _ _ _ h => h) (Or.inl ⟨by rfl, ?_⟩) ?_ ?_
               rotate_left; (intro w'; go_simp; with_reducible rfl); rotate_left; (simp only [Act.put, qS1, qS2, qS3, i64_w, i32_w]; rfl)
               refine pure_ (i := 1) (N := some 174) (v := ?_) (a' := ?_) #[true, true, false, false, false, false, false, false, false, false, false, false, false, false, false, false, false, false, false, false, false, false, false, false, false, false, false, false, false, false, false, false, false, false, false, false, false, false, false, false, false] rfl rfl (any_of HT_.out (by kernel_rfl)) (fun _ _ _ h => h) (Or.inl ⟨by rfl, ?_⟩) ?_ ?_
               rotate_left; (intro w'; go_simp; with_reducible rfl); rotate_left; (simp only [Act.put, qS1, qS2, qS3, i64_w, i32_w]; rfl)
               refine pure_ (i := 2) (N := some 175) (v := ?_) (a' := ?_) #[true, true, true, false, false, false, false, false, false, false, false, false, false, false, false, false, false, false, false, false, false, false, false, false, false, false, false, false, false, false, false, false, false, false, false, false, false, false, false, false, false] rfl rfl (any_of HT_.out (by kernel_rfl)) (fun _ _ _ h => h) (Or.inl ⟨by rfl, ?_⟩) ?_ ?_
               rotate_left; (intro w'; go_simp; with_reducible rfl); rotate_left; (simp only [Act.put, qS1, qS2, qS3, i64_w, i32_w]; rfl)
               refine pure_ (i := 3) (N := some 176) (v := ?_) (a' := ?_) #[true, true, true, true, false, false, false, false, false, false, false, false, false, false, false, false, false, false, false, false, false, false, false, false, false, false, false, false, false, false, false, false, false, false, false, false, false, false, false, false, false] rfl rfl (any_of HT_.out (by kernel_rfl)) (fun _ _ _ h => h) (Or.inl ⟨by rfl, ?_⟩) ?_ ?_
               rotate_left; (intro w'; go_simp; with_reducible rfl); rotate_left; (simp only [Act.put, qS1, qS2, qS3, i64_w, i32_w]; rfl)
               refine pure_ (i := 4) (N := some 177) (v := ?_) (a' := ?_) #[true, true, true, true, true, false, false, false, false, false, false, false, false, false, false, false, false, false, false, false, false, false, false, false, false, false, false, false, false, false, false, false, false, false, false, false, false, false, false, false, false] rfl rfl (any_of HT_.out (by kernel_rfl)) (fun _ _ _ h => h) (Or.inl ⟨by rfl, ?_⟩) ?_ ?_
               rotate_left; (intro w'; go_simp; with_reducible rfl); rotate_left; (simp only [Act.put, qS1, qS2, qS3, i64_w, i32_w]; rfl)
               refine pure_ (i := 5) (N := some 178) (v := ?_) (a' := ?_) #[true, true, true, true, true, true, false, false, false, false, false, false, false, false, false, false, false, false, false, false, false, false, false, false, false, false, false, false, false, false, false, false, false, false, false, false, false, false, false, false, false] rfl rfl (any_of HT_.out (by kernel_rfl)) (fun _ _ _ h => h) (Or.inl ⟨by rfl, ?_⟩) ?_ ?_
               rotate_left; (intro w'; go_simp; with_reducible rfl); rotate_left; (simp only [Act.put, qS1, qS2, qS3, i64_w, i32_w]; rfl)
               refine pure_ (i := 6) (N := some 179) (v := ?_) (a' := ?_) #[true, true, true, true, true, true, true, false, false, false, false, false, false, false, false, false, false, false, false, false, false, false, false, false, false, false, false, false, false, false, false, false, false, false, false, false, false, false, false, false, false] rfl rfl (any_of HT_.out (by kernel_rfl)) (fun _ _ _ h => h) (Or.inl ⟨by rfl, ?_⟩) ?_ ?_
               rotate_left; (intro w'; go_simp; with_reducible rfl); rotate_left; (simp only [Act.put, qS1, qS2, qS3, i64_w, i32_w]; rfl)
               refine pure_ (i := 7) (N := some 180) (v := ?_) (a' := ?_) #[true, true, true, true, true, true, true, true, false, false, false, false, false, false, false, false, false, false, false, false, false, false, false, false, false, false, false, false, false, false, false, false, false, false, false, false, false, false, false, false, false] rfl rfl (any_of HT_.out (by kernel_rfl)) (fun _ _ _ h => h) (Or.inl ⟨by rfl, ?_⟩) ?_ ?_
               rotate_left; (intro w'; go_simp; with_reducible rfl); rotate_left; (simp only [Act.put, qS1, qS2, qS3, i64_w, i32_w]; rfl)
               refine pure_ (i := 8) (N := some 181) (v := ?_) (a' := ?_) #[true, true, true, true, true, true, true, true, true, false, false, false, false, false, false, false, false, false, false, false, false, false, false, false, false, false, false, false, false, false, false, false, false, false, false, false, false, false, false, false, false] rfl rfl (any_of HT_.out (by kernel_rfl)) (fun _ _ _ h => h) (Or.inl ⟨by rfl, ?_⟩) ?_ ?_
               rotate_left; (intro w'; go_simp; with_reducible rfl); rotate_left; (simp only [Act.put, qS1, qS2, qS3, i64_w, i32_w]; rfl)
               refine pure_ (i := 10) (N := some 183) (v := ?_) (a' := ?_) #[true, true, true, true, true, true, true, true, true, false, true, false, false, false, false, false, false, false, false, false, false, false, false, false, false, false, false, false, false, false, false, false, false, false, false, false, false, false, false, false, false] rfl rfl (any_of HT_.out (by kernel_rfl)) (fun _ _ _ h => h) (Or.inl ⟨by rfl, ?_⟩) ?_ ?_
               rotate_left; (intro w'; go_simp; with_reducible rfl); rotate_left; (simp only [Act.put, qS1, qS2, qS3, i64_w, i32_w]; rfl)
               refine pure_ (i := 11) (N := some 184) (v := ?_) (a' := ?_) #[true, true, true, true, true, true, true, true, true, false, true, true, false, false, false, false, false, false, false, false, false, false, false, false, false, false, false, false, false, false, false, false, false, false, false, false, false, false, false, false, false] rfl rfl (any_of HT_.out (by kernel_rfl)) (fun _ _ _ h => h) (Or.inl ⟨by rfl, ?_⟩) ?_ ?_
               rotate_left; (intro w'; go_simp; with_reducible rfl); rotate_left; (simp only [Act.put, qS1, qS2, qS3, i64_w, i32_w]; rfl)
               refine pure_ (i := 13) (N := some 186) (v := ?_) (a' := ?_) #[true, true, true, true, true, true, true, true, true, false, true, true, false, true, false, false, false, false, false, false, false, false, false, false, false, false, false, false, false, false, false, false, false, false, false, false, false, false, false, false, false] rfl rfl (any_of HT_.out (by kernel_rfl)) (fun _ _ _ h => h) (Or.inl ⟨by rfl, ?_⟩) ?_ ?_
               rotate_left; (intro w'; go_simp; with_reducible rfl); rotate_left; (simp only [Act.put, qS1, qS2, qS3, i64_w, i32_w]; rfl)
               refine pure_ (i := 14) (N := some 187) (v := ?_) (a' := ?_) #[true, true, true, true, true, true, true, true, true, false, true, true, false, true, true, false, false, false, false, false, false, false, false, false, false, false, false, false, false, false, false, false, false, false, false, false, false, false, false, false, false] rfl rfl (any_of HT_.out (by kernel_rfl)) (fun _ _ _ h => h) (Or.inl ⟨by rfl, ?_⟩) ?_ ?_
               rotate_left; (intro w'; go_simp; with_reducible rfl); rotate_left; (simp only [Act.put, qS1, qS2, qS3, i64_w, i32_w]; rfl)
               refine take_ (i := 9) (N := some 182) (v := ?_) (a' := ?_) #[true, true, true, true, true, true, true, true, true, true, true, true, false, true, true, false, false, false, false, false, false, false, false, false, false, false, false, false, false, false, false, false, false, false, false, false, false, false, false, false, false] rfl rfl (take_ofW HT_.out HW_.out (by kernel_rfl)) (fun _ _ _ h => h) (Or.inl ⟨by rfl, ?_⟩) hHeld ?_ ?_
               rotate_left; (rintro w' ⟨s0, s1, s2⟩; go_simp; with_reducible rfl); rotate_left; (simp only [Act.put, qS1, qS2, qS3, i64_w, i32_w]; rfl)
               refine take_ (i := 12) (N := some 185) (v := ?_) (a' := ?_) #[true, true, true, true, true, true, true, true, true, true, true, true, true, true, true, false, false, false, false, false, false, false, false, false, false, false, false, false, false, false, false, false, false, false, false, false, false, false, false, false, false] rfl rfl (take_ofW HT_.out HW_.out (by kernel_rfl)) (fun _ _ _ h => h) (Or.inl ⟨by rfl, ?_⟩) hHeld ?_ ?_
               rotate_left; (rintro w' ⟨s0, s1, s2⟩; go_simp; with_reducible rfl); rotate_left; (simp only [Act.put, qS1, qS2, qS3, i64_w, i32_w]; rfl)
               refine one_ (i := 15) (N := some 188) #[true, true, true, true, true, true, true, true, true, true, true, true, true, true, true, true, false, false, false, false, false, false, false, false, false, false, false, false, false, false, false, false, false, false, false, false, false, false, false, false, false] rfl rfl (one_of HT_.out (by kernel_rfl)) (by decide) (fun K hK => ?_)
               refine goes_ Try.func56 (by kernel_rfl) rfl #[.int .u64 a0_0, .slice Ao94 t1087.length co94, .slice Ao127 t1114.length co127] (by rfl) rfl rfl (by (try simp only [qM1, qM2, qM3]); first | done | rfl | (simp only [List.length_drop, List.length_take]; rfl)) ?_
               with_reducible refine (qra.calls kj87 a0_0 _ _ t1087 _ _ t1114 t1131 _ ?side1 ?side2 ?side3 ?side4 A136.out).mono ?_
               (case side1 => repeat (first | exact (Kd.R_reads' HO_7.out).2.2 | (with_reducible first | refine Kd.C_alloc ?_ _ | refine Kd.C_drewN ?_ _ | refine Kd.C_drew ?_)))
               (case side2 => exact (Kd.R_reads' HO_7.out).2.1)
               (case side3 => repeat (first | exact (Kd.R_reads' HO_13.out).2.2 | (with_reducible first | refine Kd.C_alloc ?_ _ | refine Kd.C_drewN ?_ _ | refine Kd.C_drew ?_)))
               (case side4 => exact (Kd.R_reads' HO_13.out).2.1)
               rintro e w145 ⟨v1132, rfl, ho0, hb⟩
               refine ⟨_, rfl, ?_⟩
               have n0_ := Aside0.mk (Kd.R_elder' (by (with_reducible repeat first | apply Kd.qja | apply Kd.qia | apply Kd.R_drew); exact HO_7.out) (Kd.R_base ho0) hb)
               have n1_ := Aside0.mk (Kd.R_elder' (by (with_reducible repeat first | apply Kd.qja | apply Kd.qia | apply Kd.R_drew); exact HO_10.out) (Kd.R_base ho0) hb)
               have n2_ := Aside0.mk (Kd.R_elder' (by (with_reducible repeat first | apply Kd.qja | apply Kd.qia | apply Kd.R_drew); exact HO_11.out) (Kd.R_base ho0) hb)
               have n3_ := Aside0.mk (Kd.R_elder' (by (with_reducible repeat first | apply Kd.qja | apply Kd.qia | apply Kd.R_drew); exact HO_13.out) (Kd.R_base ho0) hb)
               have n4_ := Aside0.mk (Kd.N_elder' (by (with_reducible repeat first | apply Kd.N_alloc | apply Kd.N_drewN | apply Kd.N_drew); exact HO1121.out) (Kd.R_base ho0) hb)
               have n5_ := Aside0.mk (Kd.R_elder' (by (with_reducible repeat first | apply Kd.qja | apply Kd.qia | apply Kd.R_drew); exact HO1125.out) (Kd.R_base ho0) hb)
               have n6_ := Aside0.mk (Kd.R_elder' (by (with_reducible repeat first | apply Kd.qja | apply Kd.qia | apply Kd.R_drew); exact HO1129.out) (Kd.R_base ho0) hb)
               have n7_ := Aside0.mk (Kd.R_lower (Kd.R_new' (Kd.R_new' (Kd.R_new' (Kd.R_new' (Kd.R_new' (Kd.R_new' ho0 (Kd.R_lt (by (with_reducible repeat first | apply Kd.qja | apply Kd.qia | apply Kd.R_drew); exact HO_7.out))) (Kd.R_lt (by (with_reducible repeat first | apply Kd.qja | apply Kd.qia | apply Kd.R_drew); exact HO_10.out))) (Kd.R_lt (by (with_reducible repeat first | apply Kd.qja | apply Kd.qia | apply Kd.R_drew); exact HO_11.out))) (Kd.R_lt (by (with_reducible repeat first | apply Kd.qja | apply Kd.qia | apply Kd.R_drew); exact HO_13.out))) (Kd.R_lt (by (with_reducible repeat first | apply Kd.qja | apply Kd.qia | apply Kd.R_drew); exact HO1125.out))) (Kd.R_lt (by (with_reducible repeat first | apply Kd.qja | apply Kd.qia | apply Kd.R_drew); exact HO1129.out))) (qka (by with_reducible repeat first | exact HB.out | apply qca | apply qba | apply qda | refine qha ?_ GE1077.out | refine qha ?_ GE1078.out)))
               have n8_ := Aside0.mk (blk_below (g := gb1077) (o := .cells #[.int .u64 a0_0, .int .i64 a0_1, .int .i64 a0_2] 24 (0, 0)) (by (with_reducible repeat first | refine qma ?_ _ | refine qpa ?_ | refine qna ?_ _); exact BK1077.out) hb)
               have n9_ := Aside0.mk (blk_below (g := gb1078) (o := .cells #[.slice A2_0 l2_0.length c2_0, .slice A2_1 l2_1.length c2_1, .int .u64 a2_2, .int .u64 a2_3, .slice A2_4 l2_4.length c2_4] 107 (0, 0)) (by (with_reducible repeat first | refine qma ?_ _ | refine qpa ?_ | refine qna ?_ _); exact BK1078.out) hb)
               have n10_ := Aside0.mk (qla (by with_reducible repeat first | exact HB.out | apply qca | apply qba | apply qda | refine qha ?_ GE1077.out | refine qha ?_ GE1078.out) hb)
               clear HO_7 HO_10 HO_11 HO_13 HO1121 HO1125 HO1129 BK1077 BK1078 HB; have HO_7 := n0_; have HO_10 := n1_; have HO_11 := n2_; have HO_13 := n3_; have HO1121 := n4_; have HO1125 := n5_; have HO1129 := n6_; have HO1133 := n7_; have BK1077 := n8_; have BK1078 := n9_; have HB := n10_; clear n0_ n1_ n2_ n3_ n4_ n5_ n6_ n7_ n8_ n9_ n10_; (try clear hb); (try clear hb2); (try clear hk); (try clear hi); (try clear ho0)
               obtain ⟨Ao146, co146, eo146⟩ := Kd.R_slice HO1125.out
               (first | subst eo146 | (injection eo146 with f1_ f2_ f3_; have f4_ := f1_.symm; have f5_ := f3_.symm; clear f1_ f2_ f3_; subst f4_; subst f5_))
               obtain ⟨Ao147, co147, eo147⟩ := Kd.R_slice HO1133.out
               (first | subst eo147 | (injection eo147 with f1_ f2_ f3_; have f4_ := f1_.symm; have f5_ := f3_.symm; clear f1_ f2_ f3_; subst f4_; subst f5_))
               refine hK.out _ _ ⟨(qfa BK1077.out 0).trans rfl, (qfa BK1077.out 1).trans rfl, (qfa BK1077.out 2).trans rfl⟩ (fun hHeld => ?_)
               clear hK K
               refine norm_ (a' := ?_) ?_ ?_
               rotate_left
               ·show Act.put _ (some 188) _ = _
                simp only [Act.put, qS1, qS2, qS3, i64_w, i32_w]
                rfl
               refine one_ (i := 16) (N := some 189) #[true, true, true, true, true, true, true, true, true, true, true, true, true, true, true, true, true, false, false, false, false, false, false, false, false, false, false, false, false, false, false, false, false, false, false, false, false, false, false, false, false] rfl rfl (one_of HT_.out (by kernel_rfl)) (by decide) (fun K hK => ?_)
               refine goes_ Try.func57 (by kernel_rfl) rfl #[.int .u64 a0_0, .slice Ao146 t1123.length co146, .slice Ao147 t1131.length co147] (by rfl) rfl rfl (by (try simp only [qM1, qM2, qM3]); first | done | rfl | (simp only [List.length_drop, List.length_take]; rfl)) ?_
               with_reducible refine (juntoref02_Sub.calls kj87 a0_0 _ _ t1123 _ _ t1131 t1134 _ ?side1 ?side2 ?side3 ?side4 A137.out).mono ?_
               (case side1 => repeat (first | exact (Kd.R_reads' HO1125.out).2.2 | (with_reducible first | refine Kd.C_alloc ?_ _ | refine Kd.C_drewN ?_ _ | refine Kd.C_drew ?_)))
               (case side2 => exact (Kd.R_reads' HO1125.out).2.1)
               (case side3 => repeat (first | exact (Kd.R_reads' HO1133.out).2.2 | (with_reducible first | refine Kd.C_alloc ?_ _ | refine Kd.C_drewN ?_ _ | refine Kd.C_drew ?_)))
               (case side4 => exact (Kd.R_reads' HO1133.out).2.1)
               rintro e w148 ⟨v1135, rfl, ho0, hb⟩
               refine ⟨_, rfl, ?_⟩
               have n0_ := Aside0.mk (Kd.R_elder' (by (with_reducible repeat first | apply Kd.qja | apply Kd.qia | apply Kd.R_drew); exact HO_7.out) (Kd.R_base ho0) hb)
               have n1_ := Aside0.mk (Kd.R_elder' (by (with_reducible repeat first | apply Kd.qja | apply Kd.qia | apply Kd.R_drew); exact HO_10.out) (Kd.R_base ho0) hb)
               have n2_ := Aside0.mk (Kd.R_elder' (by (with_reducible repeat first | apply Kd.qja | apply Kd.qia | apply Kd.R_drew); exact HO_11.out) (Kd.R_base ho0) hb)
               have n3_ := Aside0.mk (Kd.R_elder' (by (with_reducible repeat first | apply Kd.qja | apply Kd.qia | apply Kd.R_drew); exact HO_13.out) (Kd.R_base ho0) hb)
               have n4_ := Aside0.mk (Kd.N_elder' (by (with_reducible repeat first | apply Kd.N_alloc | apply Kd.N_drewN | apply Kd.N_drew); exact HO1121.out) (Kd.R_base ho0) hb)
               have n5_ := Aside0.mk (Kd.R_elder' (by (with_reducible repeat first | apply Kd.qja | apply Kd.qia | apply Kd.R_drew); exact HO1125.out) (Kd.R_base ho0) hb)
               have n6_ := Aside0.mk (Kd.R_elder' (by (with_reducible repeat first | apply Kd.qja | apply Kd.qia | apply Kd.R_drew); exact HO1129.out) (Kd.R_base ho0) hb)
               have n7_ := Aside0.mk (Kd.R_elder' (by (with_reducible repeat first | apply Kd.qja | apply Kd.qia | apply Kd.R_drew); exact HO1133.out) (Kd.R_base ho0) hb)
               have n8_ := Aside0.mk (Kd.R_lower (Kd.R_new' (Kd.R_new' (Kd.R_new' (Kd.R_new' (Kd.R_new' (Kd.R_new' (Kd.R_new' ho0 (Kd.R_lt (by (with_reducible repeat first | apply Kd.qja | apply Kd.qia | apply Kd.R_drew); exact HO_7.out))) (Kd.R_lt (by (with_reducible repeat first | apply Kd.qja | apply Kd.qia | apply Kd.R_drew); exact HO_10.out))) (Kd.R_lt (by (with_reducible repeat first | apply Kd.qja | apply Kd.qia | apply Kd.R_drew); exact HO_11.out))) (Kd.R_lt (by (with_reducible repeat first | apply Kd.qja | apply Kd.qia | apply Kd.R_drew); exact HO_13.out))) (Kd.R_lt (by (with_reducible repeat first | apply Kd.qja | apply Kd.qia | apply Kd.R_drew); exact HO1125.out))) (Kd.R_lt (by (with_reducible repeat first | apply Kd.qja | apply Kd.qia | apply Kd.R_drew); exact HO1129.out))) (Kd.R_lt (by (with_reducible repeat first | apply Kd.qja | apply Kd.qia | apply Kd.R_drew); exact HO1133.out))) (qka (by with_reducible repeat first | exact HB.out | apply qca | apply qba | apply qda | refine qha ?_ GE1077.out | refine qha ?_ GE1078.out)))
               have n9_ := Aside0.mk (blk_below (g := gb1077) (o := .cells #[.int .u64 a0_0, .int .i64 a0_1, .int .i64 a0_2] 24 (0, 0)) (by (with_reducible repeat first | refine qma ?_ _ | refine qpa ?_ | refine qna ?_ _); exact BK1077.out) hb)
               have n10_ := Aside0.mk (blk_below (g := gb1078) (o := .cells #[.slice A2_0 l2_0.length c2_0, .slice A2_1 l2_1.length c2_1, .int .u64 a2_2, .int .u64 a2_3, .slice A2_4 l2_4.length c2_4] 107 (0, 0)) (by (with_reducible repeat first | refine qma ?_ _ | refine qpa ?_ | refine qna ?_ _); exact BK1078.out) hb)
               have n11_ := Aside0.mk (qla (by with_reducible repeat first | exact HB.out | apply qca | apply qba | apply qda | refine qha ?_ GE1077.out | refine qha ?_ GE1078.out) hb)
               clear HO_7 HO_10 HO_11 HO_13 HO1121 HO1125 HO1129 HO1133 BK1077 BK1078 HB; have HO_7 := n0_; have HO_10 := n1_; have HO_11 := n2_; have HO_13 := n3_; have HO1121 := n4_; have HO1125 := n5_; have HO1129 := n6_; have HO1133 := n7_; have HO1136 := n8_; have BK1077 := n9_; have BK1078 := n10_; have HB := n11_; clear n0_ n1_ n2_ n3_ n4_ n5_ n6_ n7_ n8_ n9_ n10_ n11_; (try clear hb); (try clear hb2); (try clear hk); (try clear hi); (try clear ho0)
               obtain ⟨Ao149, co149, eo149⟩ := Kd.R_slice HO1129.out
               (first | subst eo149 | (injection eo149 with f1_ f2_ f3_; have f4_ := f1_.symm; have f5_ := f3_.symm; clear f1_ f2_ f3_; subst f4_; subst f5_))
               obtain ⟨Ao150, co150, eo150⟩ := Kd.R_slice HO1136.out
               (first | subst eo150 | (injection eo150 with f1_ f2_ f3_; have f4_ := f1_.symm; have f5_ := f3_.symm; clear f1_ f2_ f3_; subst f4_; subst f5_))
               refine hK.out _ _ ⟨(qfa BK1077.out 0).trans rfl, (qfa BK1077.out 1).trans rfl, (qfa BK1077.out 2).trans rfl⟩ (fun hHeld => ?_)
               clear hK K
               refine norm_ (a' := ?_) ?_ ?_
               rotate_left
               ·show Act.put _ (some 189) _ = _
                simp only [Act.put, qS1, qS2, qS3, i64_w, i32_w]
                rfl
               refine one_ (i := 17) (N := some 190) #[true, true, true, true, true, true, true, true, true, true, true, true, true, true, true, true, true, true, false, false, false, false, false, false, false, false, false, false, false, false, false, false, false, false, false, false, false, false, false, false, false] rfl rfl (one_of HT_.out (by kernel_rfl)) (by decide) (fun K hK => ?_)
               refine goes_ Try.func45 (by kernel_rfl) rfl #[.slice Ao149 t1127.length co149, .slice Ao150 t1134.length co150] (by rfl) rfl rfl (by (try simp only [qM1, qM2, qM3]); first | done | rfl | (simp only [List.length_drop, List.length_take]; rfl)) ?_
               with_reducible refine (qqa.calls kj87 _ _ t1127 _ _ t1134 true _ ?side1 ?side2 ?side3 ?side4 A138.out).mono ?_
               (case side1 => repeat (first | exact (Kd.R_reads' HO1129.out).2.2 | (with_reducible first | refine Kd.C_alloc ?_ _ | refine Kd.C_drewN ?_ _ | refine Kd.C_drew ?_)))
               (case side2 => exact (Kd.R_reads' HO1129.out).2.1)
               (case side3 => repeat (first | exact (Kd.R_reads' HO1136.out).2.2 | (with_reducible first | refine Kd.C_alloc ?_ _ | refine Kd.C_drewN ?_ _ | refine Kd.C_drew ?_)))
               (case side4 => exact (Kd.R_reads' HO1136.out).2.1)
               rintro e w' ⟨rfl, ⟨nd, rfl⟩⟩
               refine ⟨_, rfl, ?_⟩
               refine hK.out _ _ ⟨(qfa BK1077.out 0).trans rfl, (qfa BK1077.out 1).trans rfl, (qfa BK1077.out 2).trans rfl⟩ (fun hHeld => ?_)
               clear hK K
               refine norm_ (a' := ?_) ?_ ?_
               rotate_left
               ·show Act.put _ (some 190) _ = _
                simp only [Act.put, qS1, qS2, qS3, i64_w, i32_w]
                rfl
               refine pure_ (i := 18) (N := some 191) (v := ?_) (a' := ?_) #[true, true, true, true, true, true, true, true, true, true, true, true, true, true, true, true, true, true, true, false, false, false, false, false, false, false, false, false, false, false, false, false, false, false, false, false, false, false, false, false, false] rfl rfl (any_of HT_.out (by kernel_rfl)) (fun _ _ _ h => h) (Or.inl ⟨by rfl, ?_⟩) ?_ ?_
               rotate_left; (intro w'; go_simp; with_reducible rfl); rotate_left; (simp only [Act.put, qS1, qS2, qS3, i64_w, i32_w]; rfl)
               refine pure_ (i := 19) (N := some 192) (v := ?_) (a' := ?_) #[true, true, true, true, true, true, true, true, true, true, true, true, true, true, true, true, true, true, true, true, false, false, false, false, false, false, false, false, false, false, false, false, false, false, false, false, false, false, false, false, false] rfl rfl (any_of HT_.out (by kernel_rfl)) (fun _ _ _ h => h) (Or.inl ⟨by rfl, ?_⟩) ?_ ?_
               rotate_left; (intro w'; go_simp; with_reducible rfl); rotate_left; (simp only [Act.put, qS1, qS2, qS3, i64_w, i32_w]; rfl)
               refine pure_ (i := 20) (N := some 193) (v := ?_) (a' := ?_) #[true, true, true, true, true, true, true, true, true, true, true, true, true, true, true, true, true, true, true, true, true, false, false, false, false, false, false, false, false, false, false, false, false, false, false, false, false, false, false, false, false] rfl rfl (any_of HT_.out (by kernel_rfl)) (fun _ _ _ h => h) (Or.inl ⟨by rfl, ?_⟩) ?_ ?_
               rotate_left; (intro w'; go_simp; with_reducible rfl); rotate_left; (simp only [Act.put, qS1, qS2, qS3, i64_w, i32_w]; rfl)
               refine pure_ (i := 21) (N := some 194) (v := ?_) (a' := ?_) #[true, true, true, true, true, true, true, true, true, true, true, true, true, true, true, true, true, true, true, true, true, true, false, false, false, false, false, false, false, false, false, false, false, false, false, false, false, false, false, false, false] rfl rfl (any_of HT_.out (by kernel_rfl)) (fun _ _ _ h => h) (Or.inl ⟨by rfl, ?_⟩) ?_ ?_
               rotate_left; (intro w'; go_simp; with_reducible rfl); rotate_left; (simp only [Act.put, qS1, qS2, qS3, i64_w, i32_w]; rfl)
               refine pure_ (i := 23) (N := some 196) (v := ?_) (a' := ?_) #[true, true, true, true, true, true, true, true, true, true, true, true, true, true, true, true, true, true, true, true, true, true, false, true, false, false, false, false, false, false, false, false, false, false, false, false, false, false, false, false, false] rfl rfl (any_of HT_.out (by kernel_rfl)) (fun _ _ _ h => h) (Or.inl ⟨by rfl, ?_⟩) ?_ ?_
               rotate_left; (intro w'; go_simp; with_reducible rfl); rotate_left; (simp only [Act.put, qS1, qS2, qS3, i64_w, i32_w]; rfl)
               refine pure_ (i := 24) (N := some 197) (v := ?_) (a' := ?_) #[true, true, true, true, true, true, true, true, true, true, true, true, true, true, true, true, true, true, true, true, true, true, false, true, true, false, false, false, false, false, false, false, false, false, false, false, false, false, false, false, false] rfl rfl (any_of HT_.out (by kernel_rfl)) (fun _ _ _ h => h) (Or.inl ⟨by rfl, ?_⟩) ?_ ?_
               rotate_left; (intro w'; go_simp; with_reducible rfl); rotate_left; (simp only [Act.put, qS1, qS2, qS3, i64_w, i32_w]; rfl)
               refine pure_ (i := 26) (N := some 199) (v := ?_) (a' := ?_) #[true, true, true, true, true, true, true, true, true, true, true, true, true, true, true, true, true, true, true, true, true, true, false, true, true, false, true, false, false, false, false, false, false, false, false, false, false, false, false, false, false] rfl rfl (any_of HT_.out (by kernel_rfl)) (fun _ _ _ h => h) (Or.inl ⟨by rfl, ?_⟩) ?_ ?_
               rotate_left; (intro w'; go_simp; with_reducible rfl); rotate_left; (simp only [Act.put, qS1, qS2, qS3, i64_w, i32_w]; rfl)
               refine pure_ (i := 28) (N := some 201) (v := ?_) (a' := ?_) #[true, true, true, true, true, true, true, true, true, true, true, true, true, true, true, true, true, true, true, true, true, true, false, true, true, false, true, false, true, false, false, false, false, false, false, false, false, false, false, false, false] rfl rfl (any_of HT_.out (by kernel_rfl)) (fun _ _ _ h => h) (Or.inl ⟨by rfl, ?_⟩) ?_ ?_
               rotate_left; (intro w'; go_simp; with_reducible rfl); rotate_left; (simp only [Act.put, qS1, qS2, qS3, i64_w, i32_w]; rfl)
               refine pure_ (i := 29) (N := some 202) (v := ?_) (a' := ?_) #[true, true, true, true, true, true, true, true, true, true, true, true, true, true, true, true, true, true, true, true, true, true, false, true, true, false, true, false, true, true, false, false, false, false, false, false, false, false, false, false, false] rfl rfl (any_of HT_.out (by kernel_rfl)) (fun _ _ _ h => h) (Or.inl ⟨by rfl, ?_⟩) ?_ ?_
               rotate_left; (intro w'; go_simp; with_reducible rfl); rotate_left; (simp only [Act.put, qS1, qS2, qS3, i64_w, i32_w]; rfl)
               refine take_ (i := 22) (N := some 195) (v := ?_) (a' := ?_) #[true, true, true, true, true, true, true, true, true, true, true, true, true, true, true, true, true, true, true, true, true, true, true, true, true, false, true, false, true, true, false, false, false, false, false, false, false, false, false, false, false] rfl rfl (take_ofW HT_.out HW_.out (by kernel_rfl)) (fun _ _ _ h => h) (Or.inl ⟨by rfl, ?_⟩) hHeld ?_ ?_
               rotate_left; (rintro w' ⟨s0, s1, s2⟩; go_simp; with_reducible rfl); rotate_left; (simp only [Act.put, qS1, qS2, qS3, i64_w, i32_w]; rfl)
               refine take_ (i := 27) (N := some 200) (v := ?_) (a' := ?_) #[true, true, true, true, true, true, true, true, true, true, true, true, true, true, true, true, true, true, true, true, true, true, true, true, true, false, true, true, true, true, false, false, false, false, false, false, false, false, false, false, false] rfl rfl (take_ofW HT_.out HW_.out (by kernel_rfl)) (fun _ _ _ h => h) (Or.inl ⟨by rfl, ?_⟩) hHeld ?_ ?_
               rotate_left; (rintro w' ⟨s0, s1, s2⟩; go_simp; with_reducible rfl); rotate_left; (simp only [Act.put, qS1, qS2, qS3, i64_w, i32_w]; rfl)
               refine one_ (i := 25) (N := some 198) #[true, true, true, true, true, true, true, true, true, true, true, true, true, true, true, true, true, true, true, true, true, true, true, true, true, true, true, true, true, true, false, false, false, false, false, false, false, false, false, false, false] rfl rfl (one_of HT_.out (by kernel_rfl)) (by decide) (fun K hK => ?_)
               refine goes_ Try.func55 (by kernel_rfl) rfl #[.int .u64 a0_0, .slice Ao107 t1105.length co107, .slice Ao149 t1127.length co149] (by rfl) rfl rfl (by (try simp only [qM1, qM2, qM3]); first | done | rfl | (simp only [List.length_drop, List.length_take]; rfl)) ?_
               with_reducible refine (qxa.calls kj87 a0_0 _ _ t1105 _ _ t1127 t1138 _ ?side1 ?side2 ?side3 ?side4 A140.out).mono ?_
               (case side1 => repeat (first | exact (Kd.R_reads' HO_11.out).2.2 | (with_reducible first | refine Kd.C_alloc ?_ _ | refine Kd.C_drewN ?_ _ | refine Kd.C_drew ?_)))
               (case side2 => exact (Kd.R_reads' HO_11.out).2.1)
               (case side3 => repeat (first | exact (Kd.R_reads' HO1129.out).2.2 | (with_reducible first | refine Kd.C_alloc ?_ _ | refine Kd.C_drewN ?_ _ | refine Kd.C_drew ?_)))
               (case side4 => exact (Kd.R_reads' HO1129.out).2.1)
               rintro e w151 ⟨v1139, rfl, ho0, hb⟩
               refine ⟨_, rfl, ?_⟩
               have n0_ := Aside0.mk (Kd.R_elder' (by (with_reducible repeat first | apply Kd.qja | apply Kd.qia | apply Kd.R_drew); exact HO_7.out) (Kd.R_base ho0) hb)
               have n1_ := Aside0.mk (Kd.R_elder' (by (with_reducible repeat first | apply Kd.qja | apply Kd.qia | apply Kd.R_drew); exact HO_10.out) (Kd.R_base ho0) hb)
               have n2_ := Aside0.mk (Kd.R_elder' (by (with_reducible repeat first | apply Kd.qja | apply Kd.qia | apply Kd.R_drew); exact HO_11.out) (Kd.R_base ho0) hb)
               have n3_ := Aside0.mk (Kd.R_elder' (by (with_reducible repeat first | apply Kd.qja | apply Kd.qia | apply Kd.R_drew); exact HO_13.out) (Kd.R_base ho0) hb)
               have n4_ := Aside0.mk (Kd.N_elder' (by (with_reducible repeat first | apply Kd.N_alloc | apply Kd.N_drewN | apply Kd.N_drew); exact HO1121.out) (Kd.R_base ho0) hb)
               have n5_ := Aside0.mk (Kd.R_elder' (by (with_reducible repeat first | apply Kd.qja | apply Kd.qia | apply Kd.R_drew); exact HO1125.out) (Kd.R_base ho0) hb)
               have n6_ := Aside0.mk (Kd.R_elder' (by (with_reducible repeat first | apply Kd.qja | apply Kd.qia | apply Kd.R_drew); exact HO1129.out) (Kd.R_base ho0) hb)
               have n7_ := Aside0.mk (Kd.R_elder' (by (with_reducible repeat first | apply Kd.qja | apply Kd.qia | apply Kd.R_drew); exact HO1133.out) (Kd.R_base ho0) hb)
               have n8_ := Aside0.mk (Kd.R_elder' (by (with_reducible repeat first | apply Kd.qja | apply Kd.qia | apply Kd.R_drew); exact HO1136.out) (Kd.R_base ho0) hb)
               have n9_ := Aside0.mk (Kd.R_lower (Kd.R_new' (Kd.R_new' (Kd.R_new' (Kd.R_new' (Kd.R_new' (Kd.R_new' (Kd.R_new' (Kd.R_new' ho0 (Kd.R_lt (by (with_reducible repeat first | apply Kd.qja | apply Kd.qia | apply Kd.R_drew); exact HO_7.out))) (Kd.R_lt (by (with_reducible repeat first | apply Kd.qja | apply Kd.qia | apply Kd.R_drew); exact HO_10.out))) (Kd.R_lt (by (with_reducible repeat first | apply Kd.qja | apply Kd.qia | apply Kd.R_drew); exact HO_11.out))) (Kd.R_lt (by (with_reducible repeat first | apply Kd.qja | apply Kd.qia | apply Kd.R_drew); exact HO_13.out))) (Kd.R_lt (by (with_reducible repeat first | apply Kd.qja | apply Kd.qia | apply Kd.R_drew); exact HO1125.out))) (Kd.R_lt (by (with_reducible repeat first | apply Kd.qja | apply Kd.qia | apply Kd.R_drew); exact HO1129.out))) (Kd.R_lt (by (with_reducible repeat first | apply Kd.qja | apply Kd.qia | apply Kd.R_drew); exact HO1133.out))) (Kd.R_lt (by (with_reducible repeat first | apply Kd.qja | apply Kd.qia | apply Kd.R_drew); exact HO1136.out))) (qka (by with_reducible repeat first | exact HB.out | apply qca | apply qba | apply qda | refine qha ?_ GE1077.out | refine qha ?_ GE1078.out)))
               have n10_ := Aside0.mk (blk_below (g := gb1077) (o := .cells #[.int .u64 a0_0, .int .i64 a0_1, .int .i64 a0_2] 24 (0, 0)) (by (with_reducible repeat first | refine qma ?_ _ | refine qpa ?_ | refine qna ?_ _); exact BK1077.out) hb)
               have n11_ := Aside0.mk (blk_below (g := gb1078) (o := .cells #[.slice A2_0 l2_0.length c2_0, .slice A2_1 l2_1.length c2_1, .int .u64 a2_2, .int .u64 a2_3, .slice A2_4 l2_4.length c2_4] 107 (0, 0)) (by (with_reducible repeat first | refine qma ?_ _ | refine qpa ?_ | refine qna ?_ _); exact BK1078.out) hb)
               have n12_ := Aside0.mk (qla (by with_reducible repeat first | exact HB.out | apply qca | apply qba | apply qda | refine qha ?_ GE1077.out | refine qha ?_ GE1078.out) hb)
               clear HO_7 HO_10 HO_11 HO_13 HO1121 HO1125 HO1129 HO1133 HO1136 BK1077 BK1078 HB; have HO_7 := n0_; have HO_10 := n1_; have HO_11 := n2_; have HO_13 := n3_; have HO1121 := n4_; have HO1125 := n5_; have HO1129 := n6_; have HO1133 := n7_; have HO1136 := n8_; have HO1140 := n9_; have BK1077 := n10_; have BK1078 := n11_; have HB := n12_; clear n0_ n1_ n2_ n3_ n4_ n5_ n6_ n7_ n8_ n9_ n10_ n11_ n12_; (try clear hb); (try clear hb2); (try clear hk); (try clear hi); (try clear ho0)
               refine hK.out _ _ ⟨(qfa BK1077.out 0).trans rfl, (qfa BK1077.out 1).trans rfl, (qfa BK1077.out 2).trans rfl⟩ (fun hHeld => ?_)
               clear hK K
               refine norm_ (a' := ?_) ?_ ?_
               rotate_left
               ·show Act.put _ (some 198) _ = _
                simp only [Act.put, qS1, qS2, qS3, i64_w, i32_w]
                rfl
               refine one_ (i := 30) (N := some 203) #[true, true, true, true, true, true, true, true, true, true, true, true, true, true, true, true, true, true, true, true, true, true, true, true, true, true, true, true, true, true, true, false, false, false, false, false, false, false, false, false, false] rfl rfl (one_of HT_.out (by kernel_rfl)) (by decide) (fun K hK => ?_)
               refine goes_ Try.func55 (by kernel_rfl) rfl #[.int .u64 a0_0, .slice Ao108 t1102.length co108, .slice Ao146 t1123.length co146] (by rfl) rfl rfl (by (try simp only [qM1, qM2, qM3]); first | done | rfl | (simp only [List.length_drop, List.length_take]; rfl)) ?_
               with_reducible refine (qxa.calls kj87 a0_0 _ _ t1102 _ _ t1123 t1141 _ ?side1 ?side2 ?side3 ?side4 A141.out).mono ?_
               (case side1 => repeat (first | exact (Kd.R_reads' HO_10.out).2.2 | (with_reducible first | refine Kd.C_alloc ?_ _ | refine Kd.C_drewN ?_ _ | refine Kd.C_drew ?_)))
               (case side2 => exact (Kd.R_reads' HO_10.out).2.1)
               (case side3 => repeat (first | exact (Kd.R_reads' HO1125.out).2.2 | (with_reducible first | refine Kd.C_alloc ?_ _ | refine Kd.C_drewN ?_ _ | refine Kd.C_drew ?_)))
               (case side4 => exact (Kd.R_reads' HO1125.out).2.1)
               rintro e w152 ⟨v1142, rfl, ho0, hb⟩
               refine ⟨_, rfl, ?_⟩
               have n0_ := Aside0.mk (Kd.R_elder' (by (with_reducible repeat first | apply Kd.qja | apply Kd.qia | apply Kd.R_drew); exact HO_7.out) (Kd.R_base ho0) hb)
               have n1_ := Aside0.mk (Kd.R_elder' (by (with_reducible repeat first | apply Kd.qja | apply Kd.qia | apply Kd.R_drew); exact HO_10.out) (Kd.R_base ho0) hb)
               have n2_ := Aside0.mk (Kd.R_elder' (by (with_reducible repeat first | apply Kd.qja | apply Kd.qia | apply Kd.R_drew); exact HO_11.out) (Kd.R_base ho0) hb)
               have n3_ := Aside0.mk (Kd.R_elder' (by (with_reducible repeat first | apply Kd.qja | apply Kd.qia | apply Kd.R_drew); exact HO_13.out) (Kd.R_base ho0) hb)
               have n4_ := Aside0.mk (Kd.N_elder' (by (with_reducible repeat first | apply Kd.N_alloc | apply Kd.N_drewN | apply Kd.N_drew); exact HO1121.out) (Kd.R_base ho0) hb)
               have n5_ := Aside0.mk (Kd.R_elder' (by (with_reducible repeat first | apply Kd.qja | apply Kd.qia | apply Kd.R_drew); exact HO1125.out) (Kd.R_base ho0) hb)
               have n6_ := Aside0.mk (Kd.R_elder' (by (with_reducible repeat first | apply Kd.qja | apply Kd.qia | apply Kd.R_drew); exact HO1129.out) (Kd.R_base ho0) hb)
               have n7_ := Aside0.mk (Kd.R_elder' (by (with_reducible repeat first | apply Kd.qja | apply Kd.qia | apply Kd.R_drew); exact HO1133.out) (Kd.R_base ho0) hb)
               have n8_ := Aside0.mk (Kd.R_elder' (by (with_reducible repeat first | apply Kd.qja | apply Kd.qia | apply Kd.R_drew); exact HO1136.out) (Kd.R_base ho0) hb)
               have n9_ := Aside0.mk (Kd.R_elder' (by (with_reducible repeat first | apply Kd.qja | apply Kd.qia | apply Kd.R_drew); exact HO1140.out) (Kd.R_base ho0) hb)
               have n10_ := Aside0.mk (Kd.R_lower (Kd.R_new' (Kd.R_new' (Kd.R_new' (Kd.R_new' (Kd.R_new' (Kd.R_new' (Kd.R_new' (Kd.R_new' (Kd.R_new' ho0 (Kd.R_lt (by (with_reducible repeat first | apply Kd.qja | apply Kd.qia | apply Kd.R_drew); exact HO_7.out))) (Kd.R_lt (by (with_reducible repeat first | apply Kd.qja | apply Kd.qia | apply Kd.R_drew); exact HO_10.out))) (Kd.R_lt (by (with_reducible repeat first | apply Kd.qja | apply Kd.qia | apply Kd.R_drew); exact HO_11.out))) (Kd.R_lt (by (with_reducible repeat first | apply Kd.qja | apply Kd.qia | apply Kd.R_drew); exact HO_13.out))) (Kd.R_lt (by (with_reducible repeat first | apply Kd.qja | apply Kd.qia | apply Kd.R_drew); exact HO1125.out))) (Kd.R_lt (by (with_reducible repeat first | apply Kd.qja | apply Kd.qia | apply Kd.R_drew); exact HO1129.out))) (Kd.R_lt (by (with_reducible repeat first | apply Kd.qja | apply Kd.qia | apply Kd.R_drew); exact HO1133.out))) (Kd.R_lt (by (with_reducible repeat first | apply Kd.qja | apply Kd.qia | apply Kd.R_drew); exact HO1136.out))) (Kd.R_lt (by (with_reducible repeat first | apply Kd.qja | apply Kd.qia | apply Kd.R_drew); exact HO1140.out))) (qka (by with_reducible repeat first | exact HB.out | apply qca | apply qba | apply qda | refine qha ?_ GE1077.out | refine qha ?_ GE1078.out)))
               have n11_ := Aside0.mk (blk_below (g := gb1077) (o := .cells #[.int .u64 a0_0, .int .i64 a0_1, .int .i64 a0_2] 24 (0, 0)) (by (with_reducible repeat first | refine qma ?_ _ | refine qpa ?_ | refine qna ?_ _); exact BK1077.out) hb)
               have n12_ := Aside0.mk (blk_below (g := gb1078) (o := .cells #[.slice A2_0 l2_0.length c2_0, .slice A2_1 l2_1.length c2_1, .int .u64 a2_2, .int .u64 a2_3, .slice A2_4 l2_4.length c2_4] 107 (0, 0)) (by (with_reducible repeat first | refine qma ?_ _ | refine qpa ?_ | refine qna ?_ _); exact BK1078.out) hb)
               have n13_ := Aside0.mk (qla (by with_reducible repeat first | exact HB.out | apply qca | apply qba | apply qda | refine qha ?_ GE1077.out | refine qha ?_ GE1078.out) hb)
               clear HO_7 HO_10 HO_11 HO_13 HO1121 HO1125 HO1129 HO1133 HO1136 HO1140 BK1077 BK1078 HB; have HO_7 := n0_; have HO_10 := n1_; have HO_11 := n2_; have HO_13 := n3_; have HO1121 := n4_; have HO1125 := n5_; have HO1129 := n6_; have HO1133 := n7_; have HO1136 := n8_; have HO1140 := n9_; have HO1143 := n10_; have BK1077 := n11_; have BK1078 := n12_; have HB := n13_; clear n0_ n1_ n2_ n3_ n4_ n5_ n6_ n7_ n8_ n9_ n10_ n11_ n12_ n13_; (try clear hb); (try clear hb2); (try clear hk); (try clear hi); (try clear ho0)
               obtain ⟨Ao153, co153, eo153⟩ := Kd.R_slice HO1140.out
               (first | subst eo153 | (injection eo153 with f1_ f2_ f3_; have f4_ := f1_.symm; have f5_ := f3_.symm; clear f1_ f2_ f3_; subst f4_; subst f5_))
               obtain ⟨Ao154, co154, eo154⟩ := Kd.R_slice HO1143.out
               (first | subst eo154 | (injection eo154 with f1_ f2_ f3_; have f4_ := f1_.symm; have f5_ := f3_.symm; clear f1_ f2_ f3_; subst f4_; subst f5_))
               refine hK.out _ _ ⟨(qfa BK1077.out 0).trans rfl, (qfa BK1077.out 1).trans rfl, (qfa BK1077.out 2).trans rfl⟩ (fun hHeld => ?_)
               clear hK K
               refine norm_ (a' := ?_) ?_ ?_
               rotate_left
               ·show Act.put _ (some 203) _ = _
                simp only [Act.put, qS1, qS2, qS3, i64_w, i32_w]
                rfl
               refine one_ (i := 31) (N := some 204) #[true, true, true, true, true, true, true, true, true, true, true, true, true, true, true, true, true, true, true, true, true, true, true, true, true, true, true, true, true, true, true, true, false, false, false, false, false, false, false, false, false] rfl rfl (one_of HT_.out (by kernel_rfl)) (by decide) (fun K hK => ?_)
               refine goes_ Try.func45 (by kernel_rfl) rfl #[.slice Ao153 t1138.length co153, .slice Ao154 t1141.length co154] (by rfl) rfl rfl (by (try simp only [qM1, qM2, qM3]); first | done | rfl | (simp only [List.length_drop, List.length_take]; rfl)) ?_
               with_reducible refine (qqa.calls kj87 _ _ t1138 _ _ t1141 true _ ?side1 ?side2 ?side3 ?side4 A142.out).mono ?_
               (case side1 => repeat (first | exact (Kd.R_reads' HO1140.out).2.2 | (with_reducible first | refine Kd.C_alloc ?_ _ | refine Kd.C_drewN ?_ _ | refine Kd.C_drew ?_)))
               (case side2 => exact (Kd.R_reads' HO1140.out).2.1)
               (case side3 => repeat (first | exact (Kd.R_reads' HO1143.out).2.2 | (with_reducible first | refine Kd.C_alloc ?_ _ | refine Kd.C_drewN ?_ _ | refine Kd.C_drew ?_)))
               (case side4 => exact (Kd.R_reads' HO1143.out).2.1)
               rintro e w' ⟨rfl, ⟨nd, rfl⟩⟩
               refine ⟨_, rfl, ?_⟩
               refine hK.out _ _ ⟨(qfa BK1077.out 0).trans rfl, (qfa BK1077.out 1).trans rfl, (qfa BK1077.out 2).trans rfl⟩ (fun hHeld => ?_)
               clear hK K
               refine norm_ (a' := ?_) ?_ ?_
               rotate_left
               ·show Act.put _ (some 204) _ = _
                simp only [Act.put, qS1, qS2, qS3, i64_w, i32_w]
                rfl
               refine pure_ (i := 32) (N := some 205) (v := ?_) (a' := ?_) #[true, true, true, true, true, true, true, true, true, true, true, true, true, true, true, true, true, true, true, true, true, true, true, true, true, true, true, true, true, true, true, true, true, false, false, false, false, false, false, false, false] rfl rfl (any_of HT_.out (by kernel_rfl)) (fun _ _ _ h => h) (Or.inl ⟨by rfl, ?_⟩) ?_ ?_
               rotate_left; (intro w'; go_simp; with_reducible rfl); rotate_left; (simp only [Act.put, qS1, qS2, qS3, i64_w, i32_w]; rfl)
               refine pure_ (i := 33) (N := some 206) (v := ?_) (a' := ?_) #[true, true, true, true, true, true, true, true, true, true, true, true, true, true, true, true, true, true, true, true, true, true, true, true, true, true, true, true, true, true, true, true, true, true, false, false, false, false, false, false, false] rfl rfl (any_of HT_.out (by kernel_rfl)) (fun _ _ _ h => h) (Or.inl ⟨by rfl, ?_⟩) ?_ ?_
               rotate_left; (intro w'; go_simp; with_reducible rfl); rotate_left; (simp only [Act.put, qS1, qS2, qS3, i64_w, i32_w]; rfl)
               refine pure_ (i := 34) (N := some 207) (v := ?_) (a' := ?_) #[true, true, true, true, true, true, true, true, true, true, true, true, true, true, true, true, true, true, true, true, true, true, true, true, true, true, true, true, true, true, true, true, true, true, true, false, false, false, false, false, false] rfl rfl (any_of HT_.out (by kernel_rfl)) (fun _ _ _ h => h) (Or.inl ⟨by rfl, ?_⟩) ?_ ?_
               rotate_left; (intro w'; go_simp; with_reducible rfl); rotate_left; (simp only [Act.put, qS1, qS2, qS3, i64_w, i32_w]; rfl)
               refine pure_ (i := 35) (N := some 208) (v := ?_) (a' := ?_) #[true, true, true, true, true, true, true, true, true, true, true, true, true, true, true, true, true, true, true, true, true, true, true, true, true, true, true, true, true, true, true, true, true, true, true, true, false, false, false, false, false] rfl rfl (any_of HT_.out (by kernel_rfl)) (fun _ _ _ h => h) (Or.inl ⟨by rfl, ?_⟩) ?_ ?_
               rotate_left; (intro w'; go_simp; with_reducible rfl); rotate_left; (simp only [Act.put, qS1, qS2, qS3, i64_w, i32_w]; rfl)
               refine pure_ (i := 36) (N := some 209) (v := ?_) (a' := ?_) #[true, true, true, true, true, true, true, true, true, true, true, true, true, true, true, true, true, true, true, true, true, true, true, true, true, true, true, true, true, true, true, true, true, true, true, true, true, false, false, false, false] rfl rfl (any_of HT_.out (by kernel_rfl)) (fun _ _ _ h => h) (Or.inl ⟨by rfl, ?_⟩) ?_ ?_
               rotate_left; (intro w'; go_simp; with_reducible rfl); rotate_left; (simp only [Act.put, qS1, qS2, qS3, i64_w, i32_w]; rfl)
               refine pure_ (i := 37) (N := some 210) (v := ?_) (a' := ?_) #[true, true, true, true, true, true, true, true, true, true, true, true, true, true, true, true, true, true, true, true, true, true, true, true, true, true, true, true, true, true, true, true, true, true, true, true, true, true, false, false, false] rfl rfl (any_of HT_.out (by kernel_rfl)) (fun _ _ _ h => h) (Or.inl ⟨by rfl, ?_⟩) ?_ ?_
               rotate_left; (intro w'; go_simp; with_reducible rfl); rotate_left; (simp only [Act.put, qS1, qS2, qS3, i64_w, i32_w]; rfl)
               refine pure_ (i := 38) (N := some 211) (v := ?_) (a' := ?_) #[true, true, true, true, true, true, true, true, true, true, true, true, true, true, true, true, true, true, true, true, true, true, true, true, true, true, true, true, true, true, true, true, true, true, true, true, true, true, true, false, false] rfl rfl (any_of HT_.out (by kernel_rfl)) (fun _ _ _ h => h) (Or.inl ⟨by rfl, ?_⟩) ?_ ?_
               rotate_left; (intro w'; go_simp; with_reducible rfl); rotate_left; (simp only [Act.put, qS1, qS2, qS3, i64_w, i32_w]; rfl)
               refine pure_ (i := 39) (N := some 212) (v := ?_) (a' := ?_) #[true, true, true, true, true, true, true, true, true, true, true, true, true, true, true, true, true, true, true, true, true, true, true, true, true, true, true, true, true, true, true, true, true, true, true, true, true, true, true, true, false] rfl rfl (any_of HT_.out (by kernel_rfl)) (fun _ _ _ h => h) (Or.inl ⟨by rfl, ?_⟩) ?_ ?_
               rotate_left; (intro w'; go_simp; with_reducible rfl); rotate_left; (simp only [Act.put, qS1, qS2, qS3, i64_w, i32_w]; rfl)
               refine pure_ (i := 40) (N := some 213) (v := ?_) (a' := ?_) #[true, true, true, true, true, true, true, true, true, true, true, true, true, true, true, true, true, true, true, true, true, true, true, true, true, true, true, true, true, true, true, true, true, true, true, true, true, true, true, true, true] rfl rfl (any_of HT_.out (by kernel_rfl)) (fun _ _ _ h => h) (Or.inl ⟨by rfl, ?_⟩) ?_ ?_
               rotate_left; (intro w'; go_simp; with_reducible rfl); rotate_left; (simp only [Act.put, qS1, qS2, qS3, i64_w, i32_w]; rfl)
               refine done_ (done_of HT_.out (by kernel_rfl)) ?_
               try go_wp2
               go_meet
               case rel => exact ⟨_, (((t1119.length : Int) != (l1.length : Int))), (by first | rfl | (simp; done) | (simp [*]; done)), H', ⟨by have := HJ3.out; have := HJ87.out; first | omega | exact Nat.le_refl _⟩, ⟨by (with_reducible repeat first | apply Kd.N_alloc | apply Kd.N_drewN | apply Kd.N_drew); exact Kd.N_mono HO1121.out (fun _ hk => ⟨hk.1.1.1.1.1.1.2.2.2.2.1, hk.1.1.1.1.1.1.2.2.2.2.2⟩)⟩, ⟨by (with_reducible repeat first | refine qma ?_ _ | refine qpa ?_ | refine qna ?_ _); exact BK1077.out⟩, ⟨by (with_reducible repeat first | refine qma ?_ _ | refine qpa ?_ | refine qna ?_ _); exact BK1078.out⟩, ⟨by repeat (first | (with_reducible first | exact HB.out | apply qca | apply qba | apply qda | refine qha ?_ GE1077.out | refine qha ?_ GE1078.out) | exact HB.out)⟩⟩
              ·replace c143 := Bool.eq_false_iff.mpr c143
               subst c143
               have H1 : (qea.j2 kj87 l1 t1119 true a0_0 a0_1 a0_2 l2_0 l2_1 a2_2 a2_3 l2_4) = some r := by rw [if_neg (show ¬ (false = true) by decide)] at H; exact H
               clear H; have H := H1; clear H1
               exact (qea.j2_no HRT.out H).elim
             ·replace c139 := Bool.eq_false_iff.mpr c139
              subst c139
              have H1 : (qea.j2 kj87 l1 t1119 true a0_0 a0_1 a0_2 l2_0 l2_1 a2_2 a2_3 l2_4) = some r := by rw [if_neg (show ¬ (false = true) by decide)] at H; exact H
              clear H; have H := H1; clear H1
              exact (qea.j2_no HRT.out H).elim
            ·rw [if_neg c135] at H
             have c135b0 : (t1130 == 0) = false := beq_eq_false_iff_ne.mpr c135
             have c135b1 : (t1130 != 0) = true := bne_iff_ne.mpr c135
             exact (qea.j2_no HRT.out H).elim
           ·rw [if_neg c134] at H
            have c134b0 : (t1122 == 0) = false := beq_eq_false_iff_ne.mpr c134
            have c134b1 : (t1122 != 0) = true := bne_iff_ne.mpr c134
            (first | rw [c134b0] | (simp only [i64_w, i32_w]; rw [c134b0]) | skip)
            exact (qea.j2_no HRT.out H).elim
         case rest =>
          as_aux_lemma =>
           clear HC124; (try clear c1); (try clear p2); (try clear c13); (try clear c134); (try clear c134b0); (try clear c134b1); (try clear c135); (try clear c135b0); (try clear c135b1)
           obtain ⟨kq, x213_123, rfl, HA, HJ123, HO_15, BK1077, BK1078, HB⟩ := hcut
           cases kq with
           | zero => exact absurd HA.out (by simp [qea.j2])
           | succ kj123 =>
            have H := HA.out
            clear HA
            simp only [qea.j2] at H
            by_cases c175 : x213_123 = true
            ·subst c175
             have H1 : (some false) = some r := by rw [if_pos rfl] at H; exact H
             clear H; have H := H1; clear H1
             exact absurd ((Option.some.inj H).trans HRT.out) (by decide)
            ·replace c175 := Bool.eq_false_iff.mpr c175
             subst c175
             have H1 : (qea.l0 kj123 l1 t1119 l2_4 (l2_4.length : Int) 0 a0_0 a0_1 a0_2) = some r := by rw [if_neg (show ¬ (false = true) by decide)] at H; exact H
             clear H; have H := H1; clear H1
             have H' := Aside0.mk H
             clear H
             have hnb176 := NB1078_1077.out
             have hnc176 := NB1077_1078.out
             have hcz177_0 : wc.cell? ⟨gb1078, 0, none⟩ = some (.slice A2_0 l2_0.length c2_0) := (qfa BK1078.out 0).trans rfl
             have hcz177_1 : wc.cell? ⟨gb1078, 1, none⟩ = some (.slice A2_1 l2_1.length c2_1) := (qfa BK1078.out 1).trans rfl
             have hcz177_2 : wc.cell? ⟨gb1078, 2, none⟩ = some (.int .u64 a2_2) := (qfa BK1078.out 2).trans rfl
             have hcz177_3 : wc.cell? ⟨gb1078, 3, none⟩ = some (.int .u64 a2_3) := (qfa BK1078.out 3).trans rfl
             have hcz177_4 : wc.cell? ⟨gb1078, 4, none⟩ = some (.slice A2_4 l2_4.length c2_4) := (qfa BK1078.out 4).trans rfl
             have hfz177_0 := qga BK1078.out 0
             have hfz177_1 := qga BK1078.out 1
             have hfz177_2 := qga BK1078.out 2
             have hfz177_3 := qga BK1078.out 3
             have hfz177_4 := qga BK1078.out 4
             go_wp2
             go_loopg [217] kj123 (fun kq v217 w' => ∃ (x217_4 : Int), v217 = .int .i64 x217_4 ∧ Aside0 (qea.l0 kq l1 t1119 l2_4 (l2_4.length : Int) x217_4 a0_0 a0_1 a0_2 = some r) ∧ Aside0 (kq ≤ kj123) ∧ Aside0 (Kd.N (Kd.slice 22 (Kd.int .u64)) 31 w' w.heap.size (fun k_ => k_ ≠ gb1077 ∧ k_ ≠ gb1078) (.slice Ao132 t1119.length co132) t1119) ∧ Aside0 (w'.heap[gb1077]? = some (.cells #[.int .u64 a0_0, .int .i64 a0_1, .int .i64 a0_2] 24 (0, 0))) ∧ Aside0 (w'.heap[gb1078]? = some (.cells #[(.slice A2_0 l2_0.length c2_0), (.slice A2_1 l2_1.length c2_1), .int .u64 a2_2, .int .u64 a2_3, (.slice A2_4 l2_4.length c2_4)] 107 (0, 0))) ∧ Aside0 (Below w.heap.size w w'))
             case atStart => exact ⟨(0), (by first | rfl | (simp; done) | (simp [*]; done)), H', ⟨Nat.le_refl _⟩, ⟨by (with_reducible repeat first | apply Kd.N_alloc | apply Kd.N_drewN | apply Kd.N_drew); exact HO_15.out⟩, ⟨by (with_reducible repeat first | refine qma ?_ _ | refine qpa ?_ | refine qna ?_ _); exact BK1077.out⟩, ⟨by (with_reducible repeat first | refine qma ?_ _ | refine qpa ?_ | refine qna ?_ _); exact BK1078.out⟩, ⟨by repeat (first | (with_reducible first | exact HB.out | apply qca | apply qba | apply qda | refine qha ?_ GE1077.out | refine qha ?_ GE1078.out) | exact HB.out)⟩⟩
             case round =>
              clear H'; (try clear c1); (try clear c2); (try clear p2); (try clear c13); (try clear c17); (try clear c134); (try clear c134b0); (try clear c134b1); (try clear c135); (try clear c135b0); (try clear c135b1); (try clear c175); (try clear c176); (try clear hcz177_0); (try clear hcz177_1); (try clear hcz177_2); (try clear hcz177_3); (try clear hcz177_4); (try clear hfz177_0); (try clear hfz177_1); (try clear hfz177_2); (try clear hfz177_3); (try clear hfz177_4); (try clear p2)
              obtain ⟨x217_4, rfl, HA, HK4, HO_15, BK1077, BK1078, HB⟩ := hrel
              cases gk with
              | zero => exact absurd HA.out (by simp [qea.l0])
              | succ k4 =>
               have H := HA.out
               clear HA
               simp only [qea.l0] at H
               by_cases c178 : x217_4 < (l2_4.length : Int)
               ·rw [if_pos c178] at H
                have c178b0 : decide (x217_4 < (l2_4.length : Int)) = true := decide_eq_true c178
                clear c178
                by_cases c179 : 0 ≤ x217_4
                ·rw [if_pos c179] at H
                 have c179b0 : decide (0 ≤ x217_4) = true := decide_eq_true c179
                 clear c179
                 by_cases c180 : x217_4 < (l2_4.length : Int)
                 ·rw [if_pos c180] at H
                  have c180b0 : decide (x217_4 < (l2_4.length : Int)) = true := decide_eq_true c180
                  clear c180
                  have H' := Aside0.mk H
                  clear H
                  have p1146 : 0 ≤ (x217_4 : Int) := of_decide_eq_true (by first | (with_reducible assumption) | assumption)
                  have q1146 : x217_4 < (l2_4.length : Int) := of_decide_eq_true (by first | (with_reducible assumption) | assumption)
                  obtain ⟨ad1146, e1146, hx1146_0⟩ := Kd.at_int HR2_4.out x217_4 p1146 q1146
                  cases e1146
                  replace hx1146_0 := (HB.out.cell (World.block_lt_of_cell? w _ hx1146_0)).trans hx1146_0
                  replace p1146 := eq_true p1146; replace q1146 := eq_true q1146
                  go_wp2
                  go_loopg [223] k4 (fun kq v223 w' => ∃ (x223_5 : Int), v223 = .int .i64 x223_5 ∧ Aside0 (qea.l1 kq l1 t1119 (rd l2_4 x217_4) l2_4 (l2_4.length : Int) x217_4 (l1.length : Int) x223_5 a0_0 a0_1 a0_2 = some r) ∧ Aside0 (kq ≤ k4) ∧ Aside0 (Kd.N (Kd.slice 22 (Kd.int .u64)) 31 w' w.heap.size (fun k_ => k_ ≠ gb1077 ∧ k_ ≠ gb1078) (.slice Ao132 t1119.length co132) t1119) ∧ Aside0 (w'.heap[gb1077]? = some (.cells #[.int .u64 a0_0, .int .i64 a0_1, .int .i64 a0_2] 24 (0, 0))) ∧ Aside0 (w'.heap[gb1078]? = some (.cells #[(.slice A2_0 l2_0.length c2_0), (.slice A2_1 l2_1.length c2_1), .int .u64 a2_2, .int .u64 a2_3, (.slice (some ad1146) l2_4.length c2_4)] 107 (0, 0))) ∧ Aside0 (Below w.heap.size w w'))
                  case atStart => exact ⟨(0), (by first | rfl | (simp; done) | (simp [*]; done)), H', ⟨Nat.le_refl _⟩, ⟨by (with_reducible repeat first | apply Kd.N_alloc | apply Kd.N_drewN | apply Kd.N_drew); exact HO_15.out⟩, ⟨by (with_reducible repeat first | refine qma ?_ _ | refine qpa ?_ | refine qna ?_ _); exact BK1077.out⟩, ⟨by (with_reducible repeat first | refine qma ?_ _ | refine qpa ?_ | refine qna ?_ _); exact BK1078.out⟩, ⟨by repeat (first | (with_reducible first | exact HB.out | apply qca | apply qba | apply qda | refine qha ?_ GE1077.out | refine qha ?_ GE1078.out) | exact HB.out)⟩⟩
                  case round =>
                   clear H'; (try clear c1); (try clear p1); (try clear q1); (try clear hx1); (try clear c2); (try clear p2); (try clear p11); (try clear q11); (try clear hx11); (try clear c13); (try clear c17); (try clear c18); (try clear p114); (try clear q114); (try clear hx114); (try clear c134); (try clear c134b0); (try clear c134b1); (try clear c135); (try clear c135b0); (try clear c135b1); (try clear c175); (try clear c176); (try clear c178); (try clear c178b0); (try clear c179); (try clear c179b0); (try clear c180); (try clear c180b0); (try clear hcz177_0); (try clear hcz177_1); (try clear hcz177_2); (try clear hcz177_3); (try clear hcz177_4); (try clear hfz177_0); (try clear hfz177_1); (try clear hfz177_2); (try clear hfz177_3); (try clear hfz177_4); (try clear hx1146_0); (try clear p1146); (try clear p2); (try clear q1146)
                   obtain ⟨x223_5, rfl, HA, HK5, HO_15, BK1077, BK1078, HB⟩ := hrel
                   cases gk with
                   | zero => exact absurd HA.out (by simp [qea.l1])
                   | succ k5 =>
                    have H := HA.out
                    clear HA
                    simp only [qea.l1] at H
                    by_cases c181 : x223_5 < (l1.length : Int)
                    ·rw [if_pos c181] at H
                     have c181b0 : decide (x223_5 < (l1.length : Int)) = true := decide_eq_true c181
                     clear c181
                     by_cases c182 : 0 ≤ x223_5
                     ·rw [if_pos c182] at H
                      have c182b0 : decide (0 ≤ x223_5) = true := decide_eq_true c182
                      clear c182
                      by_cases c183 : x223_5 < (l1.length : Int)
                      ·rw [if_pos c183] at H
                       have c183b0 : decide (x223_5 < (l1.length : Int)) = true := decide_eq_true c183
                       clear c183
                       replace H := Option.bind_eq_some_iff.mp H
                       obtain ⟨t1148, A1840, H⟩ := H
                       try dsimp only at H
                       have A184 := Aside0.mk A1840
                       clear A1840
                       by_cases c185 : x223_5 < (t1119.length : Int)
                       ·rw [if_pos c185] at H
                        have c185b0 : decide (x223_5 < (t1119.length : Int)) = true := decide_eq_true c185
                        clear c185
                        replace H := Option.bind_eq_some_iff.mp H
                        obtain ⟨t1150, A1860, H⟩ := H
                        try dsimp only at H
                        have A186 := Aside0.mk A1860
                        clear A1860
                        by_cases c187 : t1148 = t1150
                        ·rw [if_pos c187] at H
                         have c187b0 : (t1148 == t1150) = true := beq_iff_eq.mpr c187
                         have c187b1 : (t1148 != t1150) = false := bne_eq_false_iff_eq.mpr c187
                         clear c187
                         have H' := Aside0.mk H
                         clear H
                         try go_wp2
                         have n0_ := Aside0.mk (Kd.N_drew HO_15.out)
                         have n1_ := Aside0.mk (qpa BK1077.out)
                         have n2_ := Aside0.mk (qpa BK1078.out)
                         have n3_ := Aside0.mk (qda HB.out)
                         clear HO_15 BK1077 BK1078 HB; have HO_15 := n0_; have BK1077 := n1_; have BK1078 := n2_; have HB := n3_; clear n0_ n1_ n2_ n3_
                         have p1147 : 0 ≤ (x223_5 : Int) := of_decide_eq_true (by first | (with_reducible assumption) | assumption)
                         have q1147 : x223_5 < (l1.length : Int) := of_decide_eq_true (by first | (with_reducible assumption) | assumption)
                         obtain ⟨ad1147, A1147_0, c1147_0, e1147, hx1147_0, hl1147_0, hi1147_0⟩ := at_L3 HR1.out x223_5 p1147 q1147
                         have hw1147_0 := hx1147_0
                         cases e1147
                         replace hx1147_0 := (HB.out.cell (World.block_lt_of_cell? w _ hx1147_0)).trans hx1147_0
                         have HR1147_0 := Aside0.mk hi1147_0
                         have HC1147_0 := Aside0.mk hl1147_0
                         clear hi1147_0 hl1147_0; replace p1147 := eq_true p1147; replace q1147 := eq_true q1147
                         have p1149 : 0 ≤ (x223_5 : Int) := of_decide_eq_true (by first | (with_reducible assumption) | assumption)
                         have q1149 : x223_5 < (t1119.length : Int) := of_decide_eq_true (by first | (with_reducible assumption) | assumption)
                         obtain ⟨ad1149, A1149_0, c1149_0, e1149, hx1149_0, hl1149_0, hi1149_0⟩ := at_L3 (Kd.N_reads' HO_15.out).2.2 x223_5 p1149 q1149
                         cases e1149
                         obtain ⟨ce1149, hce1149, hMe1149, hcc1149⟩ := Kd.N_get HO_15.out [] x223_5 p1149 (by first | exact q1149 | exact of_decide_eq_true (by first | (with_reducible assumption) | assumption) | (have e_ := (Kd.N_reads' HO_15.out).1; omega))
                         obtain ⟨ua1149_0, uc1149_0, rfl, ul1149_0, ge1149_0⟩ := Kd.FK_slice_open hMe1149
                         have hv1149_0 := hcc1149 0 _ rfl
                         rw [Nat.add_zero, show ((Kd.slice 22 (Kd.int .u64))).sz = 1 from rfl, Nat.mul_one] at hv1149_0
                         replace hv1149_0 := Option.some.inj (hv1149_0.symm.trans hx1149_0)
                         injection hv1149_0 with hva_ hvn_ hvc_
                         rw [hva_] at ge1149_0
                         rw [hvc_] at ul1149_0
                         have HL1149_0 := Aside0.mk (show Kd.V (Kd.int .u64) 22 _ w.heap.size _ _ (rd_L3 t1119 x223_5) from Kd.V_mk ul1149_0 ge1149_0)
                         clear hva_ hvn_ hvc_ ge1149_0 ul1149_0 hcc1149 hce1149
                         have HR1149_0 := Aside0.mk hi1149_0
                         have HC1149_0 := Aside0.mk hl1149_0
                         clear hi1149_0 hl1149_0; replace p1149 := eq_true p1149; replace q1149 := eq_true q1149
                         refine start_ (n := 19) (S := fun w' => w'.cell? ⟨gb1077, 0, none⟩ = some (.int .u64 a0_0) ∧ w'.cell? ⟨gb1077, 1, none⟩ = some (.int .i64 a0_1) ∧ w'.cell? ⟨gb1077, 2, none⟩ = some (.int .i64 a0_2) ∧ w'.cell? (ad1147.add (x223_5).toNat) = some (.slice A1147_0 (rd_L3 l1 x223_5).length c1147_0) ∧ w'.cell? (ad1149.add (x223_5).toNat) = some (.slice A1149_0 (rd_L3 t1119 x223_5).length c1149_0)) (ds := []) #[false, false, false, false, false, false, false, false, false, false, false, false, false, false, false, false, false, false, false] (by kernel_rfl) rfl rfl ⟨(qfa BK1077.out 0).trans rfl, (qfa BK1077.out 1).trans rfl, (qfa BK1077.out 2).trans rfl, ((HB.out.cell (World.block_lt_of_cell? w _ hw1147_0)).trans hw1147_0), hx1149_0⟩ (fun hHeld => ?_); refine with_tabW qea.tab20 qea.bits20 (fun HT_ HW_ => ?_)
                         generalize wr.drew = w188 at HO_15 BK1077 BK1078 HB HL1149_0 HR1147_0 HR1149_0 hx1147_0 hx1149_0 hHeld ⊢
                         refine pure_ (i := 0) (N := some 226) (v := ?_) (a' := ?_) #[true, false, false, false, false, false, false, false, false, false, false, false, false, false, false, false, false, false, false] rfl rfl (any_of HT_.out (by kernel_rfl)) (fun _ _ _ h => h) (Or.inl ⟨by rfl, ?_⟩) ?_ ?_
                         rotate_left; (intro w'; go_simp; with_reducible rfl); rotate_left; (simp only [Act.put, qS1, qS2, qS3, i64_w, i32_w]; rfl)
                         refine pure_ (i := 2) (N := some 228) (v := ?_) (a' := ?_) #[true, false, true, false, false, false, false, false, false, false, false, false, false, false, false, false, false, false, false] rfl rfl (any_of HT_.out (by kernel_rfl)) (fun _ _ _ h => h) (Or.inl ⟨by rfl, ?_⟩) ?_ ?_
                         rotate_left; (intro w'; go_simp; with_reducible rfl); rotate_left; (simp only [Act.put, qS1, qS2, qS3, i64_w, i32_w]; rfl)
                         refine pure_ (i := 3) (N := some 229) (v := ?_) (a' := ?_) #[true, false, true, true, false, false, false, false, false, false, false, false, false, false, false, false, false, false, false] rfl rfl (any_of HT_.out (by kernel_rfl)) (fun _ _ _ h => h) (Or.inl ⟨by rfl, ?_⟩) ?_ ?_
                         rotate_left; (intro w'; go_simp; with_reducible rfl); rotate_left; (simp only [Act.put, qS1, qS2, qS3, i64_w, i32_w]; rfl)
                         refine pure_ (i := 4) (N := some 230) (v := ?_) (a' := ?_) #[true, false, true, true, true, false, false, false, false, false, false, false, false, false, false, false, false, false, false] rfl rfl (any_of HT_.out (by kernel_rfl)) (fun _ _ _ h => h) (Or.inl ⟨by rfl, ?_⟩) ?_ ?_
                         rotate_left; (intro w'; go_simp; with_reducible rfl); rotate_left; (simp only [Act.put, qS1, qS2, qS3, i64_w, i32_w]; rfl)
                         refine pure_ (i := 6) (N := some 232) (v := ?_) (a' := ?_) #[true, false, true, true, true, false, true, false, false, false, false, false, false, false, false, false, false, false, false] rfl rfl (any_of HT_.out (by kernel_rfl)) (fun _ _ _ h => h) (Or.inl ⟨by rfl, ?_⟩) ?_ ?_
                         rotate_left; (intro w'; go_simp; with_reducible rfl); rotate_left; (simp only [Act.put, qS1, qS2, qS3, i64_w, i32_w]; rfl)
                         refine pure_ (i := 7) (N := some 233) (v := ?_) (a' := ?_) #[true, false, true, true, true, false, true, true, false, false, false, false, false, false, false, false, false, false, false] rfl rfl (any_of HT_.out (by kernel_rfl)) (fun _ _ _ h => h) (Or.inl ⟨by rfl, ?_⟩) ?_ ?_
                         rotate_left; (intro w'; go_simp; with_reducible rfl); rotate_left; (simp only [Act.put, qS1, qS2, qS3, i64_w, i32_w]; rfl)
                         refine pure_ (i := 9) (N := some 235) (v := ?_) (a' := ?_) #[true, false, true, true, true, false, true, true, false, true, false, false, false, false, false, false, false, false, false] rfl rfl (any_of HT_.out (by kernel_rfl)) (fun _ _ _ h => h) (Or.inl ⟨by rfl, ?_⟩) ?_ ?_
                         rotate_left; (intro w'; go_simp; with_reducible rfl); rotate_left; (simp only [Act.put, qS1, qS2, qS3, i64_w, i32_w]; rfl)
                         refine pure_ (i := 11) (N := some 237) (v := ?_) (a' := ?_) #[true, false, true, true, true, false, true, true, false, true, false, true, false, false, false, false, false, false, false] rfl rfl (any_of HT_.out (by kernel_rfl)) (fun _ _ _ h => h) (Or.inl ⟨by rfl, ?_⟩) ?_ ?_
                         rotate_left; (intro w'; go_simp; with_reducible rfl); rotate_left; (simp only [Act.put, qS1, qS2, qS3, i64_w, i32_w]; rfl)
                         refine pure_ (i := 12) (N := some 238) (v := ?_) (a' := ?_) #[true, false, true, true, true, false, true, true, false, true, false, true, true, false, false, false, false, false, false] rfl rfl (any_of HT_.out (by kernel_rfl)) (fun _ _ _ h => h) (Or.inl ⟨by rfl, ?_⟩) ?_ ?_
                         rotate_left; (intro w'; go_simp; with_reducible rfl); rotate_left; (simp only [Act.put, qS1, qS2, qS3, i64_w, i32_w]; rfl)
                         refine pure_ (i := 13) (N := some 239) (v := ?_) (a' := ?_) #[true, false, true, true, true, false, true, true, false, true, false, true, true, true, false, false, false, false, false] rfl rfl (any_of HT_.out (by kernel_rfl)) (fun _ _ _ h => h) (Or.inl ⟨by rfl, ?_⟩) ?_ ?_
                         rotate_left; (intro w'; go_simp; with_reducible rfl); rotate_left; (simp only [Act.put, qS1, qS2, qS3, i64_w, i32_w]; rfl)
                         refine pure_ (i := 15) (N := some 241) (v := ?_) (a' := ?_) #[true, false, true, true, true, false, true, true, false, true, false, true, true, true, false, true, false, false, false] rfl rfl (any_of HT_.out (by kernel_rfl)) (fun _ _ _ h => h) (Or.inl ⟨by rfl, ?_⟩) ?_ ?_
                         rotate_left; (intro w'; go_simp; with_reducible rfl); rotate_left; (simp only [Act.put, qS1, qS2, qS3, i64_w, i32_w]; rfl)
                         refine pure_ (i := 16) (N := some 242) (v := ?_) (a' := ?_) #[true, false, true, true, true, false, true, true, false, true, false, true, true, true, false, true, true, false, false] rfl rfl (any_of HT_.out (by kernel_rfl)) (fun _ _ _ h => h) (Or.inl ⟨by rfl, ?_⟩) ?_ ?_
                         rotate_left; (intro w'; go_simp; with_reducible rfl); rotate_left; (simp only [Act.put, qS1, qS2, qS3, i64_w, i32_w]; rfl)
                         refine take_ (i := 1) (N := some 227) (v := ?_) (a' := ?_) #[true, true, true, true, true, false, true, true, false, true, false, true, true, true, false, true, true, false, false] rfl rfl (take_ofW HT_.out HW_.out (by kernel_rfl)) (fun _ _ _ h => h) (Or.inl ⟨by rfl, ?_⟩) hHeld ?_ ?_
                         rotate_left; (rintro w' ⟨s0, s1, s2, s3, s4⟩; go_simp; with_reducible rfl); rotate_left; (simp only [Act.put, qS1, qS2, qS3, i64_w, i32_w]; rfl)
                         refine take_ (i := 5) (N := some 231) (v := ?_) (a' := ?_) #[true, true, true, true, true, true, true, true, false, true, false, true, true, true, false, true, true, false, false] rfl rfl (take_ofW HT_.out HW_.out (by kernel_rfl)) (fun _ _ _ h => h) (Or.inl ⟨by rfl, ?_⟩) hHeld ?_ ?_
                         rotate_left; (rintro w' ⟨s0, s1, s2, s3, s4⟩; go_simp; with_reducible rfl); rotate_left; (simp only [Act.put, qS1, qS2, qS3, i64_w, i32_w]; rfl)
                         refine take_ (i := 10) (N := some 236) (v := ?_) (a' := ?_) #[true, true, true, true, true, true, true, true, false, true, true, true, true, true, false, true, true, false, false] rfl rfl (take_ofW HT_.out HW_.out (by kernel_rfl)) (fun _ _ _ h => h) (Or.inl ⟨by rfl, ?_⟩) hHeld ?_ ?_
                         rotate_left; (rintro w' ⟨s0, s1, s2, s3, s4⟩; go_simp; with_reducible rfl); rotate_left; (simp only [Act.put, qS1, qS2, qS3, i64_w, i32_w]; rfl)
                         refine take_ (i := 14) (N := some 240) (v := ?_) (a' := ?_) #[true, true, true, true, true, true, true, true, false, true, true, true, true, true, true, true, true, false, false] rfl rfl (take_ofW HT_.out HW_.out (by kernel_rfl)) (fun _ _ _ h => h) (Or.inl ⟨by rfl, ?_⟩) hHeld ?_ ?_
                         rotate_left; (rintro w' ⟨s0, s1, s2, s3, s4⟩; go_simp; with_reducible rfl); rotate_left; (simp only [Act.put, qS1, qS2, qS3, i64_w, i32_w]; rfl)
                         refine one_ (i := 8) (N := some 234) #[true, true, true, true, true, true, true, true, true, true, true, true, true, true, true, true, true, false, false] rfl rfl (one_of HT_.out (by kernel_rfl)) (by decide) (fun K hK => ?_)
                         refine goes_ Try.func58 (by kernel_rfl) rfl #[.int .u64 a0_0, .slice A1147_0 (rd_L3 l1 x223_5).length c1147_0, .int .u64 (IntKind.u64.wrap ((rd l2_4 x217_4)))] (by rfl) rfl rfl (by (try simp only [qM1, qM2, qM3]); first | done | rfl | (simp only [List.length_drop, List.length_take]; rfl)) ?_
                         with_reducible refine (qkb.calls k5 a0_0 _ _ (rd_L3 l1 x223_5) (IntKind.u64.wrap ((rd l2_4 x217_4))) t1148 _ ?side1 ?side2 A184.out).mono ?_
                         (case side1 => repeat (first | exact (Kd.C_below HR1147_0.out HB.out) | (with_reducible first | refine Kd.C_alloc ?_ _ | refine Kd.C_drewN ?_ _ | refine Kd.C_drew ?_)))
                         (case side2 => exact HC1147_0.out)
                         rintro e w' ⟨rfl, ⟨nd, rfl⟩⟩
                         refine ⟨_, rfl, ?_⟩
                         refine hK.out _ _ ⟨(qfa BK1077.out 0).trans rfl, (qfa BK1077.out 1).trans rfl, (qfa BK1077.out 2).trans rfl, ((HB.out.cell (World.block_lt_of_cell? w _ hw1147_0)).trans hw1147_0), hHeld.2.2.2.2⟩ (fun hHeld => ?_)
                         clear hK K
                         refine norm_ (a' := ?_) ?_ ?_
                         rotate_left
                         ·show Act.put _ (some 234) _ = _
                          simp only [Act.put, qS1, qS2, qS3, i64_w, i32_w]
                          rfl
                         refine one_ (i := 17) (N := some 243) #[true, true, true, true, true, true, true, true, true, true, true, true, true, true, true, true, true, true, false] rfl rfl (one_of HT_.out (by kernel_rfl)) (by decide) (fun K hK => ?_)
                         refine goes_ Try.func58 (by kernel_rfl) rfl #[.int .u64 a0_0, .slice A1149_0 (rd_L3 t1119 x223_5).length c1149_0, .int .u64 (IntKind.u64.wrap ((rd l2_4 x217_4)))] (by rfl) rfl rfl (by (try simp only [qM1, qM2, qM3]); first | done | rfl | (simp only [List.length_drop, List.length_take]; rfl)) ?_
                         with_reducible refine (qkb.calls k5 a0_0 _ _ (rd_L3 t1119 x223_5) (IntKind.u64.wrap ((rd l2_4 x217_4))) t1150 _ ?side1 ?side2 A186.out).mono ?_
                         (case side1 => repeat (first | exact (by repeat (first | (with_reducible exact HR1149_0.out) | (with_reducible first | refine Kd.C_alloc ?_ _ | refine Kd.C_drewN ?_ _ | refine Kd.C_drew ?_) | exact HR1149_0.out)) | (with_reducible first | refine Kd.C_alloc ?_ _ | refine Kd.C_drewN ?_ _ | refine Kd.C_drew ?_)))
                         (case side2 => exact HC1149_0.out)
                         rintro e w' ⟨rfl, ⟨nd, rfl⟩⟩
                         refine ⟨_, rfl, ?_⟩
                         refine hK.out _ _ ⟨(qfa BK1077.out 0).trans rfl, (qfa BK1077.out 1).trans rfl, (qfa BK1077.out 2).trans rfl, ((HB.out.cell (World.block_lt_of_cell? w _ hw1147_0)).trans hw1147_0), hHeld.2.2.2.2⟩ (fun hHeld => ?_)
                         clear hK K
                         refine norm_ (a' := ?_) ?_ ?_
                         rotate_left
                         ·show Act.put _ (some 243) _ = _
                          simp only [Act.put, qS1, qS2, qS3, i64_w, i32_w]
                          rfl
                         refine pure_ (i := 18) (N := some 244) (v := ?_) (a' := ?_) #[true, true, true, true, true, true, true, true, true, true, true, true, true, true, true, true, true, true, true] rfl rfl (any_of HT_.out (by kernel_rfl)) (fun _ _ _ h => h) (Or.inl ⟨by rfl, ?_⟩) ?_ ?_
                         rotate_left; (intro w'; go_simp; with_reducible rfl); rotate_left; (simp only [Act.put, qS1, qS2, qS3, i64_w, i32_w]; rfl)
                         refine done_ (done_of HT_.out (by kernel_rfl)) ?_
                         try go_wp2
                         go_roundg k5
                         case measure => have := HJ3.out; have := HJ87.out; have := HJ123.out; have := HK4.out; have := HK5.out; omega
                         case rel => exact ⟨(wrap64 (x223_5 + 1)), (by first | rfl | (simp; done) | (simp [*]; done)), H', ⟨by have := HJ3.out; have := HJ87.out; have := HJ123.out; have := HK4.out; have := HK5.out; omega⟩, ⟨by (with_reducible repeat first | apply Kd.N_alloc | apply Kd.N_drewN | apply Kd.N_drew); exact HO_15.out⟩, ⟨by (with_reducible repeat first | refine qma ?_ _ | refine qpa ?_ | refine qna ?_ _); exact BK1077.out⟩, ⟨by (with_reducible repeat first | refine qma ?_ _ | refine qpa ?_ | refine qna ?_ _); exact BK1078.out⟩, ⟨by repeat (first | (with_reducible first | exact HB.out | apply qca | apply qba | apply qda | refine qha ?_ GE1077.out | refine qha ?_ GE1078.out) | exact HB.out)⟩⟩
                        ·rw [if_neg c187] at H
                         have c187b0 : (t1148 == t1150) = false := beq_eq_false_iff_ne.mpr c187
                         have c187b1 : (t1148 != t1150) = true := bne_iff_ne.mpr c187
                         exact absurd ((Option.some.inj H).trans HRT.out) (by decide)
                       ·rw [if_neg c185] at H
                        exact absurd H (by simp)
                      ·rw [if_neg c183] at H
                       exact absurd H (by simp)
                     ·rw [if_neg c182] at H
                      exact absurd H (by simp)
                    ·rw [if_neg c181] at H
                     have c181b0 : decide (x223_5 < (l1.length : Int)) = false := decide_eq_false c181
                     clear c181
                     have H' := Aside0.mk H
                     clear H
                     go_wp2
                     go_roundg k5
                     case measure => have := HJ3.out; have := HJ87.out; have := HJ123.out; have := HK4.out; have := HK5.out; omega
                     case rel => exact ⟨(wrap64 (x217_4 + 1)), (by first | rfl | (simp; done) | (simp [*]; done)), H', ⟨by have := HJ3.out; have := HJ87.out; have := HJ123.out; have := HK4.out; have := HK5.out; omega⟩, ⟨by (with_reducible repeat first | apply Kd.N_alloc | apply Kd.N_drewN | apply Kd.N_drew); exact HO_15.out⟩, ⟨by (with_reducible repeat first | refine qma ?_ _ | refine qpa ?_ | refine qna ?_ _); exact BK1077.out⟩, ⟨by (with_reducible repeat first | refine qma ?_ _ | refine qpa ?_ | refine qna ?_ _); exact BK1078.out⟩, ⟨by repeat (first | (with_reducible first | exact HB.out | apply qca | apply qba | apply qda | refine qha ?_ GE1077.out | refine qha ?_ GE1078.out) | exact HB.out)⟩⟩
                 ·rw [if_neg c180] at H
                  exact absurd H (by simp)
                ·rw [if_neg c179] at H
                 exact absurd H (by simp)
               ·rw [if_neg c178] at H
                have c178b0 : decide (x217_4 < (l2_4.length : Int)) = false := decide_eq_false c178
                clear c178
                replace H := Option.bind_eq_some_iff.mp H
                obtain ⟨t1145, A1890, H⟩ := H
                try dsimp only at H
                have A189 := Aside0.mk A1890
                clear A1890
                obtain rfl := Option.some.inj H
                go_wp2_with (first | ((with_reducible refine qoa (f := 40) rfl ?_); refine goesL_ (some 247) rfl rfl Try.func40 (by kernel_rfl) rfl #[] rfl (by (try simp only [qM1, qM2, qM3]); first | done | rfl) ?_; (with_reducible refine (qwb.calls k4  t1145 _ A189.out (by first | rfl | exact HRT.out)).mono ?_); rintro e w190 ⟨rfl, hb⟩; refine ⟨_, rfl, ?_⟩; have n0_ := Aside0.mk (Kd.N_below (by (with_reducible repeat first | apply Kd.N_alloc | apply Kd.N_drewN | apply Kd.N_drew); exact HO_15.out) hb); have n1_ := Aside0.mk (blk_below (g := gb1077) (o := .cells #[.int .u64 a0_0, .int .i64 a0_1, .int .i64 a0_2] 24 (0, 0)) (by (with_reducible repeat first | refine qma ?_ _ | refine qpa ?_ | refine qna ?_ _); exact BK1077.out) hb); have n2_ := Aside0.mk (blk_below (g := gb1078) (o := .cells #[.slice A2_0 l2_0.length c2_0, .slice A2_1 l2_1.length c2_1, .int .u64 a2_2, .int .u64 a2_3, .slice A2_4 l2_4.length c2_4] 107 (0, 0)) (by (with_reducible repeat first | refine qma ?_ _ | refine qpa ?_ | refine qna ?_ _); exact BK1078.out) hb); have n3_ := Aside0.mk (qla (by with_reducible repeat first | exact HB.out | apply qca | apply qba | apply qda | refine qha ?_ GE1077.out | refine qha ?_ GE1078.out) hb); clear HO_15; clear BK1077; clear BK1078; clear HB; have HO_15 := n0_; have BK1077 := n1_; have BK1078 := n2_; have HB := n3_; clear n0_ n1_ n2_ n3_; (try clear hb); (try clear hb2); (try clear hk); (try clear hi)))
                go_ret
                exact ⟨by first | rfl | (simp [errW_none, errW_some] <;> rfl) | (simp [*, errW_none, errW_some] <;> rfl), by repeat (first | (with_reducible first | exact HB.out | apply qca | apply qba | apply qda | refine qha ?_ GE1077.out | refine qha ?_ GE1078.out) | exact HB.out)⟩
end Go.Proofs.Ytjjnfobeeflnhaa.J
