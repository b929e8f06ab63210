/- Part 7 of the proof of PolySums: what the functions compute as plain Lean functions, that the machine comes to just these answers, and that the answer is true; no conditions. -/
import Derived.Test.YtjjnfobeeflnhaaPolySumsZ0
import Derived.Test.YtjjnfobeeflnhaaPolySumsZ1
import Derived.Test.YtjjnfobeeflnhaaPolySumsZ2
import Derived.Test.YtjjnfobeeflnhaaPolySumsZ3
import Derived.Test.YtjjnfobeeflnhaaPolySumsZ4
import Derived.Test.YtjjnfobeeflnhaaPolySumsZ5
import Derived.Test.YtjjnfobeeflnhaaPolySumsZ6
import Derived.Test.YtjjnfobeeflnhaaRows
import Derived.WalkKit
import Derived.ProofKit
import Derived.OpenShut
import Derived.ShutString
import Derived.ChangeOld
import Derived.Below
import Derived.SizedLaws
/- What Go functions of the program compute, as plain Lean functions, and that the machine comes to just these answers (written by a program for this seat). -/
namespace Go.Proofs.Ytjjnfobeeflnhaa.J
open Go.RowKit Go.Proofs.YtjjnfobeeflnhaaW.PrintWords Go.Proofs.YtjjnfobeeflnhaaW.PrintLast Go.Proofs.YtjjnfobeeflnhaaW.PrintMore
attribute [local go_sem] max2_int min2_int max_two min_two max_three min_three max_four min_four   -- for this text's walks alone
set_option linter.unusedVariables false
set_option linter.unusedSimpArgs false

/-! ### juntolaw02_PolySums_leaf2: a part -/
set_option maxHeartbeats 8000000 in
set_option maxRecDepth 100000 in
theorem juntolaw02_PolySums_leaf2 (k : Nat) (a0 : Int) (P1_0_ : Nat → Prop) (A1_0 : Option Addr) (c1_0 : Nat) (l1_0 : List Int) (P1_1_ : Nat → Prop) (A1_1 : Option Addr) (c1_1 : Nat) (l1_1 : List Int) (a2 : Int) (w : World) (hs1_0 : (Kd.int IntKind.u64).V 22 w w.heap.size (fun k_ => P1_0_ k_) (Value.slice A1_0 l1_0.length c1_0) l1_0) (hs1_1 : (Kd.int IntKind.u64).V 22 w w.heap.size (fun k_ => P1_1_ k_) (Value.slice A1_1 l1_1.length c1_1) l1_1) (HO1_0 : Aside0 ((Kd.int IntKind.u64).V 22 w w.heap.size (fun k_ => (P1_0_ k_ ∨ P1_1_ k_) ∨ w.heap.size ≤ k_) (Value.slice A1_0 l1_0.length c1_0) l1_0)) (HO1_1 : Aside0 ((Kd.int IntKind.u64).V 22 w w.heap.size (fun k_ => (P1_0_ k_ ∨ P1_1_ k_) ∨ w.heap.size ≤ k_) (Value.slice A1_1 l1_1.length c1_1) l1_1)) (HB : Aside0 (Below w.heap.size w w)) (y1500 : List (List Int)) (Ny1500 : Aside0 (y1500 = [l1_0, l1_1])) (t1503 : Int) (A4 : Aside0 (juntoref02_Right.f k a0 y1500 = some t1503)) (y1504 : List (List Int)) (Ny1504 : Aside0 (y1504 = [l1_0])) (t1507 : Int) (A5 : Aside0 (juntoref02_Right.f k a0 y1504 = some t1507)) (t1508 : List Int) (t1509 : Int) (A6 : Aside0 (poly_Add.f k a0 l1_0 l1_1 = some (t1508, t1509))) (t1512 : List Int) (t1513 : Int) (A7 : Aside0 (poly_Sub.f k a0 l1_0 l1_1 = some (t1512, t1513))) (t1516 : List Int) (t1519 : Int) (A8 : Aside0 (poly_Scale.f k a0 l1_0 a2 = some (t1516, t1519))) (c9 : ¬t1507 = 0) (c9b0 : (t1507 == 0) = false) (c9b1 : (t1507 != 0) = true) (A66 : Aside0 (juntolaw02_is.f k t1508 t1509 [] t1507 = some true)) (A68 : Aside0 (juntolaw02_is.f k t1512 t1513 [] t1507 = some true)) (A70 : Aside0 (juntolaw02_is.f k t1516 t1519 [] t1507 = some true)) (t1523 : Bool) (A72 : Aside0 (juntolaw02_alive.f k = some t1523)) (HRT : Aside0 (t1523 = true)) :
    Calls Try.prog 26 #[Value.int IntKind.u64 a0, Value.agg #[Value.slice A1_0 l1_0.length c1_0, Value.slice A1_1 l1_1.length c1_1], Value.int IntKind.u64 a2] w fun e w' => e = Ending.returned (Value.bool t1523) ∧ Below w.heap.size w w' := by
  have hu50 := Try.underlying50
  go_enter Try.func26, Try.ntmps26
  go_wp2_with (first | ((with_reducible refine gate_dst (N := 4) rfl ?_); refine box_event ?hg (N := 4) ?hd (cs := #[.slice A1_0 l1_0.length c1_0, .slice A1_1 l1_1.length c1_1]) (t := 90) ?hr ?_; (case hd => rfl); (case hg => rfl); (case hr => first | (go_simp; done) | (go_simp; rfl)); intro gb1499 hg w73 hbox hb; have n0_ := Aside0.mk (Kd.V_below (Kd.V_elderB (by (with_reducible repeat (first | apply Kd.V_alloc | apply Kd.V_drewN | apply Kd.V_drew)); exact HO1_0.out) gb1499 (Nat.le_of_eq hg.symm)) hb); have n1_ := Aside0.mk (Kd.V_below (Kd.V_elderB (by (with_reducible repeat (first | apply Kd.V_alloc | apply Kd.V_drewN | apply Kd.V_drew)); exact HO1_1.out) gb1499 (Nat.le_of_eq hg.symm)) hb); have n2_ := Aside0.mk (below_step (by repeat (first | (with_reducible first | exact HB.out | apply below_alloc | apply pw_below_drewN | apply below_drew1) | exact HB.out)) hb); have n3_ := Aside0.mk (hbox); have n4_ := Aside0.mk ((by rw [hg]; exact (below_size (by repeat (first | (with_reducible first | exact HB.out | apply below_alloc | apply pw_below_drewN | apply below_drew1) | exact HB.out))) : w.heap.size ≤ gb1499)); have n5_ := Aside0.mk ((by rw [hg]; exact (below_size (by repeat (first | (with_reducible first | exact HB.out | apply below_alloc | apply pw_below_drewN | apply below_drew1) | exact HB.out))) : w.heap.size ≤ gb1499)); clear HO1_0; clear HO1_1; clear HB; have HO1_0 := n0_; have HO1_1 := n1_; have HB := n2_; have BK1499 := n3_; have GW1499 := n4_; have GE1499 := n5_; clear n0_ n1_ n2_ n3_ n4_ n5_; clear hb hbox hg; have hcz74_0 : w73.cell? ⟨gb1499, 0, none⟩ = some (.slice A1_0 l1_0.length c1_0) := (blk_cell BK1499.out 0).trans rfl; have hcz74_1 : w73.cell? ⟨gb1499, 1, none⟩ = some (.slice A1_1 l1_1.length c1_1) := (blk_cell BK1499.out 1).trans rfl; have hfz74_0 := blk_frozen BK1499.out 0; have hfz74_1 := blk_frozen BK1499.out 1) | ((with_reducible refine gate_dst (N := 24) rfl ?_); refine Kd.N_lit (Kd.slice 22 (Kd.int .u64)) _ 31 ?hg (N' := 24) ?hd (xs := ([l1_0, l1_1] : List (List Int))) (inner := [.slice A1_0 l1_0.length c1_0, .slice A1_1 l1_1.length c1_1]) (ok := (fun k_ => ((P1_0_ k_ ∨ P1_1_ k_) ∨ w.heap.size ≤ k_) ∧ k_ ≠ gb1499)) (okp := (fun k_ => ((P1_0_ k_ ∨ P1_1_ k_) ∨ w.heap.size ≤ k_) ∧ k_ ≠ gb1499)) ?hr ?hp (fun _ hk => hk) ((show ∀ k_, w73.heap.size ≤ k_ → (fun k_ => ((P1_0_ k_ ∨ P1_1_ k_) ∨ w.heap.size ≤ k_) ∧ k_ ≠ gb1499) k_ from fun k_ hk => ⟨(.inr (Nat.le_trans (below_size (by repeat (first | (with_reducible first | exact HB.out | apply below_alloc | apply pw_below_drewN | apply below_drew1 | refine below_set ?_ GE1499.out) | exact HB.out))) hk)), Kd.freshB (g := gb1499) (o := .cells #[.slice A1_0 l1_0.length c1_0, .slice A1_1 l1_1.length c1_1] 90 (0, 0)) (by (with_reducible repeat (first | refine blk_drewN ?_ _ | refine blk_drew ?_ | refine blk_alloc ?_ _)); exact BK1499.out) k_ hk⟩) _ (Nat.le_refl _)) (Below.refl _ _) (Nat.le_refl _) (by simp) ?_; (case hd => rfl); (case hg => rfl); (case hr => first | (go_simp; done) | (go_simp; rfl)); (case hp => exact (Reps.one (show Kd.FK (Kd.slice 22 (Kd.int .u64)) _ _ l1_0 [.slice A1_0 l1_0.length c1_0] from (Kd.FK_slice_mk (Kd.V_reads' (Kd.V_mono (ok' := (fun k_ => ((P1_0_ k_ ∨ P1_1_ k_) ∨ w.heap.size ≤ k_) ∧ k_ ≠ gb1499)) (HO1_0.out) (fun k_ hk => ⟨hk.1, hk.2⟩))).2.1 (Kd.V_F (by first | exact (Kd.V_mono (ok' := (fun k_ => ((P1_0_ k_ ∨ P1_1_ k_) ∨ w.heap.size ≤ k_) ∧ k_ ≠ gb1499)) (HO1_0.out) (fun k_ hk => ⟨hk.1, hk.2⟩)) | exact Kd.V_drewN (Kd.V_mono (ok' := (fun k_ => ((P1_0_ k_ ∨ P1_1_ k_) ∨ w.heap.size ≤ k_) ∧ k_ ≠ gb1499)) (HO1_0.out) (fun k_ hk => ⟨hk.1, hk.2⟩)) _)))) (Reps.one (show Kd.FK (Kd.slice 22 (Kd.int .u64)) _ _ l1_1 [.slice A1_1 l1_1.length c1_1] from (Kd.FK_slice_mk (Kd.V_reads' (Kd.V_mono (ok' := (fun k_ => ((P1_0_ k_ ∨ P1_1_ k_) ∨ w.heap.size ≤ k_) ∧ k_ ≠ gb1499)) (HO1_1.out) (fun k_ hk => ⟨hk.1, hk.2⟩))).2.1 (Kd.V_F (by first | exact (Kd.V_mono (ok' := (fun k_ => ((P1_0_ k_ ∨ P1_1_ k_) ∨ w.heap.size ≤ k_) ∧ k_ ≠ gb1499)) (HO1_1.out) (fun k_ hk => ⟨hk.1, hk.2⟩)) | exact Kd.V_drewN (Kd.V_mono (ok' := (fun k_ => ((P1_0_ k_ ∨ P1_1_ k_) ∨ w.heap.size ≤ k_) ∧ k_ ≠ gb1499)) (HO1_1.out) (fun k_ hk => ⟨hk.1, hk.2⟩)) _)))) (Reps.none _ _)))); intro v1501 w75 ho76 hb hg_ hnew_; clear hg_ hnew_; (first | rw [← Ny1500.out] at ho76 | (simp only [Int.reduceToNat] at ho76; rw [← Ny1500.out] at ho76)); have n0_ := Aside0.mk (Kd.V_elder' (by (with_reducible repeat (first | apply Kd.V_alloc | apply Kd.V_drewN | apply Kd.V_drew)); exact HO1_0.out) (Kd.N_base ho76) hb); have n1_ := Aside0.mk (Kd.V_elder' (by (with_reducible repeat (first | apply Kd.V_alloc | apply Kd.V_drewN | apply Kd.V_drew)); exact HO1_1.out) (Kd.N_base ho76) hb); have n2_ := Aside0.mk (Kd.N_lower ho76 (below_size (by repeat (first | (with_reducible first | exact HB.out | apply below_alloc | apply pw_below_drewN | apply below_drew1 | refine below_set ?_ GE1499.out) | exact HB.out)))); have n3_ := Aside0.mk (blk_below (g := gb1499) (o := .cells #[.slice A1_0 l1_0.length c1_0, .slice A1_1 l1_1.length c1_1] 90 (0, 0)) (by (with_reducible repeat (first | refine blk_drewN ?_ _ | refine blk_drew ?_ | refine blk_alloc ?_ _)); exact BK1499.out) hb); have n4_ := Aside0.mk (below_step (by repeat (first | (with_reducible first | exact HB.out | apply below_alloc | apply pw_below_drewN | apply below_drew1 | refine below_set ?_ GE1499.out) | exact HB.out)) hb); clear HO1_0; clear HO1_1; clear BK1499; clear HB; have HO1_0 := n0_; have HO1_1 := n1_; have HO1502 := n2_; have BK1499 := n3_; have HB := n4_; clear n0_ n1_ n2_ n3_ n4_; clear hb ho76; obtain ⟨Ao77, co77, eo77⟩ := Kd.N_slice HO1502.out; subst eo77) | (go_at_call 92; (with_reducible refine (juntoref02_Right.calls k a0 _ _ y1500 t1503 _ ?side1 ?side2 A4.out).mono ?_); (case side1 => repeat (first | exact (Kd.N_reads' HO1502.out).2.2 | (with_reducible refine Kd.C_alloc ?_ _) | (with_reducible refine Kd.C_drewN ?_ _) | (with_reducible refine Kd.C_drew ?_))); (case side2 => exact (Kd.N_reads' HO1502.out).2.1); rintro e w' ⟨rfl, ⟨nd, rfl⟩⟩; (try first | exact ⟨rfl, _, World.drewN_drewN _ _ _⟩ | exact ⟨rfl, _, Eq.trans (World.drewN_drewN _ _ _) (congrArg (World.drewN _) (Nat.add_assoc _ _ _))⟩)) | ((with_reducible refine gate_dst (N := 28) rfl ?_); refine Kd.N_lit (Kd.slice 22 (Kd.int .u64)) _ 31 ?hg (N' := 28) ?hd (xs := ([l1_0] : List (List Int))) (inner := [.slice A1_0 l1_0.length c1_0]) (ok := (fun k_ => ((P1_0_ k_ ∨ P1_1_ k_) ∨ w.heap.size ≤ k_) ∧ some k_ ≠ (.slice Ao77 y1500.length co77 : Value).ownBlock ∧ k_ ≠ gb1499)) (okp := (fun k_ => ((P1_0_ k_ ∨ P1_1_ k_) ∨ w.heap.size ≤ k_) ∧ some k_ ≠ (.slice Ao77 y1500.length co77 : Value).ownBlock ∧ k_ ≠ gb1499)) ?hr ?hp (fun _ hk => hk) ((show ∀ k_, w75.heap.size ≤ k_ → (fun k_ => ((P1_0_ k_ ∨ P1_1_ k_) ∨ w.heap.size ≤ k_) ∧ some k_ ≠ (.slice Ao77 y1500.length co77 : Value).ownBlock ∧ k_ ≠ gb1499) k_ from fun k_ hk => ⟨(.inr (Nat.le_trans (below_size (by repeat (first | (with_reducible first | exact HB.out | apply below_alloc | apply pw_below_drewN | apply below_drew1 | refine below_set ?_ GE1499.out) | exact HB.out))) hk)), Kd.fresh' (Kd.N_lt (by (with_reducible repeat (first | apply Kd.N_alloc | apply Kd.N_drewN | apply Kd.N_drew)); exact HO1502.out)) k_ hk, Kd.freshB (g := gb1499) (o := .cells #[.slice A1_0 l1_0.length c1_0, .slice A1_1 l1_1.length c1_1] 90 (0, 0)) (by (with_reducible repeat (first | refine blk_drewN ?_ _ | refine blk_drew ?_ | refine blk_alloc ?_ _)); exact BK1499.out) k_ hk⟩) _ (Nat.le_refl _)) (Below.refl _ _) (Nat.le_refl _) (by simp) ?_; (case hd => rfl); (case hg => rfl); (case hr => first | (go_simp; done) | (go_simp; rfl)); (case hp => exact (Reps.one (show Kd.FK (Kd.slice 22 (Kd.int .u64)) _ _ l1_0 [.slice A1_0 l1_0.length c1_0] from (Kd.FK_slice_mk (Kd.V_reads' (Kd.V_mono (ok' := (fun k_ => ((P1_0_ k_ ∨ P1_1_ k_) ∨ w.heap.size ≤ k_) ∧ some k_ ≠ (.slice Ao77 y1500.length co77 : Value).ownBlock ∧ k_ ≠ gb1499)) (HO1_0.out) (fun k_ hk => ⟨hk.1.1, ⟨hk.2, hk.1.2⟩⟩))).2.1 (Kd.V_F (by first | exact (Kd.V_mono (ok' := (fun k_ => ((P1_0_ k_ ∨ P1_1_ k_) ∨ w.heap.size ≤ k_) ∧ some k_ ≠ (.slice Ao77 y1500.length co77 : Value).ownBlock ∧ k_ ≠ gb1499)) (HO1_0.out) (fun k_ hk => ⟨hk.1.1, ⟨hk.2, hk.1.2⟩⟩)) | exact Kd.V_drewN (Kd.V_mono (ok' := (fun k_ => ((P1_0_ k_ ∨ P1_1_ k_) ∨ w.heap.size ≤ k_) ∧ some k_ ≠ (.slice Ao77 y1500.length co77 : Value).ownBlock ∧ k_ ≠ gb1499)) (HO1_0.out) (fun k_ hk => ⟨hk.1.1, ⟨hk.2, hk.1.2⟩⟩)) _)))) (Reps.none _ _))); intro v1505 w78 ho79 hb hg_ hnew_; clear hg_ hnew_; (first | rw [← Ny1504.out] at ho79 | (simp only [Int.reduceToNat] at ho79; rw [← Ny1504.out] at ho79)); have n0_ := Aside0.mk (Kd.V_elder' (by (with_reducible repeat (first | apply Kd.V_alloc | apply Kd.V_drewN | apply Kd.V_drew)); exact HO1_0.out) (Kd.N_base ho79) hb); have n1_ := Aside0.mk (Kd.V_elder' (by (with_reducible repeat (first | apply Kd.V_alloc | apply Kd.V_drewN | apply Kd.V_drew)); exact HO1_1.out) (Kd.N_base ho79) hb); have n2_ := Aside0.mk (Kd.N_elder' (by (with_reducible repeat (first | apply Kd.N_alloc | apply Kd.N_drewN | apply Kd.N_drew)); exact HO1502.out) (Kd.N_base ho79) hb); have n3_ := Aside0.mk (Kd.N_lower ho79 (below_size (by repeat (first | (with_reducible first | exact HB.out | apply below_alloc | apply pw_below_drewN | apply below_drew1 | refine below_set ?_ GE1499.out) | exact HB.out)))); have n4_ := Aside0.mk (blk_below (g := gb1499) (o := .cells #[.slice A1_0 l1_0.length c1_0, .slice A1_1 l1_1.length c1_1] 90 (0, 0)) (by (with_reducible repeat (first | refine blk_drewN ?_ _ | refine blk_drew ?_ | refine blk_alloc ?_ _)); exact BK1499.out) hb); have n5_ := Aside0.mk (below_step (by repeat (first | (with_reducible first | exact HB.out | apply below_alloc | apply pw_below_drewN | apply below_drew1 | refine below_set ?_ GE1499.out) | exact HB.out)) hb); clear HO1_0; clear HO1_1; clear HO1502; clear BK1499; clear HB; have HO1_0 := n0_; have HO1_1 := n1_; have HO1502 := n2_; have HO1506 := n3_; have BK1499 := n4_; have HB := n5_; clear n0_ n1_ n2_ n3_ n4_ n5_; clear hb ho79; obtain ⟨Ao80, co80, eo80⟩ := Kd.N_slice HO1506.out; subst eo80) | (go_at_call 92; (with_reducible refine (juntoref02_Right.calls k a0 _ _ y1504 t1507 _ ?side1 ?side2 A5.out).mono ?_); (case side1 => repeat (first | exact (Kd.N_reads' HO1506.out).2.2 | (with_reducible refine Kd.C_alloc ?_ _) | (with_reducible refine Kd.C_drewN ?_ _) | (with_reducible refine Kd.C_drew ?_))); (case side2 => exact (Kd.N_reads' HO1506.out).2.1); rintro e w' ⟨rfl, ⟨nd, rfl⟩⟩; (try first | exact ⟨rfl, _, World.drewN_drewN _ _ _⟩ | exact ⟨rfl, _, Eq.trans (World.drewN_drewN _ _ _) (congrArg (World.drewN _) (Nat.add_assoc _ _ _))⟩)) | (go_at_call 104; (with_reducible refine (poly_Add.calls k a0 _ _ l1_0 _ _ l1_1 t1508 t1509 _ ?side1 ?side2 ?side3 ?side4 A6.out).mono ?_); (case side1 => repeat (first | exact (Kd.V_reads' HO1_0.out).2.2 | (with_reducible refine Kd.C_alloc ?_ _) | (with_reducible refine Kd.C_drewN ?_ _) | (with_reducible refine Kd.C_drew ?_))); (case side2 => exact (Kd.V_reads' HO1_0.out).2.1); (case side3 => repeat (first | exact (Kd.V_reads' HO1_1.out).2.2 | (with_reducible refine Kd.C_alloc ?_ _) | (with_reducible refine Kd.C_drewN ?_ _) | (with_reducible refine Kd.C_drew ?_))); (case side4 => exact (Kd.V_reads' HO1_1.out).2.1); rintro e w81 ⟨v1510, rfl, ho0, hb⟩; have n0_ := Aside0.mk (Kd.V_elder' (by (with_reducible repeat (first | apply Kd.V_alloc | apply Kd.V_drewN | apply Kd.V_drew)); exact HO1_0.out) (Kd.R_base ho0) hb); have n1_ := Aside0.mk (Kd.V_elder' (by (with_reducible repeat (first | apply Kd.V_alloc | apply Kd.V_drewN | apply Kd.V_drew)); exact HO1_1.out) (Kd.R_base ho0) hb); have n2_ := Aside0.mk (Kd.N_elder' (by (with_reducible repeat (first | apply Kd.N_alloc | apply Kd.N_drewN | apply Kd.N_drew)); exact HO1502.out) (Kd.R_base ho0) hb); have n3_ := Aside0.mk (Kd.N_elder' (by (with_reducible repeat (first | apply Kd.N_alloc | apply Kd.N_drewN | apply Kd.N_drew)); exact HO1506.out) (Kd.R_base ho0) hb); have n4_ := Aside0.mk (Kd.R_lower (Kd.R_newM (M := fun k_ => (w.heap.size ≤ k_)) ho0 (below_size (by repeat (first | (with_reducible first | exact HB.out | apply below_alloc | apply pw_below_drewN | apply below_drew1 | refine below_set ?_ GE1499.out) | exact HB.out))) (fun k_ h_ => h_)) (below_size (by repeat (first | (with_reducible first | exact HB.out | apply below_alloc | apply pw_below_drewN | apply below_drew1 | refine below_set ?_ GE1499.out) | exact HB.out)))); have n5_ := Aside0.mk (blk_below (g := gb1499) (o := .cells #[.slice A1_0 l1_0.length c1_0, .slice A1_1 l1_1.length c1_1] 90 (0, 0)) (by (with_reducible repeat (first | refine blk_drewN ?_ _ | refine blk_drew ?_ | refine blk_alloc ?_ _)); exact BK1499.out) hb); have n6_ := Aside0.mk (below_step (by repeat (first | (with_reducible first | exact HB.out | apply below_alloc | apply pw_below_drewN | apply below_drew1 | refine below_set ?_ GE1499.out) | exact HB.out)) hb); clear HO1_0; clear HO1_1; clear HO1502; clear HO1506; clear BK1499; clear HB; have HO1_0 := n0_; have HO1_1 := n1_; have HO1502 := n2_; have HO1506 := n3_; have HO1511 := n4_; have BK1499 := n5_; have HB := n6_; clear n0_ n1_ n2_ n3_ n4_ n5_ n6_; (try clear hb); (try clear hb2); (try clear hk); (try clear hi); (try clear ho0)) | (go_at_call 105; (with_reducible refine (poly_Sub.calls k a0 _ _ l1_0 _ _ l1_1 t1512 t1513 _ ?side1 ?side2 ?side3 ?side4 A7.out).mono ?_); (case side1 => repeat (first | exact (Kd.V_reads' HO1_0.out).2.2 | (with_reducible refine Kd.C_alloc ?_ _) | (with_reducible refine Kd.C_drewN ?_ _) | (with_reducible refine Kd.C_drew ?_))); (case side2 => exact (Kd.V_reads' HO1_0.out).2.1); (case side3 => repeat (first | exact (Kd.V_reads' HO1_1.out).2.2 | (with_reducible refine Kd.C_alloc ?_ _) | (with_reducible refine Kd.C_drewN ?_ _) | (with_reducible refine Kd.C_drew ?_))); (case side4 => exact (Kd.V_reads' HO1_1.out).2.1); rintro e w82 ⟨v1514, rfl, ho0, hb⟩; have n0_ := Aside0.mk (Kd.V_elder' (by (with_reducible repeat (first | apply Kd.V_alloc | apply Kd.V_drewN | apply Kd.V_drew)); exact HO1_0.out) (Kd.R_base ho0) hb); have n1_ := Aside0.mk (Kd.V_elder' (by (with_reducible repeat (first | apply Kd.V_alloc | apply Kd.V_drewN | apply Kd.V_drew)); exact HO1_1.out) (Kd.R_base ho0) hb); have n2_ := Aside0.mk (Kd.N_elder' (by (with_reducible repeat (first | apply Kd.N_alloc | apply Kd.N_drewN | apply Kd.N_drew)); exact HO1502.out) (Kd.R_base ho0) hb); have n3_ := Aside0.mk (Kd.N_elder' (by (with_reducible repeat (first | apply Kd.N_alloc | apply Kd.N_drewN | apply Kd.N_drew)); exact HO1506.out) (Kd.R_base ho0) hb); have n4_ := Aside0.mk (Kd.R_elder' (by (with_reducible repeat (first | apply Kd.R_alloc | apply Kd.R_drewN | apply Kd.R_drew)); exact HO1511.out) (Kd.R_base ho0) hb); have n5_ := Aside0.mk (Kd.R_lower (Kd.R_new' (Kd.R_newM (M := fun k_ => (w.heap.size ≤ k_)) ho0 (below_size (by repeat (first | (with_reducible first | exact HB.out | apply below_alloc | apply pw_below_drewN | apply below_drew1 | refine below_set ?_ GE1499.out) | exact HB.out))) (fun k_ h_ => h_)) (Kd.R_lt (by (with_reducible repeat (first | apply Kd.R_alloc | apply Kd.R_drewN | apply Kd.R_drew)); exact HO1511.out))) (below_size (by repeat (first | (with_reducible first | exact HB.out | apply below_alloc | apply pw_below_drewN | apply below_drew1 | refine below_set ?_ GE1499.out) | exact HB.out)))); have n6_ := Aside0.mk (blk_below (g := gb1499) (o := .cells #[.slice A1_0 l1_0.length c1_0, .slice A1_1 l1_1.length c1_1] 90 (0, 0)) (by (with_reducible repeat (first | refine blk_drewN ?_ _ | refine blk_drew ?_ | refine blk_alloc ?_ _)); exact BK1499.out) hb); have n7_ := Aside0.mk (below_step (by repeat (first | (with_reducible first | exact HB.out | apply below_alloc | apply pw_below_drewN | apply below_drew1 | refine below_set ?_ GE1499.out) | exact HB.out)) hb); clear HO1_0; clear HO1_1; clear HO1502; clear HO1506; clear HO1511; clear BK1499; clear HB; have HO1_0 := n0_; have HO1_1 := n1_; have HO1502 := n2_; have HO1506 := n3_; have HO1511 := n4_; have HO1515 := n5_; have BK1499 := n6_; have HB := n7_; clear n0_ n1_ n2_ n3_ n4_ n5_ n6_ n7_; (try clear hb); (try clear hb2); (try clear hk); (try clear hi); (try clear ho0)) | (go_at_call 106; (with_reducible refine (poly_Scale.calls k a0 (fun k_ => (((((((P1_0_ k_ ∨ P1_1_ k_) ∨ w.heap.size ≤ k_) ∧ k_ ≠ gb1499) ∧ some k_ ≠ (.slice Ao77 y1500.length co77 : Value).ownBlock) ∧ some k_ ≠ (.slice Ao80 y1504.length co80 : Value).ownBlock) ∧ some k_ ≠ (v1510 : Value).ownBlock) ∧ some k_ ≠ (v1514 : Value).ownBlock)) _ _ l1_0 a2 t1516 t1519 _ ?side1 A8.out).mono ?_); (case side1 => exact HO1_0.out); rintro e w83 ⟨v1517, rfl, ho0, hb⟩; have n0_ := Aside0.mk (Kd.V_elder' (by (with_reducible repeat (first | apply Kd.V_alloc | apply Kd.V_drewN | apply Kd.V_drew)); exact HO1_0.out) (Kd.R_base ho0) hb); have n1_ := Aside0.mk (Kd.V_elder' (by (with_reducible repeat (first | apply Kd.V_alloc | apply Kd.V_drewN | apply Kd.V_drew)); exact HO1_1.out) (Kd.R_base ho0) hb); have n2_ := Aside0.mk (Kd.N_elder' (by (with_reducible repeat (first | apply Kd.N_alloc | apply Kd.N_drewN | apply Kd.N_drew)); exact HO1502.out) (Kd.R_base ho0) hb); have n3_ := Aside0.mk (Kd.N_elder' (by (with_reducible repeat (first | apply Kd.N_alloc | apply Kd.N_drewN | apply Kd.N_drew)); exact HO1506.out) (Kd.R_base ho0) hb); have n4_ := Aside0.mk (Kd.R_elder' (by (with_reducible repeat (first | apply Kd.R_alloc | apply Kd.R_drewN | apply Kd.R_drew)); exact HO1511.out) (Kd.R_base ho0) hb); have n5_ := Aside0.mk (Kd.R_elder' (by (with_reducible repeat (first | apply Kd.R_alloc | apply Kd.R_drewN | apply Kd.R_drew)); exact HO1515.out) (Kd.R_base ho0) hb); have n6_ := Aside0.mk (Kd.R_lower (Kd.R_new' (Kd.R_new' (Kd.R_newM (M := fun k_ => (w.heap.size ≤ k_)) (Kd.R_mono (ok' := fun k_ => True) ho0 (fun _ hk_ => trivial)) (below_size (by repeat (first | (with_reducible first | exact HB.out | apply below_alloc | apply pw_below_drewN | apply below_drew1 | refine below_set ?_ GE1499.out) | exact HB.out))) (fun k_ h_ => h_)) (Kd.R_lt (by (with_reducible repeat (first | apply Kd.R_alloc | apply Kd.R_drewN | apply Kd.R_drew)); exact HO1511.out))) (Kd.R_lt (by (with_reducible repeat (first | apply Kd.R_alloc | apply Kd.R_drewN | apply Kd.R_drew)); exact HO1515.out))) (below_size (by repeat (first | (with_reducible first | exact HB.out | apply below_alloc | apply pw_below_drewN | apply below_drew1 | refine below_set ?_ GE1499.out) | exact HB.out)))); have n7_ := Aside0.mk (blk_below (g := gb1499) (o := .cells #[.slice A1_0 l1_0.length c1_0, .slice A1_1 l1_1.length c1_1] 90 (0, 0)) (by (with_reducible repeat (first | refine blk_drewN ?_ _ | refine blk_drew ?_ | refine blk_alloc ?_ _)); exact BK1499.out) hb); have n8_ := Aside0.mk (below_step (by repeat (first | (with_reducible first | exact HB.out | apply below_alloc | apply pw_below_drewN | apply below_drew1 | refine below_set ?_ GE1499.out) | exact HB.out)) hb); clear HO1_0; clear HO1_1; clear HO1502; clear HO1506; clear HO1511; clear HO1515; clear BK1499; clear HB; have HO1_0 := n0_; have HO1_1 := n1_; have HO1502 := n2_; have HO1506 := n3_; have HO1511 := n4_; have HO1515 := n5_; have HO1518 := n6_; have BK1499 := n7_; have HB := n8_; clear n0_ n1_ n2_ n3_ n4_ n5_ n6_ n7_ n8_; (try clear hb); (try clear hb2); (try clear hk); (try clear hi); (try clear ho0); obtain ⟨Ao84, co84, eo84⟩ := Kd.R_slice HO1511.out; subst eo84) | (go_at_call 94; (with_reducible show Calls Try.prog 94 #[.slice _ t1508.length _, .int .i64 t1509, _, .int .i64 t1507] _ _); (refine (juntolaw02_is.calls k _ _ t1508 t1509 _ _ ([] : List Int) t1507 true _ ?side1 ?side2 ?side3 ?side4 A66.out).mono ?_); (case side1 => repeat (first | exact (Kd.R_reads' HO1511.out).2.2 | (with_reducible refine Kd.C_alloc ?_ _) | (with_reducible refine Kd.C_drewN ?_ _) | (with_reducible refine Kd.C_drew ?_))); (case side2 => exact (Kd.R_reads' HO1511.out).2.1); (case side3 => exact Kd.C_nil _ _); (case side4 => exact Nat.le_refl _); rintro e w' ⟨rfl, ⟨nd, rfl⟩⟩; (try first | exact ⟨rfl, _, World.drewN_drewN _ _ _⟩ | exact ⟨rfl, _, Eq.trans (World.drewN_drewN _ _ _) (congrArg (World.drewN _) (Nat.add_assoc _ _ _))⟩); obtain ⟨Ao85, co85, eo85⟩ := Kd.R_slice HO1515.out; subst eo85) | (go_at_call 94; (with_reducible show Calls Try.prog 94 #[.slice _ t1512.length _, .int .i64 t1513, _, .int .i64 t1507] _ _); (refine (juntolaw02_is.calls k _ _ t1512 t1513 _ _ ([] : List Int) t1507 true _ ?side1 ?side2 ?side3 ?side4 A68.out).mono ?_); (case side1 => repeat (first | exact (Kd.R_reads' HO1515.out).2.2 | (with_reducible refine Kd.C_alloc ?_ _) | (with_reducible refine Kd.C_drewN ?_ _) | (with_reducible refine Kd.C_drew ?_))); (case side2 => exact (Kd.R_reads' HO1515.out).2.1); (case side3 => exact Kd.C_nil _ _); (case side4 => exact Nat.le_refl _); rintro e w' ⟨rfl, ⟨nd, rfl⟩⟩; (try first | exact ⟨rfl, _, World.drewN_drewN _ _ _⟩ | exact ⟨rfl, _, Eq.trans (World.drewN_drewN _ _ _) (congrArg (World.drewN _) (Nat.add_assoc _ _ _))⟩); obtain ⟨Ao86, co86, eo86⟩ := Kd.R_slice HO1518.out; subst eo86) | (go_at_call 94; (with_reducible show Calls Try.prog 94 #[.slice _ t1516.length _, .int .i64 t1519, _, .int .i64 t1507] _ _); (refine (juntolaw02_is.calls k _ _ t1516 t1519 _ _ ([] : List Int) t1507 true _ ?side1 ?side2 ?side3 ?side4 A70.out).mono ?_); (case side1 => repeat (first | exact (Kd.R_reads' HO1518.out).2.2 | (with_reducible refine Kd.C_alloc ?_ _) | (with_reducible refine Kd.C_drewN ?_ _) | (with_reducible refine Kd.C_drew ?_))); (case side2 => exact (Kd.R_reads' HO1518.out).2.1); (case side3 => exact Kd.C_nil _ _); (case side4 => exact Nat.le_refl _); rintro e w' ⟨rfl, ⟨nd, rfl⟩⟩; (try first | exact ⟨rfl, _, World.drewN_drewN _ _ _⟩ | exact ⟨rfl, _, Eq.trans (World.drewN_drewN _ _ _) (congrArg (World.drewN _) (Nat.add_assoc _ _ _))⟩)) | (go_at_call 95; (with_reducible refine (juntolaw02_alive.calls k  t1523 _ A72.out (by first | rfl | exact HRT.out)).mono ?_); rintro e w87 ⟨rfl, hb⟩; have n0_ := Aside0.mk (Kd.V_below (by (with_reducible repeat (first | apply Kd.V_alloc | apply Kd.V_drewN | apply Kd.V_drew)); exact HO1_0.out) hb); have n1_ := Aside0.mk (Kd.V_below (by (with_reducible repeat (first | apply Kd.V_alloc | apply Kd.V_drewN | apply Kd.V_drew)); exact HO1_1.out) hb); have n2_ := Aside0.mk (Kd.N_below (by (with_reducible repeat (first | apply Kd.N_alloc | apply Kd.N_drewN | apply Kd.N_drew)); exact HO1502.out) hb); have n3_ := Aside0.mk (Kd.N_below (by (with_reducible repeat (first | apply Kd.N_alloc | apply Kd.N_drewN | apply Kd.N_drew)); exact HO1506.out) hb); have n4_ := Aside0.mk (Kd.R_below (by (with_reducible repeat (first | apply Kd.R_alloc | apply Kd.R_drewN | apply Kd.R_drew)); exact HO1511.out) hb); have n5_ := Aside0.mk (Kd.R_below (by (with_reducible repeat (first | apply Kd.R_alloc | apply Kd.R_drewN | apply Kd.R_drew)); exact HO1515.out) hb); have n6_ := Aside0.mk (Kd.R_below (by (with_reducible repeat (first | apply Kd.R_alloc | apply Kd.R_drewN | apply Kd.R_drew)); exact HO1518.out) hb); have n7_ := Aside0.mk (blk_below (g := gb1499) (o := .cells #[.slice A1_0 l1_0.length c1_0, .slice A1_1 l1_1.length c1_1] 90 (0, 0)) (by (with_reducible repeat (first | refine blk_drewN ?_ _ | refine blk_drew ?_ | refine blk_alloc ?_ _)); exact BK1499.out) hb); have n8_ := Aside0.mk (below_step (by repeat (first | (with_reducible first | exact HB.out | apply below_alloc | apply pw_below_drewN | apply below_drew1 | refine below_set ?_ GE1499.out) | exact HB.out)) hb); clear HO1_0; clear HO1_1; clear HO1502; clear HO1506; clear HO1511; clear HO1515; clear HO1518; clear BK1499; clear HB; have HO1_0 := n0_; have HO1_1 := n1_; have HO1502 := n2_; have HO1506 := n3_; have HO1511 := n4_; have HO1515 := n5_; have HO1518 := n6_; have BK1499 := n7_; have HB := n8_; clear n0_ n1_ n2_ n3_ n4_ n5_ n6_ n7_ n8_; (try clear hb); (try clear hb2); (try clear hk); (try clear hi)))
  repeat (go_quiet (first | ((with_reducible refine gate_dst (N := 4) rfl ?_); refine box_event ?hg (N := 4) ?hd (cs := #[.slice A1_0 l1_0.length c1_0, .slice A1_1 l1_1.length c1_1]) (t := 90) ?hr ?_; (case hd => rfl); (case hg => rfl); (case hr => first | (go_simp; done) | (go_simp; rfl)); intro gb1499 hg w73 hbox hb; have n0_ := Aside0.mk (Kd.V_below (Kd.V_elderB (by (with_reducible repeat (first | apply Kd.V_alloc | apply Kd.V_drewN | apply Kd.V_drew)); exact HO1_0.out) gb1499 (Nat.le_of_eq hg.symm)) hb); have n1_ := Aside0.mk (Kd.V_below (Kd.V_elderB (by (with_reducible repeat (first | apply Kd.V_alloc | apply Kd.V_drewN | apply Kd.V_drew)); exact HO1_1.out) gb1499 (Nat.le_of_eq hg.symm)) hb); have n2_ := Aside0.mk (below_step (by repeat (first | (with_reducible first | exact HB.out | apply below_alloc | apply pw_below_drewN | apply below_drew1) | exact HB.out)) hb); have n3_ := Aside0.mk (hbox); have n4_ := Aside0.mk ((by rw [hg]; exact (below_size (by repeat (first | (with_reducible first | exact HB.out | apply below_alloc | apply pw_below_drewN | apply below_drew1) | exact HB.out))) : w.heap.size ≤ gb1499)); have n5_ := Aside0.mk ((by rw [hg]; exact (below_size (by repeat (first | (with_reducible first | exact HB.out | apply below_alloc | apply pw_below_drewN | apply below_drew1) | exact HB.out))) : w.heap.size ≤ gb1499)); clear HO1_0; clear HO1_1; clear HB; have HO1_0 := n0_; have HO1_1 := n1_; have HB := n2_; have BK1499 := n3_; have GW1499 := n4_; have GE1499 := n5_; clear n0_ n1_ n2_ n3_ n4_ n5_; clear hb hbox hg; have hcz74_0 : w73.cell? ⟨gb1499, 0, none⟩ = some (.slice A1_0 l1_0.length c1_0) := (blk_cell BK1499.out 0).trans rfl; have hcz74_1 : w73.cell? ⟨gb1499, 1, none⟩ = some (.slice A1_1 l1_1.length c1_1) := (blk_cell BK1499.out 1).trans rfl; have hfz74_0 := blk_frozen BK1499.out 0; have hfz74_1 := blk_frozen BK1499.out 1) | ((with_reducible refine gate_dst (N := 24) rfl ?_); refine Kd.N_lit (Kd.slice 22 (Kd.int .u64)) _ 31 ?hg (N' := 24) ?hd (xs := ([l1_0, l1_1] : List (List Int))) (inner := [.slice A1_0 l1_0.length c1_0, .slice A1_1 l1_1.length c1_1]) (ok := (fun k_ => ((P1_0_ k_ ∨ P1_1_ k_) ∨ w.heap.size ≤ k_) ∧ k_ ≠ gb1499)) (okp := (fun k_ => ((P1_0_ k_ ∨ P1_1_ k_) ∨ w.heap.size ≤ k_) ∧ k_ ≠ gb1499)) ?hr ?hp (fun _ hk => hk) ((show ∀ k_, w73.heap.size ≤ k_ → (fun k_ => ((P1_0_ k_ ∨ P1_1_ k_) ∨ w.heap.size ≤ k_) ∧ k_ ≠ gb1499) k_ from fun k_ hk => ⟨(.inr (Nat.le_trans (below_size (by repeat (first | (with_reducible first | exact HB.out | apply below_alloc | apply pw_below_drewN | apply below_drew1 | refine below_set ?_ GE1499.out) | exact HB.out))) hk)), Kd.freshB (g := gb1499) (o := .cells #[.slice A1_0 l1_0.length c1_0, .slice A1_1 l1_1.length c1_1] 90 (0, 0)) (by (with_reducible repeat (first | refine blk_drewN ?_ _ | refine blk_drew ?_ | refine blk_alloc ?_ _)); exact BK1499.out) k_ hk⟩) _ (Nat.le_refl _)) (Below.refl _ _) (Nat.le_refl _) (by simp) ?_; (case hd => rfl); (case hg => rfl); (case hr => first | (go_simp; done) | (go_simp; rfl)); (case hp => exact (Reps.one (show Kd.FK (Kd.slice 22 (Kd.int .u64)) _ _ l1_0 [.slice A1_0 l1_0.length c1_0] from (Kd.FK_slice_mk (Kd.V_reads' (Kd.V_mono (ok' := (fun k_ => ((P1_0_ k_ ∨ P1_1_ k_) ∨ w.heap.size ≤ k_) ∧ k_ ≠ gb1499)) (HO1_0.out) (fun k_ hk => ⟨hk.1, hk.2⟩))).2.1 (Kd.V_F (by first | exact (Kd.V_mono (ok' := (fun k_ => ((P1_0_ k_ ∨ P1_1_ k_) ∨ w.heap.size ≤ k_) ∧ k_ ≠ gb1499)) (HO1_0.out) (fun k_ hk => ⟨hk.1, hk.2⟩)) | exact Kd.V_drewN (Kd.V_mono (ok' := (fun k_ => ((P1_0_ k_ ∨ P1_1_ k_) ∨ w.heap.size ≤ k_) ∧ k_ ≠ gb1499)) (HO1_0.out) (fun k_ hk => ⟨hk.1, hk.2⟩)) _)))) (Reps.one (show Kd.FK (Kd.slice 22 (Kd.int .u64)) _ _ l1_1 [.slice A1_1 l1_1.length c1_1] from (Kd.FK_slice_mk (Kd.V_reads' (Kd.V_mono (ok' := (fun k_ => ((P1_0_ k_ ∨ P1_1_ k_) ∨ w.heap.size ≤ k_) ∧ k_ ≠ gb1499)) (HO1_1.out) (fun k_ hk => ⟨hk.1, hk.2⟩))).2.1 (Kd.V_F (by first | exact (Kd.V_mono (ok' := (fun k_ => ((P1_0_ k_ ∨ P1_1_ k_) ∨ w.heap.size ≤ k_) ∧ k_ ≠ gb1499)) (HO1_1.out) (fun k_ hk => ⟨hk.1, hk.2⟩)) | exact Kd.V_drewN (Kd.V_mono (ok' := (fun k_ => ((P1_0_ k_ ∨ P1_1_ k_) ∨ w.heap.size ≤ k_) ∧ k_ ≠ gb1499)) (HO1_1.out) (fun k_ hk => ⟨hk.1, hk.2⟩)) _)))) (Reps.none _ _)))); intro v1501 w75 ho76 hb hg_ hnew_; clear hg_ hnew_; (first | rw [← Ny1500.out] at ho76 | (simp only [Int.reduceToNat] at ho76; rw [← Ny1500.out] at ho76)); have n0_ := Aside0.mk (Kd.V_elder' (by (with_reducible repeat (first | apply Kd.V_alloc | apply Kd.V_drewN | apply Kd.V_drew)); exact HO1_0.out) (Kd.N_base ho76) hb); have n1_ := Aside0.mk (Kd.V_elder' (by (with_reducible repeat (first | apply Kd.V_alloc | apply Kd.V_drewN | apply Kd.V_drew)); exact HO1_1.out) (Kd.N_base ho76) hb); have n2_ := Aside0.mk (Kd.N_lower ho76 (below_size (by repeat (first | (with_reducible first | exact HB.out | apply below_alloc | apply pw_below_drewN | apply below_drew1 | refine below_set ?_ GE1499.out) | exact HB.out)))); have n3_ := Aside0.mk (blk_below (g := gb1499) (o := .cells #[.slice A1_0 l1_0.length c1_0, .slice A1_1 l1_1.length c1_1] 90 (0, 0)) (by (with_reducible repeat (first | refine blk_drewN ?_ _ | refine blk_drew ?_ | refine blk_alloc ?_ _)); exact BK1499.out) hb); have n4_ := Aside0.mk (below_step (by repeat (first | (with_reducible first | exact HB.out | apply below_alloc | apply pw_below_drewN | apply below_drew1 | refine below_set ?_ GE1499.out) | exact HB.out)) hb); clear HO1_0; clear HO1_1; clear BK1499; clear HB; have HO1_0 := n0_; have HO1_1 := n1_; have HO1502 := n2_; have BK1499 := n3_; have HB := n4_; clear n0_ n1_ n2_ n3_ n4_; clear hb ho76; obtain ⟨Ao77, co77, eo77⟩ := Kd.N_slice HO1502.out; subst eo77) | (go_at_call 92; (with_reducible refine (juntoref02_Right.calls k a0 _ _ y1500 t1503 _ ?side1 ?side2 A4.out).mono ?_); (case side1 => repeat (first | exact (Kd.N_reads' HO1502.out).2.2 | (with_reducible refine Kd.C_alloc ?_ _) | (with_reducible refine Kd.C_drewN ?_ _) | (with_reducible refine Kd.C_drew ?_))); (case side2 => exact (Kd.N_reads' HO1502.out).2.1); rintro e w' ⟨rfl, ⟨nd, rfl⟩⟩; (try first | exact ⟨rfl, _, World.drewN_drewN _ _ _⟩ | exact ⟨rfl, _, Eq.trans (World.drewN_drewN _ _ _) (congrArg (World.drewN _) (Nat.add_assoc _ _ _))⟩)) | ((with_reducible refine gate_dst (N := 28) rfl ?_); refine Kd.N_lit (Kd.slice 22 (Kd.int .u64)) _ 31 ?hg (N' := 28) ?hd (xs := ([l1_0] : List (List Int))) (inner := [.slice A1_0 l1_0.length c1_0]) (ok := (fun k_ => ((P1_0_ k_ ∨ P1_1_ k_) ∨ w.heap.size ≤ k_) ∧ some k_ ≠ (.slice Ao77 y1500.length co77 : Value).ownBlock ∧ k_ ≠ gb1499)) (okp := (fun k_ => ((P1_0_ k_ ∨ P1_1_ k_) ∨ w.heap.size ≤ k_) ∧ some k_ ≠ (.slice Ao77 y1500.length co77 : Value).ownBlock ∧ k_ ≠ gb1499)) ?hr ?hp (fun _ hk => hk) ((show ∀ k_, w75.heap.size ≤ k_ → (fun k_ => ((P1_0_ k_ ∨ P1_1_ k_) ∨ w.heap.size ≤ k_) ∧ some k_ ≠ (.slice Ao77 y1500.length co77 : Value).ownBlock ∧ k_ ≠ gb1499) k_ from fun k_ hk => ⟨(.inr (Nat.le_trans (below_size (by repeat (first | (with_reducible first | exact HB.out | apply below_alloc | apply pw_below_drewN | apply below_drew1 | refine below_set ?_ GE1499.out) | exact HB.out))) hk)), Kd.fresh' (Kd.N_lt (by (with_reducible repeat (first | apply Kd.N_alloc | apply Kd.N_drewN | apply Kd.N_drew)); exact HO1502.out)) k_ hk, Kd.freshB (g := gb1499) (o := .cells #[.slice A1_0 l1_0.length c1_0, .slice A1_1 l1_1.length c1_1] 90 (0, 0)) (by (with_reducible repeat (first | refine blk_drewN ?_ _ | refine blk_drew ?_ | refine blk_alloc ?_ _)); exact BK1499.out) k_ hk⟩) _ (Nat.le_refl _)) (Below.refl _ _) (Nat.le_refl _) (by simp) ?_; (case hd => rfl); (case hg => rfl); (case hr => first | (go_simp; done) | (go_simp; rfl)); (case hp => exact (Reps.one (show Kd.FK (Kd.slice 22 (Kd.int .u64)) _ _ l1_0 [.slice A1_0 l1_0.length c1_0] from (Kd.FK_slice_mk (Kd.V_reads' (Kd.V_mono (ok' := (fun k_ => ((P1_0_ k_ ∨ P1_1_ k_) ∨ w.heap.size ≤ k_) ∧ some k_ ≠ (.slice Ao77 y1500.length co77 : Value).ownBlock ∧ k_ ≠ gb1499)) (HO1_0.out) (fun k_ hk => ⟨hk.1.1, ⟨hk.2, hk.1.2⟩⟩))).2.1 (Kd.V_F (by first | exact (Kd.V_mono (ok' := (fun k_ => ((P1_0_ k_ ∨ P1_1_ k_) ∨ w.heap.size ≤ k_) ∧ some k_ ≠ (.slice Ao77 y1500.length co77 : Value).ownBlock ∧ k_ ≠ gb1499)) (HO1_0.out) (fun k_ hk => ⟨hk.1.1, ⟨hk.2, hk.1.2⟩⟩)) | exact Kd.V_drewN (Kd.V_mono (ok' := (fun k_ => ((P1_0_ k_ ∨ P1_1_ k_) ∨ w.heap.size ≤ k_) ∧ some k_ ≠ (.slice Ao77 y1500.length co77 : Value).ownBlock ∧ k_ ≠ gb1499)) (HO1_0.out) (fun k_ hk => ⟨hk.1.1, ⟨hk.2, hk.1.2⟩⟩)) _)))) (Reps.none _ _))); intro v1505 w78 ho79 hb hg_ hnew_; clear hg_ hnew_; (first | rw [← Ny1504.out] at ho79 | (simp only [Int.reduceToNat] at ho79; rw [← Ny1504.out] at ho79)); have n0_ := Aside0.mk (Kd.V_elder' (by (with_reducible repeat (first | apply Kd.V_alloc | apply Kd.V_drewN | apply Kd.V_drew)); exact HO1_0.out) (Kd.N_base ho79) hb); have n1_ := Aside0.mk (Kd.V_elder' (by (with_reducible repeat (first | apply Kd.V_alloc | apply Kd.V_drewN | apply Kd.V_drew)); exact HO1_1.out) (Kd.N_base ho79) hb); have n2_ := Aside0.mk (Kd.N_elder' (by (with_reducible repeat (first | apply Kd.N_alloc | apply Kd.N_drewN | apply Kd.N_drew)); exact HO1502.out) (Kd.N_base ho79) hb); have n3_ := Aside0.mk (Kd.N_lower ho79 (below_size (by repeat (first | (with_reducible first | exact HB.out | apply below_alloc | apply pw_below_drewN | apply below_drew1 | refine below_set ?_ GE1499.out) | exact HB.out)))); have n4_ := Aside0.mk (blk_below (g := gb1499) (o := .cells #[.slice A1_0 l1_0.length c1_0, .slice A1_1 l1_1.length c1_1] 90 (0, 0)) (by (with_reducible repeat (first | refine blk_drewN ?_ _ | refine blk_drew ?_ | refine blk_alloc ?_ _)); exact BK1499.out) hb); have n5_ := Aside0.mk (below_step (by repeat (first | (with_reducible first | exact HB.out | apply below_alloc | apply pw_below_drewN | apply below_drew1 | refine below_set ?_ GE1499.out) | exact HB.out)) hb); clear HO1_0; clear HO1_1; clear HO1502; clear BK1499; clear HB; have HO1_0 := n0_; have HO1_1 := n1_; have HO1502 := n2_; have HO1506 := n3_; have BK1499 := n4_; have HB := n5_; clear n0_ n1_ n2_ n3_ n4_ n5_; clear hb ho79; obtain ⟨Ao80, co80, eo80⟩ := Kd.N_slice HO1506.out; subst eo80) | (go_at_call 92; (with_reducible refine (juntoref02_Right.calls k a0 _ _ y1504 t1507 _ ?side1 ?side2 A5.out).mono ?_); (case side1 => repeat (first | exact (Kd.N_reads' HO1506.out).2.2 | (with_reducible refine Kd.C_alloc ?_ _) | (with_reducible refine Kd.C_drewN ?_ _) | (with_reducible refine Kd.C_drew ?_))); (case side2 => exact (Kd.N_reads' HO1506.out).2.1); rintro e w' ⟨rfl, ⟨nd, rfl⟩⟩; (try first | exact ⟨rfl, _, World.drewN_drewN _ _ _⟩ | exact ⟨rfl, _, Eq.trans (World.drewN_drewN _ _ _) (congrArg (World.drewN _) (Nat.add_assoc _ _ _))⟩)) | (go_at_call 104; (with_reducible refine (poly_Add.calls k a0 _ _ l1_0 _ _ l1_1 t1508 t1509 _ ?side1 ?side2 ?side3 ?side4 A6.out).mono ?_); (case side1 => repeat (first | exact (Kd.V_reads' HO1_0.out).2.2 | (with_reducible refine Kd.C_alloc ?_ _) | (with_reducible refine Kd.C_drewN ?_ _) | (with_reducible refine Kd.C_drew ?_))); (case side2 => exact (Kd.V_reads' HO1_0.out).2.1); (case side3 => repeat (first | exact (Kd.V_reads' HO1_1.out).2.2 | (with_reducible refine Kd.C_alloc ?_ _) | (with_reducible refine Kd.C_drewN ?_ _) | (with_reducible refine Kd.C_drew ?_))); (case side4 => exact (Kd.V_reads' HO1_1.out).2.1); rintro e w81 ⟨v1510, rfl, ho0, hb⟩; have n0_ := Aside0.mk (Kd.V_elder' (by (with_reducible repeat (first | apply Kd.V_alloc | apply Kd.V_drewN | apply Kd.V_drew)); exact HO1_0.out) (Kd.R_base ho0) hb); have n1_ := Aside0.mk (Kd.V_elder' (by (with_reducible repeat (first | apply Kd.V_alloc | apply Kd.V_drewN | apply Kd.V_drew)); exact HO1_1.out) (Kd.R_base ho0) hb); have n2_ := Aside0.mk (Kd.N_elder' (by (with_reducible repeat (first | apply Kd.N_alloc | apply Kd.N_drewN | apply Kd.N_drew)); exact HO1502.out) (Kd.R_base ho0) hb); have n3_ := Aside0.mk (Kd.N_elder' (by (with_reducible repeat (first | apply Kd.N_alloc | apply Kd.N_drewN | apply Kd.N_drew)); exact HO1506.out) (Kd.R_base ho0) hb); have n4_ := Aside0.mk (Kd.R_lower (Kd.R_newM (M := fun k_ => (w.heap.size ≤ k_)) ho0 (below_size (by repeat (first | (with_reducible first | exact HB.out | apply below_alloc | apply pw_below_drewN | apply below_drew1 | refine below_set ?_ GE1499.out) | exact HB.out))) (fun k_ h_ => h_)) (below_size (by repeat (first | (with_reducible first | exact HB.out | apply below_alloc | apply pw_below_drewN | apply below_drew1 | refine below_set ?_ GE1499.out) | exact HB.out)))); have n5_ := Aside0.mk (blk_below (g := gb1499) (o := .cells #[.slice A1_0 l1_0.length c1_0, .slice A1_1 l1_1.length c1_1] 90 (0, 0)) (by (with_reducible repeat (first | refine blk_drewN ?_ _ | refine blk_drew ?_ | refine blk_alloc ?_ _)); exact BK1499.out) hb); have n6_ := Aside0.mk (below_step (by repeat (first | (with_reducible first | exact HB.out | apply below_alloc | apply pw_below_drewN | apply below_drew1 | refine below_set ?_ GE1499.out) | exact HB.out)) hb); clear HO1_0; clear HO1_1; clear HO1502; clear HO1506; clear BK1499; clear HB; have HO1_0 := n0_; have HO1_1 := n1_; have HO1502 := n2_; have HO1506 := n3_; have HO1511 := n4_; have BK1499 := n5_; have HB := n6_; clear n0_ n1_ n2_ n3_ n4_ n5_ n6_; (try clear hb); (try clear hb2); (try clear hk); (try clear hi); (try clear ho0)) | (go_at_call 105; (with_reducible refine (poly_Sub.calls k a0 _ _ l1_0 _ _ l1_1 t1512 t1513 _ ?side1 ?side2 ?side3 ?side4 A7.out).mono ?_); (case side1 => repeat (first | exact (Kd.V_reads' HO1_0.out).2.2 | (with_reducible refine Kd.C_alloc ?_ _) | (with_reducible refine Kd.C_drewN ?_ _) | (with_reducible refine Kd.C_drew ?_))); (case side2 => exact (Kd.V_reads' HO1_0.out).2.1); (case side3 => repeat (first | exact (Kd.V_reads' HO1_1.out).2.2 | (with_reducible refine Kd.C_alloc ?_ _) | (with_reducible refine Kd.C_drewN ?_ _) | (with_reducible refine Kd.C_drew ?_))); (case side4 => exact (Kd.V_reads' HO1_1.out).2.1); rintro e w82 ⟨v1514, rfl, ho0, hb⟩; have n0_ := Aside0.mk (Kd.V_elder' (by (with_reducible repeat (first | apply Kd.V_alloc | apply Kd.V_drewN | apply Kd.V_drew)); exact HO1_0.out) (Kd.R_base ho0) hb); have n1_ := Aside0.mk (Kd.V_elder' (by (with_reducible repeat (first | apply Kd.V_alloc | apply Kd.V_drewN | apply Kd.V_drew)); exact HO1_1.out) (Kd.R_base ho0) hb); have n2_ := Aside0.mk (Kd.N_elder' (by (with_reducible repeat (first | apply Kd.N_alloc | apply Kd.N_drewN | apply Kd.N_drew)); exact HO1502.out) (Kd.R_base ho0) hb); have n3_ := Aside0.mk (Kd.N_elder' (by (with_reducible repeat (first | apply Kd.N_alloc | apply Kd.N_drewN | apply Kd.N_drew)); exact HO1506.out) (Kd.R_base ho0) hb); have n4_ := Aside0.mk (Kd.R_elder' (by (with_reducible repeat (first | apply Kd.R_alloc | apply Kd.R_drewN | apply Kd.R_drew)); exact HO1511.out) (Kd.R_base ho0) hb); have n5_ := Aside0.mk (Kd.R_lower (Kd.R_new' (Kd.R_newM (M := fun k_ => (w.heap.size ≤ k_)) ho0 (below_size (by repeat (first | (with_reducible first | exact HB.out | apply below_alloc | apply pw_below_drewN | apply below_drew1 | refine below_set ?_ GE1499.out) | exact HB.out))) (fun k_ h_ => h_)) (Kd.R_lt (by (with_reducible repeat (first | apply Kd.R_alloc | apply Kd.R_drewN | apply Kd.R_drew)); exact HO1511.out))) (below_size (by repeat (first | (with_reducible first | exact HB.out | apply below_alloc | apply pw_below_drewN | apply below_drew1 | refine below_set ?_ GE1499.out) | exact HB.out)))); have n6_ := Aside0.mk (blk_below (g := gb1499) (o := .cells #[.slice A1_0 l1_0.length c1_0, .slice A1_1 l1_1.length c1_1] 90 (0, 0)) (by (with_reducible repeat (first | refine blk_drewN ?_ _ | refine blk_drew ?_ | refine blk_alloc ?_ _)); exact BK1499.out) hb); have n7_ := Aside0.mk (below_step (by repeat (first | (with_reducible first | exact HB.out | apply below_alloc | apply pw_below_drewN | apply below_drew1 | refine below_set ?_ GE1499.out) | exact HB.out)) hb); clear HO1_0; clear HO1_1; clear HO1502; clear HO1506; clear HO1511; clear BK1499; clear HB; have HO1_0 := n0_; have HO1_1 := n1_; have HO1502 := n2_; have HO1506 := n3_; have HO1511 := n4_; have HO1515 := n5_; have BK1499 := n6_; have HB := n7_; clear n0_ n1_ n2_ n3_ n4_ n5_ n6_ n7_; (try clear hb); (try clear hb2); (try clear hk); (try clear hi); (try clear ho0)) | (go_at_call 106; (with_reducible refine (poly_Scale.calls k a0 (fun k_ => (((((((P1_0_ k_ ∨ P1_1_ k_) ∨ w.heap.size ≤ k_) ∧ k_ ≠ gb1499) ∧ some k_ ≠ (.slice Ao77 y1500.length co77 : Value).ownBlock) ∧ some k_ ≠ (.slice Ao80 y1504.length co80 : Value).ownBlock) ∧ some k_ ≠ (v1510 : Value).ownBlock) ∧ some k_ ≠ (v1514 : Value).ownBlock)) _ _ l1_0 a2 t1516 t1519 _ ?side1 A8.out).mono ?_); (case side1 => exact HO1_0.out); rintro e w83 ⟨v1517, rfl, ho0, hb⟩; have n0_ := Aside0.mk (Kd.V_elder' (by (with_reducible repeat (first | apply Kd.V_alloc | apply Kd.V_drewN | apply Kd.V_drew)); exact HO1_0.out) (Kd.R_base ho0) hb); have n1_ := Aside0.mk (Kd.V_elder' (by (with_reducible repeat (first | apply Kd.V_alloc | apply Kd.V_drewN | apply Kd.V_drew)); exact HO1_1.out) (Kd.R_base ho0) hb); have n2_ := Aside0.mk (Kd.N_elder' (by (with_reducible repeat (first | apply Kd.N_alloc | apply Kd.N_drewN | apply Kd.N_drew)); exact HO1502.out) (Kd.R_base ho0) hb); have n3_ := Aside0.mk (Kd.N_elder' (by (with_reducible repeat (first | apply Kd.N_alloc | apply Kd.N_drewN | apply Kd.N_drew)); exact HO1506.out) (Kd.R_base ho0) hb); have n4_ := Aside0.mk (Kd.R_elder' (by (with_reducible repeat (first | apply Kd.R_alloc | apply Kd.R_drewN | apply Kd.R_drew)); exact HO1511.out) (Kd.R_base ho0) hb); have n5_ := Aside0.mk (Kd.R_elder' (by (with_reducible repeat (first | apply Kd.R_alloc | apply Kd.R_drewN | apply Kd.R_drew)); exact HO1515.out) (Kd.R_base ho0) hb); have n6_ := Aside0.mk (Kd.R_lower (Kd.R_new' (Kd.R_new' (Kd.R_newM (M := fun k_ => (w.heap.size ≤ k_)) (Kd.R_mono (ok' := fun k_ => True) ho0 (fun _ hk_ => trivial)) (below_size (by repeat (first | (with_reducible first | exact HB.out | apply below_alloc | apply pw_below_drewN | apply below_drew1 | refine below_set ?_ GE1499.out) | exact HB.out))) (fun k_ h_ => h_)) (Kd.R_lt (by (with_reducible repeat (first | apply Kd.R_alloc | apply Kd.R_drewN | apply Kd.R_drew)); exact HO1511.out))) (Kd.R_lt (by (with_reducible repeat (first | apply Kd.R_alloc | apply Kd.R_drewN | apply Kd.R_drew)); exact HO1515.out))) (below_size (by repeat (first | (with_reducible first | exact HB.out | apply below_alloc | apply pw_below_drewN | apply below_drew1 | refine below_set ?_ GE1499.out) | exact HB.out)))); have n7_ := Aside0.mk (blk_below (g := gb1499) (o := .cells #[.slice A1_0 l1_0.length c1_0, .slice A1_1 l1_1.length c1_1] 90 (0, 0)) (by (with_reducible repeat (first | refine blk_drewN ?_ _ | refine blk_drew ?_ | refine blk_alloc ?_ _)); exact BK1499.out) hb); have n8_ := Aside0.mk (below_step (by repeat (first | (with_reducible first | exact HB.out | apply below_alloc | apply pw_below_drewN | apply below_drew1 | refine below_set ?_ GE1499.out) | exact HB.out)) hb); clear HO1_0; clear HO1_1; clear HO1502; clear HO1506; clear HO1511; clear HO1515; clear BK1499; clear HB; have HO1_0 := n0_; have HO1_1 := n1_; have HO1502 := n2_; have HO1506 := n3_; have HO1511 := n4_; have HO1515 := n5_; have HO1518 := n6_; have BK1499 := n7_; have HB := n8_; clear n0_ n1_ n2_ n3_ n4_ n5_ n6_ n7_ n8_; (try clear hb); (try clear hb2); (try clear hk); (try clear hi); (try clear ho0); obtain ⟨Ao84, co84, eo84⟩ := Kd.R_slice HO1511.out; subst eo84) | (go_at_call 94; (with_reducible show Calls Try.prog 94 #[.slice _ t1508.length _, .int .i64 t1509, _, .int .i64 t1507] _ _); (refine (juntolaw02_is.calls k _ _ t1508 t1509 _ _ ([] : List Int) t1507 true _ ?side1 ?side2 ?side3 ?side4 A66.out).mono ?_); (case side1 => repeat (first | exact (Kd.R_reads' HO1511.out).2.2 | (with_reducible refine Kd.C_alloc ?_ _) | (with_reducible refine Kd.C_drewN ?_ _) | (with_reducible refine Kd.C_drew ?_))); (case side2 => exact (Kd.R_reads' HO1511.out).2.1); (case side3 => exact Kd.C_nil _ _); (case side4 => exact Nat.le_refl _); rintro e w' ⟨rfl, ⟨nd, rfl⟩⟩; (try first | exact ⟨rfl, _, World.drewN_drewN _ _ _⟩ | exact ⟨rfl, _, Eq.trans (World.drewN_drewN _ _ _) (congrArg (World.drewN _) (Nat.add_assoc _ _ _))⟩); obtain ⟨Ao85, co85, eo85⟩ := Kd.R_slice HO1515.out; subst eo85) | (go_at_call 94; (with_reducible show Calls Try.prog 94 #[.slice _ t1512.length _, .int .i64 t1513, _, .int .i64 t1507] _ _); (refine (juntolaw02_is.calls k _ _ t1512 t1513 _ _ ([] : List Int) t1507 true _ ?side1 ?side2 ?side3 ?side4 A68.out).mono ?_); (case side1 => repeat (first | exact (Kd.R_reads' HO1515.out).2.2 | (with_reducible refine Kd.C_alloc ?_ _) | (with_reducible refine Kd.C_drewN ?_ _) | (with_reducible refine Kd.C_drew ?_))); (case side2 => exact (Kd.R_reads' HO1515.out).2.1); (case side3 => exact Kd.C_nil _ _); (case side4 => exact Nat.le_refl _); rintro e w' ⟨rfl, ⟨nd, rfl⟩⟩; (try first | exact ⟨rfl, _, World.drewN_drewN _ _ _⟩ | exact ⟨rfl, _, Eq.trans (World.drewN_drewN _ _ _) (congrArg (World.drewN _) (Nat.add_assoc _ _ _))⟩); obtain ⟨Ao86, co86, eo86⟩ := Kd.R_slice HO1518.out; subst eo86) | (go_at_call 94; (with_reducible show Calls Try.prog 94 #[.slice _ t1516.length _, .int .i64 t1519, _, .int .i64 t1507] _ _); (refine (juntolaw02_is.calls k _ _ t1516 t1519 _ _ ([] : List Int) t1507 true _ ?side1 ?side2 ?side3 ?side4 A70.out).mono ?_); (case side1 => repeat (first | exact (Kd.R_reads' HO1518.out).2.2 | (with_reducible refine Kd.C_alloc ?_ _) | (with_reducible refine Kd.C_drewN ?_ _) | (with_reducible refine Kd.C_drew ?_))); (case side2 => exact (Kd.R_reads' HO1518.out).2.1); (case side3 => exact Kd.C_nil _ _); (case side4 => exact Nat.le_refl _); rintro e w' ⟨rfl, ⟨nd, rfl⟩⟩; (try first | exact ⟨rfl, _, World.drewN_drewN _ _ _⟩ | exact ⟨rfl, _, Eq.trans (World.drewN_drewN _ _ _) (congrArg (World.drewN _) (Nat.add_assoc _ _ _))⟩)) | (go_at_call 95; (with_reducible refine (juntolaw02_alive.calls k  t1523 _ A72.out (by first | rfl | exact HRT.out)).mono ?_); rintro e w87 ⟨rfl, hb⟩; have n0_ := Aside0.mk (Kd.V_below (by (with_reducible repeat (first | apply Kd.V_alloc | apply Kd.V_drewN | apply Kd.V_drew)); exact HO1_0.out) hb); have n1_ := Aside0.mk (Kd.V_below (by (with_reducible repeat (first | apply Kd.V_alloc | apply Kd.V_drewN | apply Kd.V_drew)); exact HO1_1.out) hb); have n2_ := Aside0.mk (Kd.N_below (by (with_reducible repeat (first | apply Kd.N_alloc | apply Kd.N_drewN | apply Kd.N_drew)); exact HO1502.out) hb); have n3_ := Aside0.mk (Kd.N_below (by (with_reducible repeat (first | apply Kd.N_alloc | apply Kd.N_drewN | apply Kd.N_drew)); exact HO1506.out) hb); have n4_ := Aside0.mk (Kd.R_below (by (with_reducible repeat (first | apply Kd.R_alloc | apply Kd.R_drewN | apply Kd.R_drew)); exact HO1511.out) hb); have n5_ := Aside0.mk (Kd.R_below (by (with_reducible repeat (first | apply Kd.R_alloc | apply Kd.R_drewN | apply Kd.R_drew)); exact HO1515.out) hb); have n6_ := Aside0.mk (Kd.R_below (by (with_reducible repeat (first | apply Kd.R_alloc | apply Kd.R_drewN | apply Kd.R_drew)); exact HO1518.out) hb); have n7_ := Aside0.mk (blk_below (g := gb1499) (o := .cells #[.slice A1_0 l1_0.length c1_0, .slice A1_1 l1_1.length c1_1] 90 (0, 0)) (by (with_reducible repeat (first | refine blk_drewN ?_ _ | refine blk_drew ?_ | refine blk_alloc ?_ _)); exact BK1499.out) hb); have n8_ := Aside0.mk (below_step (by repeat (first | (with_reducible first | exact HB.out | apply below_alloc | apply pw_below_drewN | apply below_drew1 | refine below_set ?_ GE1499.out) | exact HB.out)) hb); clear HO1_0; clear HO1_1; clear HO1502; clear HO1506; clear HO1511; clear HO1515; clear HO1518; clear BK1499; clear HB; have HO1_0 := n0_; have HO1_1 := n1_; have HO1502 := n2_; have HO1506 := n3_; have HO1511 := n4_; have HO1515 := n5_; have HO1518 := n6_; have BK1499 := n7_; have HB := n8_; clear n0_ n1_ n2_ n3_ n4_ n5_ n6_ n7_ n8_; (try clear hb); (try clear hb2); (try clear hk); (try clear hi))); try go_wp2_with (first | ((with_reducible refine gate_dst (N := 4) rfl ?_); refine box_event ?hg (N := 4) ?hd (cs := #[.slice A1_0 l1_0.length c1_0, .slice A1_1 l1_1.length c1_1]) (t := 90) ?hr ?_; (case hd => rfl); (case hg => rfl); (case hr => first | (go_simp; done) | (go_simp; rfl)); intro gb1499 hg w73 hbox hb; have n0_ := Aside0.mk (Kd.V_below (Kd.V_elderB (by (with_reducible repeat (first | apply Kd.V_alloc | apply Kd.V_drewN | apply Kd.V_drew)); exact HO1_0.out) gb1499 (Nat.le_of_eq hg.symm)) hb); have n1_ := Aside0.mk (Kd.V_below (Kd.V_elderB (by (with_reducible repeat (first | apply Kd.V_alloc | apply Kd.V_drewN | apply Kd.V_drew)); exact HO1_1.out) gb1499 (Nat.le_of_eq hg.symm)) hb); have n2_ := Aside0.mk (below_step (by repeat (first | (with_reducible first | exact HB.out | apply below_alloc | apply pw_below_drewN | apply below_drew1) | exact HB.out)) hb); have n3_ := Aside0.mk (hbox); have n4_ := Aside0.mk ((by rw [hg]; exact (below_size (by repeat (first | (with_reducible first | exact HB.out | apply below_alloc | apply pw_below_drewN | apply below_drew1) | exact HB.out))) : w.heap.size ≤ gb1499)); have n5_ := Aside0.mk ((by rw [hg]; exact (below_size (by repeat (first | (with_reducible first | exact HB.out | apply below_alloc | apply pw_below_drewN | apply below_drew1) | exact HB.out))) : w.heap.size ≤ gb1499)); clear HO1_0; clear HO1_1; clear HB; have HO1_0 := n0_; have HO1_1 := n1_; have HB := n2_; have BK1499 := n3_; have GW1499 := n4_; have GE1499 := n5_; clear n0_ n1_ n2_ n3_ n4_ n5_; clear hb hbox hg; have hcz74_0 : w73.cell? ⟨gb1499, 0, none⟩ = some (.slice A1_0 l1_0.length c1_0) := (blk_cell BK1499.out 0).trans rfl; have hcz74_1 : w73.cell? ⟨gb1499, 1, none⟩ = some (.slice A1_1 l1_1.length c1_1) := (blk_cell BK1499.out 1).trans rfl; have hfz74_0 := blk_frozen BK1499.out 0; have hfz74_1 := blk_frozen BK1499.out 1) | ((with_reducible refine gate_dst (N := 24) rfl ?_); refine Kd.N_lit (Kd.slice 22 (Kd.int .u64)) _ 31 ?hg (N' := 24) ?hd (xs := ([l1_0, l1_1] : List (List Int))) (inner := [.slice A1_0 l1_0.length c1_0, .slice A1_1 l1_1.length c1_1]) (ok := (fun k_ => ((P1_0_ k_ ∨ P1_1_ k_) ∨ w.heap.size ≤ k_) ∧ k_ ≠ gb1499)) (okp := (fun k_ => ((P1_0_ k_ ∨ P1_1_ k_) ∨ w.heap.size ≤ k_) ∧ k_ ≠ gb1499)) ?hr ?hp (fun _ hk => hk) ((show ∀ k_, w73.heap.size ≤ k_ → (fun k_ => ((P1_0_ k_ ∨ P1_1_ k_) ∨ w.heap.size ≤ k_) ∧ k_ ≠ gb1499) k_ from fun k_ hk => ⟨(.inr (Nat.le_trans (below_size (by repeat (first | (with_reducible first | exact HB.out | apply below_alloc | apply pw_below_drewN | apply below_drew1 | refine below_set ?_ GE1499.out) | exact HB.out))) hk)), Kd.freshB (g := gb1499) (o := .cells #[.slice A1_0 l1_0.length c1_0, .slice A1_1 l1_1.length c1_1] 90 (0, 0)) (by (with_reducible repeat (first | refine blk_drewN ?_ _ | refine blk_drew ?_ | refine blk_alloc ?_ _)); exact BK1499.out) k_ hk⟩) _ (Nat.le_refl _)) (Below.refl _ _) (Nat.le_refl _) (by simp) ?_; (case hd => rfl); (case hg => rfl); (case hr => first | (go_simp; done) | (go_simp; rfl)); (case hp => exact (Reps.one (show Kd.FK (Kd.slice 22 (Kd.int .u64)) _ _ l1_0 [.slice A1_0 l1_0.length c1_0] from (Kd.FK_slice_mk (Kd.V_reads' (Kd.V_mono (ok' := (fun k_ => ((P1_0_ k_ ∨ P1_1_ k_) ∨ w.heap.size ≤ k_) ∧ k_ ≠ gb1499)) (HO1_0.out) (fun k_ hk => ⟨hk.1, hk.2⟩))).2.1 (Kd.V_F (by first | exact (Kd.V_mono (ok' := (fun k_ => ((P1_0_ k_ ∨ P1_1_ k_) ∨ w.heap.size ≤ k_) ∧ k_ ≠ gb1499)) (HO1_0.out) (fun k_ hk => ⟨hk.1, hk.2⟩)) | exact Kd.V_drewN (Kd.V_mono (ok' := (fun k_ => ((P1_0_ k_ ∨ P1_1_ k_) ∨ w.heap.size ≤ k_) ∧ k_ ≠ gb1499)) (HO1_0.out) (fun k_ hk => ⟨hk.1, hk.2⟩)) _)))) (Reps.one (show Kd.FK (Kd.slice 22 (Kd.int .u64)) _ _ l1_1 [.slice A1_1 l1_1.length c1_1] from (Kd.FK_slice_mk (Kd.V_reads' (Kd.V_mono (ok' := (fun k_ => ((P1_0_ k_ ∨ P1_1_ k_) ∨ w.heap.size ≤ k_) ∧ k_ ≠ gb1499)) (HO1_1.out) (fun k_ hk => ⟨hk.1, hk.2⟩))).2.1 (Kd.V_F (by first | exact (Kd.V_mono (ok' := (fun k_ => ((P1_0_ k_ ∨ P1_1_ k_) ∨ w.heap.size ≤ k_) ∧ k_ ≠ gb1499)) (HO1_1.out) (fun k_ hk => ⟨hk.1, hk.2⟩)) | exact Kd.V_drewN (Kd.V_mono (ok' := (fun k_ => ((P1_0_ k_ ∨ P1_1_ k_) ∨ w.heap.size ≤ k_) ∧ k_ ≠ gb1499)) (HO1_1.out) (fun k_ hk => ⟨hk.1, hk.2⟩)) _)))) (Reps.none _ _)))); intro v1501 w75 ho76 hb hg_ hnew_; clear hg_ hnew_; (first | rw [← Ny1500.out] at ho76 | (simp only [Int.reduceToNat] at ho76; rw [← Ny1500.out] at ho76)); have n0_ := Aside0.mk (Kd.V_elder' (by (with_reducible repeat (first | apply Kd.V_alloc | apply Kd.V_drewN | apply Kd.V_drew)); exact HO1_0.out) (Kd.N_base ho76) hb); have n1_ := Aside0.mk (Kd.V_elder' (by (with_reducible repeat (first | apply Kd.V_alloc | apply Kd.V_drewN | apply Kd.V_drew)); exact HO1_1.out) (Kd.N_base ho76) hb); have n2_ := Aside0.mk (Kd.N_lower ho76 (below_size (by repeat (first | (with_reducible first | exact HB.out | apply below_alloc | apply pw_below_drewN | apply below_drew1 | refine below_set ?_ GE1499.out) | exact HB.out)))); have n3_ := Aside0.mk (blk_below (g := gb1499) (o := .cells #[.slice A1_0 l1_0.length c1_0, .slice A1_1 l1_1.length c1_1] 90 (0, 0)) (by (with_reducible repeat (first | refine blk_drewN ?_ _ | refine blk_drew ?_ | refine blk_alloc ?_ _)); exact BK1499.out) hb); have n4_ := Aside0.mk (below_step (by repeat (first | (with_reducible first | exact HB.out | apply below_alloc | apply pw_below_drewN | apply below_drew1 | refine below_set ?_ GE1499.out) | exact HB.out)) hb); clear HO1_0; clear HO1_1; clear BK1499; clear HB; have HO1_0 := n0_; have HO1_1 := n1_; have HO1502 := n2_; have BK1499 := n3_; have HB := n4_; clear n0_ n1_ n2_ n3_ n4_; clear hb ho76; obtain ⟨Ao77, co77, eo77⟩ := Kd.N_slice HO1502.out; subst eo77) | (go_at_call 92; (with_reducible refine (juntoref02_Right.calls k a0 _ _ y1500 t1503 _ ?side1 ?side2 A4.out).mono ?_); (case side1 => repeat (first | exact (Kd.N_reads' HO1502.out).2.2 | (with_reducible refine Kd.C_alloc ?_ _) | (with_reducible refine Kd.C_drewN ?_ _) | (with_reducible refine Kd.C_drew ?_))); (case side2 => exact (Kd.N_reads' HO1502.out).2.1); rintro e w' ⟨rfl, ⟨nd, rfl⟩⟩; (try first | exact ⟨rfl, _, World.drewN_drewN _ _ _⟩ | exact ⟨rfl, _, Eq.trans (World.drewN_drewN _ _ _) (congrArg (World.drewN _) (Nat.add_assoc _ _ _))⟩)) | ((with_reducible refine gate_dst (N := 28) rfl ?_); refine Kd.N_lit (Kd.slice 22 (Kd.int .u64)) _ 31 ?hg (N' := 28) ?hd (xs := ([l1_0] : List (List Int))) (inner := [.slice A1_0 l1_0.length c1_0]) (ok := (fun k_ => ((P1_0_ k_ ∨ P1_1_ k_) ∨ w.heap.size ≤ k_) ∧ some k_ ≠ (.slice Ao77 y1500.length co77 : Value).ownBlock ∧ k_ ≠ gb1499)) (okp := (fun k_ => ((P1_0_ k_ ∨ P1_1_ k_) ∨ w.heap.size ≤ k_) ∧ some k_ ≠ (.slice Ao77 y1500.length co77 : Value).ownBlock ∧ k_ ≠ gb1499)) ?hr ?hp (fun _ hk => hk) ((show ∀ k_, w75.heap.size ≤ k_ → (fun k_ => ((P1_0_ k_ ∨ P1_1_ k_) ∨ w.heap.size ≤ k_) ∧ some k_ ≠ (.slice Ao77 y1500.length co77 : Value).ownBlock ∧ k_ ≠ gb1499) k_ from fun k_ hk => ⟨(.inr (Nat.le_trans (below_size (by repeat (first | (with_reducible first | exact HB.out | apply below_alloc | apply pw_below_drewN | apply below_drew1 | refine below_set ?_ GE1499.out) | exact HB.out))) hk)), Kd.fresh' (Kd.N_lt (by (with_reducible repeat (first | apply Kd.N_alloc | apply Kd.N_drewN | apply Kd.N_drew)); exact HO1502.out)) k_ hk, Kd.freshB (g := gb1499) (o := .cells #[.slice A1_0 l1_0.length c1_0, .slice A1_1 l1_1.length c1_1] 90 (0, 0)) (by (with_reducible repeat (first | refine blk_drewN ?_ _ | refine blk_drew ?_ | refine blk_alloc ?_ _)); exact BK1499.out) k_ hk⟩) _ (Nat.le_refl _)) (Below.refl _ _) (Nat.le_refl _) (by simp) ?_; (case hd => rfl); (case hg => rfl); (case hr => first | (go_simp; done) | (go_simp; rfl)); (case hp => exact (Reps.one (show Kd.FK (Kd.slice 22 (Kd.int .u64)) _ _ l1_0 [.slice A1_0 l1_0.length c1_0] from (Kd.FK_slice_mk (Kd.V_reads' (Kd.V_mono (ok' := (fun k_ => ((P1_0_ k_ ∨ P1_1_ k_) ∨ w.heap.size ≤ k_) ∧ some k_ ≠ (.slice Ao77 y1500.length co77 : Value).ownBlock ∧ k_ ≠ gb1499)) (HO1_0.out) (fun k_ hk => ⟨hk.1.1, ⟨hk.2, hk.1.2⟩⟩))).2.1 (Kd.V_F (by first | exact (Kd.V_mono (ok' := (fun k_ => ((P1_0_ k_ ∨ P1_1_ k_) ∨ w.heap.size ≤ k_) ∧ some k_ ≠ (.slice Ao77 y1500.length co77 : Value).ownBlock ∧ k_ ≠ gb1499)) (HO1_0.out) (fun k_ hk => ⟨hk.1.1, ⟨hk.2, hk.1.2⟩⟩)) | exact Kd.V_drewN (Kd.V_mono (ok' := (fun k_ => ((P1_0_ k_ ∨ P1_1_ k_) ∨ w.heap.size ≤ k_) ∧ some k_ ≠ (.slice Ao77 y1500.length co77 : Value).ownBlock ∧ k_ ≠ gb1499)) (HO1_0.out) (fun k_ hk => ⟨hk.1.1, ⟨hk.2, hk.1.2⟩⟩)) _)))) (Reps.none _ _))); intro v1505 w78 ho79 hb hg_ hnew_; clear hg_ hnew_; (first | rw [← Ny1504.out] at ho79 | (simp only [Int.reduceToNat] at ho79; rw [← Ny1504.out] at ho79)); have n0_ := Aside0.mk (Kd.V_elder' (by (with_reducible repeat (first | apply Kd.V_alloc | apply Kd.V_drewN | apply Kd.V_drew)); exact HO1_0.out) (Kd.N_base ho79) hb); have n1_ := Aside0.mk (Kd.V_elder' (by (with_reducible repeat (first | apply Kd.V_alloc | apply Kd.V_drewN | apply Kd.V_drew)); exact HO1_1.out) (Kd.N_base ho79) hb); have n2_ := Aside0.mk (Kd.N_elder' (by (with_reducible repeat (first | apply Kd.N_alloc | apply Kd.N_drewN | apply Kd.N_drew)); exact HO1502.out) (Kd.N_base ho79) hb); have n3_ := Aside0.mk (Kd.N_lower ho79 (below_size (by repeat (first | (with_reducible first | exact HB.out | apply below_alloc | apply pw_below_drewN | apply below_drew1 | refine below_set ?_ GE1499.out) | exact HB.out)))); have n4_ := Aside0.mk (blk_below (g := gb1499) (o := .cells #[.slice A1_0 l1_0.length c1_0, .slice A1_1 l1_1.length c1_1] 90 (0, 0)) (by (with_reducible repeat (first | refine blk_drewN ?_ _ | refine blk_drew ?_ | refine blk_alloc ?_ _)); exact BK1499.out) hb); have n5_ := Aside0.mk (below_step (by repeat (first | (with_reducible first | exact HB.out | apply below_alloc | apply pw_below_drewN | apply below_drew1 | refine below_set ?_ GE1499.out) | exact HB.out)) hb); clear HO1_0; clear HO1_1; clear HO1502; clear BK1499; clear HB; have HO1_0 := n0_; have HO1_1 := n1_; have HO1502 := n2_; have HO1506 := n3_; have BK1499 := n4_; have HB := n5_; clear n0_ n1_ n2_ n3_ n4_ n5_; clear hb ho79; obtain ⟨Ao80, co80, eo80⟩ := Kd.N_slice HO1506.out; subst eo80) | (go_at_call 92; (with_reducible refine (juntoref02_Right.calls k a0 _ _ y1504 t1507 _ ?side1 ?side2 A5.out).mono ?_); (case side1 => repeat (first | exact (Kd.N_reads' HO1506.out).2.2 | (with_reducible refine Kd.C_alloc ?_ _) | (with_reducible refine Kd.C_drewN ?_ _) | (with_reducible refine Kd.C_drew ?_))); (case side2 => exact (Kd.N_reads' HO1506.out).2.1); rintro e w' ⟨rfl, ⟨nd, rfl⟩⟩; (try first | exact ⟨rfl, _, World.drewN_drewN _ _ _⟩ | exact ⟨rfl, _, Eq.trans (World.drewN_drewN _ _ _) (congrArg (World.drewN _) (Nat.add_assoc _ _ _))⟩)) | (go_at_call 104; (with_reducible refine (poly_Add.calls k a0 _ _ l1_0 _ _ l1_1 t1508 t1509 _ ?side1 ?side2 ?side3 ?side4 A6.out).mono ?_); (case side1 => repeat (first | exact (Kd.V_reads' HO1_0.out).2.2 | (with_reducible refine Kd.C_alloc ?_ _) | (with_reducible refine Kd.C_drewN ?_ _) | (with_reducible refine Kd.C_drew ?_))); (case side2 => exact (Kd.V_reads' HO1_0.out).2.1); (case side3 => repeat (first | exact (Kd.V_reads' HO1_1.out).2.2 | (with_reducible refine Kd.C_alloc ?_ _) | (with_reducible refine Kd.C_drewN ?_ _) | (with_reducible refine Kd.C_drew ?_))); (case side4 => exact (Kd.V_reads' HO1_1.out).2.1); rintro e w81 ⟨v1510, rfl, ho0, hb⟩; have n0_ := Aside0.mk (Kd.V_elder' (by (with_reducible repeat (first | apply Kd.V_alloc | apply Kd.V_drewN | apply Kd.V_drew)); exact HO1_0.out) (Kd.R_base ho0) hb); have n1_ := Aside0.mk (Kd.V_elder' (by (with_reducible repeat (first | apply Kd.V_alloc | apply Kd.V_drewN | apply Kd.V_drew)); exact HO1_1.out) (Kd.R_base ho0) hb); have n2_ := Aside0.mk (Kd.N_elder' (by (with_reducible repeat (first | apply Kd.N_alloc | apply Kd.N_drewN | apply Kd.N_drew)); exact HO1502.out) (Kd.R_base ho0) hb); have n3_ := Aside0.mk (Kd.N_elder' (by (with_reducible repeat (first | apply Kd.N_alloc | apply Kd.N_drewN | apply Kd.N_drew)); exact HO1506.out) (Kd.R_base ho0) hb); have n4_ := Aside0.mk (Kd.R_lower (Kd.R_newM (M := fun k_ => (w.heap.size ≤ k_)) ho0 (below_size (by repeat (first | (with_reducible first | exact HB.out | apply below_alloc | apply pw_below_drewN | apply below_drew1 | refine below_set ?_ GE1499.out) | exact HB.out))) (fun k_ h_ => h_)) (below_size (by repeat (first | (with_reducible first | exact HB.out | apply below_alloc | apply pw_below_drewN | apply below_drew1 | refine below_set ?_ GE1499.out) | exact HB.out)))); have n5_ := Aside0.mk (blk_below (g := gb1499) (o := .cells #[.slice A1_0 l1_0.length c1_0, .slice A1_1 l1_1.length c1_1] 90 (0, 0)) (by (with_reducible repeat (first | refine blk_drewN ?_ _ | refine blk_drew ?_ | refine blk_alloc ?_ _)); exact BK1499.out) hb); have n6_ := Aside0.mk (below_step (by repeat (first | (with_reducible first | exact HB.out | apply below_alloc | apply pw_below_drewN | apply below_drew1 | refine below_set ?_ GE1499.out) | exact HB.out)) hb); clear HO1_0; clear HO1_1; clear HO1502; clear HO1506; clear BK1499; clear HB; have HO1_0 := n0_; have HO1_1 := n1_; have HO1502 := n2_; have HO1506 := n3_; have HO1511 := n4_; have BK1499 := n5_; have HB := n6_; clear n0_ n1_ n2_ n3_ n4_ n5_ n6_; (try clear hb); (try clear hb2); (try clear hk); (try clear hi); (try clear ho0)) | (go_at_call 105; (with_reducible refine (poly_Sub.calls k a0 _ _ l1_0 _ _ l1_1 t1512 t1513 _ ?side1 ?side2 ?side3 ?side4 A7.out).mono ?_); (case side1 => repeat (first | exact (Kd.V_reads' HO1_0.out).2.2 | (with_reducible refine Kd.C_alloc ?_ _) | (with_reducible refine Kd.C_drewN ?_ _) | (with_reducible refine Kd.C_drew ?_))); (case side2 => exact (Kd.V_reads' HO1_0.out).2.1); (case side3 => repeat (first | exact (Kd.V_reads' HO1_1.out).2.2 | (with_reducible refine Kd.C_alloc ?_ _) | (with_reducible refine Kd.C_drewN ?_ _) | (with_reducible refine Kd.C_drew ?_))); (case side4 => exact (Kd.V_reads' HO1_1.out).2.1); rintro e w82 ⟨v1514, rfl, ho0, hb⟩; have n0_ := Aside0.mk (Kd.V_elder' (by (with_reducible repeat (first | apply Kd.V_alloc | apply Kd.V_drewN | apply Kd.V_drew)); exact HO1_0.out) (Kd.R_base ho0) hb); have n1_ := Aside0.mk (Kd.V_elder' (by (with_reducible repeat (first | apply Kd.V_alloc | apply Kd.V_drewN | apply Kd.V_drew)); exact HO1_1.out) (Kd.R_base ho0) hb); have n2_ := Aside0.mk (Kd.N_elder' (by (with_reducible repeat (first | apply Kd.N_alloc | apply Kd.N_drewN | apply Kd.N_drew)); exact HO1502.out) (Kd.R_base ho0) hb); have n3_ := Aside0.mk (Kd.N_elder' (by (with_reducible repeat (first | apply Kd.N_alloc | apply Kd.N_drewN | apply Kd.N_drew)); exact HO1506.out) (Kd.R_base ho0) hb); have n4_ := Aside0.mk (Kd.R_elder' (by (with_reducible repeat (first | apply Kd.R_alloc | apply Kd.R_drewN | apply Kd.R_drew)); exact HO1511.out) (Kd.R_base ho0) hb); have n5_ := Aside0.mk (Kd.R_lower (Kd.R_new' (Kd.R_newM (M := fun k_ => (w.heap.size ≤ k_)) ho0 (below_size (by repeat (first | (with_reducible first | exact HB.out | apply below_alloc | apply pw_below_drewN | apply below_drew1 | refine below_set ?_ GE1499.out) | exact HB.out))) (fun k_ h_ => h_)) (Kd.R_lt (by (with_reducible repeat (first | apply Kd.R_alloc | apply Kd.R_drewN | apply Kd.R_drew)); exact HO1511.out))) (below_size (by repeat (first | (with_reducible first | exact HB.out | apply below_alloc | apply pw_below_drewN | apply below_drew1 | refine below_set ?_ GE1499.out) | exact HB.out)))); have n6_ := Aside0.mk (blk_below (g := gb1499) (o := .cells #[.slice A1_0 l1_0.length c1_0, .slice A1_1 l1_1.length c1_1] 90 (0, 0)) (by (with_reducible repeat (first | refine blk_drewN ?_ _ | refine blk_drew ?_ | refine blk_alloc ?_ _)); exact BK1499.out) hb); have n7_ := Aside0.mk (below_step (by repeat (first | (with_reducible first | exact HB.out | apply below_alloc | apply pw_below_drewN | apply below_drew1 | refine below_set ?_ GE1499.out) | exact HB.out)) hb); clear HO1_0; clear HO1_1; clear HO1502; clear HO1506; clear HO1511; clear BK1499; clear HB; have HO1_0 := n0_; have HO1_1 := n1_; have HO1502 := n2_; have HO1506 := n3_; have HO1511 := n4_; have HO1515 := n5_; have BK1499 := n6_; have HB := n7_; clear n0_ n1_ n2_ n3_ n4_ n5_ n6_ n7_; (try clear hb); (try clear hb2); (try clear hk); (try clear hi); (try clear ho0)) | (go_at_call 106; (with_reducible refine (poly_Scale.calls k a0 (fun k_ => (((((((P1_0_ k_ ∨ P1_1_ k_) ∨ w.heap.size ≤ k_) ∧ k_ ≠ gb1499) ∧ some k_ ≠ (.slice Ao77 y1500.length co77 : Value).ownBlock) ∧ some k_ ≠ (.slice Ao80 y1504.length co80 : Value).ownBlock) ∧ some k_ ≠ (v1510 : Value).ownBlock) ∧ some k_ ≠ (v1514 : Value).ownBlock)) _ _ l1_0 a2 t1516 t1519 _ ?side1 A8.out).mono ?_); (case side1 => exact HO1_0.out); rintro e w83 ⟨v1517, rfl, ho0, hb⟩; have n0_ := Aside0.mk (Kd.V_elder' (by (with_reducible repeat (first | apply Kd.V_alloc | apply Kd.V_drewN | apply Kd.V_drew)); exact HO1_0.out) (Kd.R_base ho0) hb); have n1_ := Aside0.mk (Kd.V_elder' (by (with_reducible repeat (first | apply Kd.V_alloc | apply Kd.V_drewN | apply Kd.V_drew)); exact HO1_1.out) (Kd.R_base ho0) hb); have n2_ := Aside0.mk (Kd.N_elder' (by (with_reducible repeat (first | apply Kd.N_alloc | apply Kd.N_drewN | apply Kd.N_drew)); exact HO1502.out) (Kd.R_base ho0) hb); have n3_ := Aside0.mk (Kd.N_elder' (by (with_reducible repeat (first | apply Kd.N_alloc | apply Kd.N_drewN | apply Kd.N_drew)); exact HO1506.out) (Kd.R_base ho0) hb); have n4_ := Aside0.mk (Kd.R_elder' (by (with_reducible repeat (first | apply Kd.R_alloc | apply Kd.R_drewN | apply Kd.R_drew)); exact HO1511.out) (Kd.R_base ho0) hb); have n5_ := Aside0.mk (Kd.R_elder' (by (with_reducible repeat (first | apply Kd.R_alloc | apply Kd.R_drewN | apply Kd.R_drew)); exact HO1515.out) (Kd.R_base ho0) hb); have n6_ := Aside0.mk (Kd.R_lower (Kd.R_new' (Kd.R_new' (Kd.R_newM (M := fun k_ => (w.heap.size ≤ k_)) (Kd.R_mono (ok' := fun k_ => True) ho0 (fun _ hk_ => trivial)) (below_size (by repeat (first | (with_reducible first | exact HB.out | apply below_alloc | apply pw_below_drewN | apply below_drew1 | refine below_set ?_ GE1499.out) | exact HB.out))) (fun k_ h_ => h_)) (Kd.R_lt (by (with_reducible repeat (first | apply Kd.R_alloc | apply Kd.R_drewN | apply Kd.R_drew)); exact HO1511.out))) (Kd.R_lt (by (with_reducible repeat (first | apply Kd.R_alloc | apply Kd.R_drewN | apply Kd.R_drew)); exact HO1515.out))) (below_size (by repeat (first | (with_reducible first | exact HB.out | apply below_alloc | apply pw_below_drewN | apply below_drew1 | refine below_set ?_ GE1499.out) | exact HB.out)))); have n7_ := Aside0.mk (blk_below (g := gb1499) (o := .cells #[.slice A1_0 l1_0.length c1_0, .slice A1_1 l1_1.length c1_1] 90 (0, 0)) (by (with_reducible repeat (first | refine blk_drewN ?_ _ | refine blk_drew ?_ | refine blk_alloc ?_ _)); exact BK1499.out) hb); have n8_ := Aside0.mk (below_step (by repeat (first | (with_reducible first | exact HB.out | apply below_alloc | apply pw_below_drewN | apply below_drew1 | refine below_set ?_ GE1499.out) | exact HB.out)) hb); clear HO1_0; clear HO1_1; clear HO1502; clear HO1506; clear HO1511; clear HO1515; clear BK1499; clear HB; have HO1_0 := n0_; have HO1_1 := n1_; have HO1502 := n2_; have HO1506 := n3_; have HO1511 := n4_; have HO1515 := n5_; have HO1518 := n6_; have BK1499 := n7_; have HB := n8_; clear n0_ n1_ n2_ n3_ n4_ n5_ n6_ n7_ n8_; (try clear hb); (try clear hb2); (try clear hk); (try clear hi); (try clear ho0); obtain ⟨Ao84, co84, eo84⟩ := Kd.R_slice HO1511.out; subst eo84) | (go_at_call 94; (with_reducible show Calls Try.prog 94 #[.slice _ t1508.length _, .int .i64 t1509, _, .int .i64 t1507] _ _); (refine (juntolaw02_is.calls k _ _ t1508 t1509 _ _ ([] : List Int) t1507 true _ ?side1 ?side2 ?side3 ?side4 A66.out).mono ?_); (case side1 => repeat (first | exact (Kd.R_reads' HO1511.out).2.2 | (with_reducible refine Kd.C_alloc ?_ _) | (with_reducible refine Kd.C_drewN ?_ _) | (with_reducible refine Kd.C_drew ?_))); (case side2 => exact (Kd.R_reads' HO1511.out).2.1); (case side3 => exact Kd.C_nil _ _); (case side4 => exact Nat.le_refl _); rintro e w' ⟨rfl, ⟨nd, rfl⟩⟩; (try first | exact ⟨rfl, _, World.drewN_drewN _ _ _⟩ | exact ⟨rfl, _, Eq.trans (World.drewN_drewN _ _ _) (congrArg (World.drewN _) (Nat.add_assoc _ _ _))⟩); obtain ⟨Ao85, co85, eo85⟩ := Kd.R_slice HO1515.out; subst eo85) | (go_at_call 94; (with_reducible show Calls Try.prog 94 #[.slice _ t1512.length _, .int .i64 t1513, _, .int .i64 t1507] _ _); (refine (juntolaw02_is.calls k _ _ t1512 t1513 _ _ ([] : List Int) t1507 true _ ?side1 ?side2 ?side3 ?side4 A68.out).mono ?_); (case side1 => repeat (first | exact (Kd.R_reads' HO1515.out).2.2 | (with_reducible refine Kd.C_alloc ?_ _) | (with_reducible refine Kd.C_drewN ?_ _) | (with_reducible refine Kd.C_drew ?_))); (case side2 => exact (Kd.R_reads' HO1515.out).2.1); (case side3 => exact Kd.C_nil _ _); (case side4 => exact Nat.le_refl _); rintro e w' ⟨rfl, ⟨nd, rfl⟩⟩; (try first | exact ⟨rfl, _, World.drewN_drewN _ _ _⟩ | exact ⟨rfl, _, Eq.trans (World.drewN_drewN _ _ _) (congrArg (World.drewN _) (Nat.add_assoc _ _ _))⟩); obtain ⟨Ao86, co86, eo86⟩ := Kd.R_slice HO1518.out; subst eo86) | (go_at_call 94; (with_reducible show Calls Try.prog 94 #[.slice _ t1516.length _, .int .i64 t1519, _, .int .i64 t1507] _ _); (refine (juntolaw02_is.calls k _ _ t1516 t1519 _ _ ([] : List Int) t1507 true _ ?side1 ?side2 ?side3 ?side4 A70.out).mono ?_); (case side1 => repeat (first | exact (Kd.R_reads' HO1518.out).2.2 | (with_reducible refine Kd.C_alloc ?_ _) | (with_reducible refine Kd.C_drewN ?_ _) | (with_reducible refine Kd.C_drew ?_))); (case side2 => exact (Kd.R_reads' HO1518.out).2.1); (case side3 => exact Kd.C_nil _ _); (case side4 => exact Nat.le_refl _); rintro e w' ⟨rfl, ⟨nd, rfl⟩⟩; (try first | exact ⟨rfl, _, World.drewN_drewN _ _ _⟩ | exact ⟨rfl, _, Eq.trans (World.drewN_drewN _ _ _) (congrArg (World.drewN _) (Nat.add_assoc _ _ _))⟩)) | (go_at_call 95; (with_reducible refine (juntolaw02_alive.calls k  t1523 _ A72.out (by first | rfl | exact HRT.out)).mono ?_); rintro e w87 ⟨rfl, hb⟩; have n0_ := Aside0.mk (Kd.V_below (by (with_reducible repeat (first | apply Kd.V_alloc | apply Kd.V_drewN | apply Kd.V_drew)); exact HO1_0.out) hb); have n1_ := Aside0.mk (Kd.V_below (by (with_reducible repeat (first | apply Kd.V_alloc | apply Kd.V_drewN | apply Kd.V_drew)); exact HO1_1.out) hb); have n2_ := Aside0.mk (Kd.N_below (by (with_reducible repeat (first | apply Kd.N_alloc | apply Kd.N_drewN | apply Kd.N_drew)); exact HO1502.out) hb); have n3_ := Aside0.mk (Kd.N_below (by (with_reducible repeat (first | apply Kd.N_alloc | apply Kd.N_drewN | apply Kd.N_drew)); exact HO1506.out) hb); have n4_ := Aside0.mk (Kd.R_below (by (with_reducible repeat (first | apply Kd.R_alloc | apply Kd.R_drewN | apply Kd.R_drew)); exact HO1511.out) hb); have n5_ := Aside0.mk (Kd.R_below (by (with_reducible repeat (first | apply Kd.R_alloc | apply Kd.R_drewN | apply Kd.R_drew)); exact HO1515.out) hb); have n6_ := Aside0.mk (Kd.R_below (by (with_reducible repeat (first | apply Kd.R_alloc | apply Kd.R_drewN | apply Kd.R_drew)); exact HO1518.out) hb); have n7_ := Aside0.mk (blk_below (g := gb1499) (o := .cells #[.slice A1_0 l1_0.length c1_0, .slice A1_1 l1_1.length c1_1] 90 (0, 0)) (by (with_reducible repeat (first | refine blk_drewN ?_ _ | refine blk_drew ?_ | refine blk_alloc ?_ _)); exact BK1499.out) hb); have n8_ := Aside0.mk (below_step (by repeat (first | (with_reducible first | exact HB.out | apply below_alloc | apply pw_below_drewN | apply below_drew1 | refine below_set ?_ GE1499.out) | exact HB.out)) hb); clear HO1_0; clear HO1_1; clear HO1502; clear HO1506; clear HO1511; clear HO1515; clear HO1518; clear BK1499; clear HB; have HO1_0 := n0_; have HO1_1 := n1_; have HO1502 := n2_; have HO1506 := n3_; have HO1511 := n4_; have HO1515 := n5_; have HO1518 := n6_; have BK1499 := n7_; have HB := n8_; clear n0_ n1_ n2_ n3_ n4_ n5_ n6_ n7_ n8_; (try clear hb); (try clear hb2); (try clear hk); (try clear hi))))
  go_ret
  exact ⟨by first | rfl | (simp [errW_none, errW_some] <;> rfl) | (simp [*, errW_none, errW_some] <;> rfl), by repeat (first | (with_reducible first | exact HB.out | apply below_alloc | apply pw_below_drewN | apply below_drew1 | refine below_set ?_ GE1499.out) | exact HB.out)⟩

end Go.Proofs.Ytjjnfobeeflnhaa.J

/- What Go functions of the program compute, as plain Lean functions, and that the machine comes to just these answers (written by a program for this seat). -/
namespace Go.Proofs.Ytjjnfobeeflnhaa.J
open Go.RowKit Go.Proofs.YtjjnfobeeflnhaaW.PrintWords Go.Proofs.YtjjnfobeeflnhaaW.PrintLast Go.Proofs.YtjjnfobeeflnhaaW.PrintMore
attribute [local go_sem] max2_int min2_int max_two min_two max_three min_three max_four min_four   -- for this text's walks alone
set_option linter.unusedVariables false
set_option linter.unusedSimpArgs false

/-! ### juntolaw02_PolySums: its leaves joined -/
set_option maxHeartbeats 8000000 in
set_option maxRecDepth 100000 in
theorem juntolaw02_PolySums.calls (k : Nat) (a0 : Int) (P1_0_ : Nat → Prop) (A1_0 : Option Addr) (c1_0 : Nat) (l1_0 : List Int) (P1_1_ : Nat → Prop) (A1_1 : Option Addr) (c1_1 : Nat) (l1_1 : List Int) (a2 : Int) (r : Bool) (w : World) (hs1_0 : Kd.V (Kd.int .u64) 22 w w.heap.size (fun k_ => P1_0_ k_) (.slice A1_0 l1_0.length c1_0) l1_0) (hs1_1 : Kd.V (Kd.int .u64) 22 w w.heap.size (fun k_ => P1_1_ k_) (.slice A1_1 l1_1.length c1_1) l1_1) (h : juntolaw02_PolySums.f k a0 l1_0 l1_1 a2 = some r) (hrt : r = true := by rfl) :
    Calls Try.prog 26 #[.int .u64 a0, .agg #[.slice A1_0 l1_0.length c1_0, .slice A1_1 l1_1.length c1_1], .int .u64 a2] w fun e w' => e = .returned (.bool r) ∧ Below w.heap.size w w' := by
  have HRT := Aside0.mk hrt
  clear hrt
  have hu50 := Try.underlying50
  have HO1_0 := Aside0.mk (show Kd.V (Kd.int .u64) 22 w w.heap.size (fun k_ => ((P1_0_ k_ ∨ P1_1_ k_) ∨ w.heap.size ≤ k_)) (.slice A1_0 l1_0.length c1_0) l1_0 from Kd.V_mono hs1_0 (fun k_ hk => .inl (.inl hk)))
  have HO1_1 := Aside0.mk (show Kd.V (Kd.int .u64) 22 w w.heap.size (fun k_ => ((P1_0_ k_ ∨ P1_1_ k_) ∨ w.heap.size ≤ k_)) (.slice A1_1 l1_1.length c1_1) l1_1 from Kd.V_mono hs1_1 (fun k_ hk => .inl (.inr hk)))
  have HB := Aside0.mk (Below.refl w.heap.size w)
  have H : ((juntoref02_Right.f k a0 (([l1_0, l1_1] : List (List Int)))).bind fun t1503 => ((juntoref02_Right.f k a0 (([l1_0] : List (List Int)))).bind fun t1507 => ((poly_Add.f k a0 l1_0 l1_1).bind fun bt1508 => ((poly_Sub.f k a0 l1_0 l1_1).bind fun bt1512 => ((poly_Scale.f k a0 l1_0 a2).bind fun bt1516 => (if t1507 = 0 then (if a0 = 0 then (none) else ((juntoref02_Scale.f k a0 l1_0 (Int.tmod a2 a0)).bind fun t1524 => ((juntoref01_Within.f k a0 (([a2] : List Int))).bind fun t1530 => ((juntolaw02_is.f k bt1516.1 bt1516.2 t1524 t1530).bind fun t1531 => (if t1531 = true then (if t1503 = 0 then ((juntoref02_Add.f k a0 l1_0 l1_1).bind fun t1534 => ((juntolaw02_is.f k bt1508.1 bt1508.2 t1534 0).bind fun t1537 => (if t1537 = true then ((juntoref02_Sub.f k a0 l1_0 l1_1).bind fun t1538 => ((juntolaw02_is.f k bt1512.1 bt1512.2 t1538 0).bind fun t1541 => (some t1541))) else (some false)))) else ((juntolaw02_is.f k bt1508.1 bt1508.2 ([] : List Int) t1503).bind fun t1532 => (if t1532 = true then ((juntolaw02_is.f k bt1512.1 bt1512.2 ([] : List Int) t1503).bind fun t1533 => (some t1533)) else (some false)))) else (some false)))))) else ((juntolaw02_is.f k bt1508.1 bt1508.2 ([] : List Int) t1507).bind fun t1520 => (if t1520 = true then ((juntolaw02_is.f k bt1512.1 bt1512.2 ([] : List Int) t1507).bind fun t1521 => (if t1521 = true then ((juntolaw02_is.f k bt1516.1 bt1516.2 ([] : List Int) t1507).bind fun t1522 => (if t1522 = true then ((juntolaw02_alive.f k).bind fun t1523 => (some t1523)) else (some false))) else (some false))) else (some false))))))))) = some r := h
  clear h
  obtain ⟨y1500, hy1500⟩ : ∃ y_ : List (List Int), y_ = (([l1_0, l1_1] : List (List Int))) := ⟨_, rfl⟩
  replace H : ((juntoref02_Right.f k a0 y1500).bind fun t1503 => ((juntoref02_Right.f k a0 (([l1_0] : List (List Int)))).bind fun t1507 => ((poly_Add.f k a0 l1_0 l1_1).bind fun bt1508 => ((poly_Sub.f k a0 l1_0 l1_1).bind fun bt1512 => ((poly_Scale.f k a0 l1_0 a2).bind fun bt1516 => (if t1507 = 0 then (if a0 = 0 then (none) else ((juntoref02_Scale.f k a0 l1_0 (Int.tmod a2 a0)).bind fun t1524 => ((juntoref01_Within.f k a0 (([a2] : List Int))).bind fun t1530 => ((juntolaw02_is.f k bt1516.1 bt1516.2 t1524 t1530).bind fun t1531 => (if t1531 = true then (if t1503 = 0 then ((juntoref02_Add.f k a0 l1_0 l1_1).bind fun t1534 => ((juntolaw02_is.f k bt1508.1 bt1508.2 t1534 0).bind fun t1537 => (if t1537 = true then ((juntoref02_Sub.f k a0 l1_0 l1_1).bind fun t1538 => ((juntolaw02_is.f k bt1512.1 bt1512.2 t1538 0).bind fun t1541 => (some t1541))) else (some false)))) else ((juntolaw02_is.f k bt1508.1 bt1508.2 ([] : List Int) t1503).bind fun t1532 => (if t1532 = true then ((juntolaw02_is.f k bt1512.1 bt1512.2 ([] : List Int) t1503).bind fun t1533 => (some t1533)) else (some false)))) else (some false)))))) else ((juntolaw02_is.f k bt1508.1 bt1508.2 ([] : List Int) t1507).bind fun t1520 => (if t1520 = true then ((juntolaw02_is.f k bt1512.1 bt1512.2 ([] : List Int) t1507).bind fun t1521 => (if t1521 = true then ((juntolaw02_is.f k bt1516.1 bt1516.2 ([] : List Int) t1507).bind fun t1522 => (if t1522 = true then ((juntolaw02_alive.f k).bind fun t1523 => (some t1523)) else (some false))) else (some false))) else (some false))))))))) = some r := by first | (rw [hy1500]; with_reducible exact H) | (have H2_ := (Option.bind_some _ _).symm.trans H; rw [hy1500]; with_reducible exact H2_) | (have H2_ := (Option.bind_some _ _).symm.trans H; with_reducible exact H2_) | with_reducible exact H | (rw [hy1500]; exact H) | exact H
  have Ny1500 := Aside0.mk hy1500
  clear hy1500
  replace H := Option.bind_eq_some_iff.mp H
  obtain ⟨t1503, A40, H⟩ := H
  replace H : ((juntoref02_Right.f k a0 (([l1_0] : List (List Int)))).bind fun t1507 => ((poly_Add.f k a0 l1_0 l1_1).bind fun bt1508 => ((poly_Sub.f k a0 l1_0 l1_1).bind fun bt1512 => ((poly_Scale.f k a0 l1_0 a2).bind fun bt1516 => (if t1507 = 0 then (if a0 = 0 then (none) else ((juntoref02_Scale.f k a0 l1_0 (Int.tmod a2 a0)).bind fun t1524 => ((juntoref01_Within.f k a0 (([a2] : List Int))).bind fun t1530 => ((juntolaw02_is.f k bt1516.1 bt1516.2 t1524 t1530).bind fun t1531 => (if t1531 = true then (if t1503 = 0 then ((juntoref02_Add.f k a0 l1_0 l1_1).bind fun t1534 => ((juntolaw02_is.f k bt1508.1 bt1508.2 t1534 0).bind fun t1537 => (if t1537 = true then ((juntoref02_Sub.f k a0 l1_0 l1_1).bind fun t1538 => ((juntolaw02_is.f k bt1512.1 bt1512.2 t1538 0).bind fun t1541 => (some t1541))) else (some false)))) else ((juntolaw02_is.f k bt1508.1 bt1508.2 ([] : List Int) t1503).bind fun t1532 => (if t1532 = true then ((juntolaw02_is.f k bt1512.1 bt1512.2 ([] : List Int) t1503).bind fun t1533 => (some t1533)) else (some false)))) else (some false)))))) else ((juntolaw02_is.f k bt1508.1 bt1508.2 ([] : List Int) t1507).bind fun t1520 => (if t1520 = true then ((juntolaw02_is.f k bt1512.1 bt1512.2 ([] : List Int) t1507).bind fun t1521 => (if t1521 = true then ((juntolaw02_is.f k bt1516.1 bt1516.2 ([] : List Int) t1507).bind fun t1522 => (if t1522 = true then ((juntolaw02_alive.f k).bind fun t1523 => (some t1523)) else (some false))) else (some false))) else (some false)))))))) = some r := H
  have A4 := Aside0.mk A40
  clear A40
  obtain ⟨y1504, hy1504⟩ : ∃ y_ : List (List Int), y_ = (([l1_0] : List (List Int))) := ⟨_, rfl⟩
  replace H : ((juntoref02_Right.f k a0 y1504).bind fun t1507 => ((poly_Add.f k a0 l1_0 l1_1).bind fun bt1508 => ((poly_Sub.f k a0 l1_0 l1_1).bind fun bt1512 => ((poly_Scale.f k a0 l1_0 a2).bind fun bt1516 => (if t1507 = 0 then (if a0 = 0 then (none) else ((juntoref02_Scale.f k a0 l1_0 (Int.tmod a2 a0)).bind fun t1524 => ((juntoref01_Within.f k a0 (([a2] : List Int))).bind fun t1530 => ((juntolaw02_is.f k bt1516.1 bt1516.2 t1524 t1530).bind fun t1531 => (if t1531 = true then (if t1503 = 0 then ((juntoref02_Add.f k a0 l1_0 l1_1).bind fun t1534 => ((juntolaw02_is.f k bt1508.1 bt1508.2 t1534 0).bind fun t1537 => (if t1537 = true then ((juntoref02_Sub.f k a0 l1_0 l1_1).bind fun t1538 => ((juntolaw02_is.f k bt1512.1 bt1512.2 t1538 0).bind fun t1541 => (some t1541))) else (some false)))) else ((juntolaw02_is.f k bt1508.1 bt1508.2 ([] : List Int) t1503).bind fun t1532 => (if t1532 = true then ((juntolaw02_is.f k bt1512.1 bt1512.2 ([] : List Int) t1503).bind fun t1533 => (some t1533)) else (some false)))) else (some false)))))) else ((juntolaw02_is.f k bt1508.1 bt1508.2 ([] : List Int) t1507).bind fun t1520 => (if t1520 = true then ((juntolaw02_is.f k bt1512.1 bt1512.2 ([] : List Int) t1507).bind fun t1521 => (if t1521 = true then ((juntolaw02_is.f k bt1516.1 bt1516.2 ([] : List Int) t1507).bind fun t1522 => (if t1522 = true then ((juntolaw02_alive.f k).bind fun t1523 => (some t1523)) else (some false))) else (some false))) else (some false)))))))) = some r := by first | (rw [hy1504]; with_reducible exact H) | (have H2_ := (Option.bind_some _ _).symm.trans H; rw [hy1504]; with_reducible exact H2_) | (have H2_ := (Option.bind_some _ _).symm.trans H; with_reducible exact H2_) | with_reducible exact H | (rw [hy1504]; exact H) | exact H
  have Ny1504 := Aside0.mk hy1504
  clear hy1504
  replace H := Option.bind_eq_some_iff.mp H
  obtain ⟨t1507, A50, H⟩ := H
  replace H : ((poly_Add.f k a0 l1_0 l1_1).bind fun bt1508 => ((poly_Sub.f k a0 l1_0 l1_1).bind fun bt1512 => ((poly_Scale.f k a0 l1_0 a2).bind fun bt1516 => (if t1507 = 0 then (if a0 = 0 then (none) else ((juntoref02_Scale.f k a0 l1_0 (Int.tmod a2 a0)).bind fun t1524 => ((juntoref01_Within.f k a0 (([a2] : List Int))).bind fun t1530 => ((juntolaw02_is.f k bt1516.1 bt1516.2 t1524 t1530).bind fun t1531 => (if t1531 = true then (if t1503 = 0 then ((juntoref02_Add.f k a0 l1_0 l1_1).bind fun t1534 => ((juntolaw02_is.f k bt1508.1 bt1508.2 t1534 0).bind fun t1537 => (if t1537 = true then ((juntoref02_Sub.f k a0 l1_0 l1_1).bind fun t1538 => ((juntolaw02_is.f k bt1512.1 bt1512.2 t1538 0).bind fun t1541 => (some t1541))) else (some false)))) else ((juntolaw02_is.f k bt1508.1 bt1508.2 ([] : List Int) t1503).bind fun t1532 => (if t1532 = true then ((juntolaw02_is.f k bt1512.1 bt1512.2 ([] : List Int) t1503).bind fun t1533 => (some t1533)) else (some false)))) else (some false)))))) else ((juntolaw02_is.f k bt1508.1 bt1508.2 ([] : List Int) t1507).bind fun t1520 => (if t1520 = true then ((juntolaw02_is.f k bt1512.1 bt1512.2 ([] : List Int) t1507).bind fun t1521 => (if t1521 = true then ((juntolaw02_is.f k bt1516.1 bt1516.2 ([] : List Int) t1507).bind fun t1522 => (if t1522 = true then ((juntolaw02_alive.f k).bind fun t1523 => (some t1523)) else (some false))) else (some false))) else (some false))))))) = some r := H
  have A5 := Aside0.mk A50
  clear A50
  replace H := Option.bind_eq_some_iff.mp H
  obtain ⟨⟨t1508, t1509⟩, A60, H⟩ := H
  replace H : ((poly_Sub.f k a0 l1_0 l1_1).bind fun bt1512 => ((poly_Scale.f k a0 l1_0 a2).bind fun bt1516 => (if t1507 = 0 then (if a0 = 0 then (none) else ((juntoref02_Scale.f k a0 l1_0 (Int.tmod a2 a0)).bind fun t1524 => ((juntoref01_Within.f k a0 (([a2] : List Int))).bind fun t1530 => ((juntolaw02_is.f k bt1516.1 bt1516.2 t1524 t1530).bind fun t1531 => (if t1531 = true then (if t1503 = 0 then ((juntoref02_Add.f k a0 l1_0 l1_1).bind fun t1534 => ((juntolaw02_is.f k t1508 t1509 t1534 0).bind fun t1537 => (if t1537 = true then ((juntoref02_Sub.f k a0 l1_0 l1_1).bind fun t1538 => ((juntolaw02_is.f k bt1512.1 bt1512.2 t1538 0).bind fun t1541 => (some t1541))) else (some false)))) else ((juntolaw02_is.f k t1508 t1509 ([] : List Int) t1503).bind fun t1532 => (if t1532 = true then ((juntolaw02_is.f k bt1512.1 bt1512.2 ([] : List Int) t1503).bind fun t1533 => (some t1533)) else (some false)))) else (some false)))))) else ((juntolaw02_is.f k t1508 t1509 ([] : List Int) t1507).bind fun t1520 => (if t1520 = true then ((juntolaw02_is.f k bt1512.1 bt1512.2 ([] : List Int) t1507).bind fun t1521 => (if t1521 = true then ((juntolaw02_is.f k bt1516.1 bt1516.2 ([] : List Int) t1507).bind fun t1522 => (if t1522 = true then ((juntolaw02_alive.f k).bind fun t1523 => (some t1523)) else (some false))) else (some false))) else (some false)))))) = some r := H
  have A6 := Aside0.mk A60
  clear A60
  replace H := Option.bind_eq_some_iff.mp H
  obtain ⟨⟨t1512, t1513⟩, A70, H⟩ := H
  replace H : ((poly_Scale.f k a0 l1_0 a2).bind fun bt1516 => (if t1507 = 0 then (if a0 = 0 then (none) else ((juntoref02_Scale.f k a0 l1_0 (Int.tmod a2 a0)).bind fun t1524 => ((juntoref01_Within.f k a0 (([a2] : List Int))).bind fun t1530 => ((juntolaw02_is.f k bt1516.1 bt1516.2 t1524 t1530).bind fun t1531 => (if t1531 = true then (if t1503 = 0 then ((juntoref02_Add.f k a0 l1_0 l1_1).bind fun t1534 => ((juntolaw02_is.f k t1508 t1509 t1534 0).bind fun t1537 => (if t1537 = true then ((juntoref02_Sub.f k a0 l1_0 l1_1).bind fun t1538 => ((juntolaw02_is.f k t1512 t1513 t1538 0).bind fun t1541 => (some t1541))) else (some false)))) else ((juntolaw02_is.f k t1508 t1509 ([] : List Int) t1503).bind fun t1532 => (if t1532 = true then ((juntolaw02_is.f k t1512 t1513 ([] : List Int) t1503).bind fun t1533 => (some t1533)) else (some false)))) else (some false)))))) else ((juntolaw02_is.f k t1508 t1509 ([] : List Int) t1507).bind fun t1520 => (if t1520 = true then ((juntolaw02_is.f k t1512 t1513 ([] : List Int) t1507).bind fun t1521 => (if t1521 = true then ((juntolaw02_is.f k bt1516.1 bt1516.2 ([] : List Int) t1507).bind fun t1522 => (if t1522 = true then ((juntolaw02_alive.f k).bind fun t1523 => (some t1523)) else (some false))) else (some false))) else (some false))))) = some r := H
  have A7 := Aside0.mk A70
  clear A70
  replace H := Option.bind_eq_some_iff.mp H
  obtain ⟨⟨t1516, t1519⟩, A80, H⟩ := H
  replace H : (if t1507 = 0 then (if a0 = 0 then (none) else ((juntoref02_Scale.f k a0 l1_0 (Int.tmod a2 a0)).bind fun t1524 => ((juntoref01_Within.f k a0 (([a2] : List Int))).bind fun t1530 => ((juntolaw02_is.f k t1516 t1519 t1524 t1530).bind fun t1531 => (if t1531 = true then (if t1503 = 0 then ((juntoref02_Add.f k a0 l1_0 l1_1).bind fun t1534 => ((juntolaw02_is.f k t1508 t1509 t1534 0).bind fun t1537 => (if t1537 = true then ((juntoref02_Sub.f k a0 l1_0 l1_1).bind fun t1538 => ((juntolaw02_is.f k t1512 t1513 t1538 0).bind fun t1541 => (some t1541))) else (some false)))) else ((juntolaw02_is.f k t1508 t1509 ([] : List Int) t1503).bind fun t1532 => (if t1532 = true then ((juntolaw02_is.f k t1512 t1513 ([] : List Int) t1503).bind fun t1533 => (some t1533)) else (some false)))) else (some false)))))) else ((juntolaw02_is.f k t1508 t1509 ([] : List Int) t1507).bind fun t1520 => (if t1520 = true then ((juntolaw02_is.f k t1512 t1513 ([] : List Int) t1507).bind fun t1521 => (if t1521 = true then ((juntolaw02_is.f k t1516 t1519 ([] : List Int) t1507).bind fun t1522 => (if t1522 = true then ((juntolaw02_alive.f k).bind fun t1523 => (some t1523)) else (some false))) else (some false))) else (some false)))) = some r := H
  have A8 := Aside0.mk A80
  clear A80
  by_cases c9 : t1507 = 0
  · rw [if_pos c9] at H
    have c9b0 : (t1507 == 0) = true := beq_iff_eq.mpr c9
    have c9b1 : (t1507 != 0) = false := bne_eq_false_iff_eq.mpr c9
    clear c9
    by_cases c10 : a0 = 0
    · rw [if_pos c10] at H
      exact absurd H (by simp)
    · rw [if_neg c10] at H
      have c10b0 : (a0 == 0) = false := beq_eq_false_iff_ne.mpr c10
      have c10b1 : (a0 != 0) = true := bne_iff_ne.mpr c10
      replace H := Option.bind_eq_some_iff.mp H
      obtain ⟨t1524, A110, H⟩ := H
      replace H : ((juntoref01_Within.f k a0 (([a2] : List Int))).bind fun t1530 => ((juntolaw02_is.f k t1516 t1519 t1524 t1530).bind fun t1531 => (if t1531 = true then (if t1503 = 0 then ((juntoref02_Add.f k a0 l1_0 l1_1).bind fun t1534 => ((juntolaw02_is.f k t1508 t1509 t1534 0).bind fun t1537 => (if t1537 = true then ((juntoref02_Sub.f k a0 l1_0 l1_1).bind fun t1538 => ((juntolaw02_is.f k t1512 t1513 t1538 0).bind fun t1541 => (some t1541))) else (some false)))) else ((juntolaw02_is.f k t1508 t1509 ([] : List Int) t1503).bind fun t1532 => (if t1532 = true then ((juntolaw02_is.f k t1512 t1513 ([] : List Int) t1503).bind fun t1533 => (some t1533)) else (some false)))) else (some false)))) = some r := H
      have A11 := Aside0.mk A110
      clear A110
      obtain ⟨y1527, hy1527⟩ : ∃ y_ : List Int, y_ = (([a2] : List Int)) := ⟨_, rfl⟩
      replace H : ((juntoref01_Within.f k a0 y1527).bind fun t1530 => ((juntolaw02_is.f k t1516 t1519 t1524 t1530).bind fun t1531 => (if t1531 = true then (if t1503 = 0 then ((juntoref02_Add.f k a0 l1_0 l1_1).bind fun t1534 => ((juntolaw02_is.f k t1508 t1509 t1534 0).bind fun t1537 => (if t1537 = true then ((juntoref02_Sub.f k a0 l1_0 l1_1).bind fun t1538 => ((juntolaw02_is.f k t1512 t1513 t1538 0).bind fun t1541 => (some t1541))) else (some false)))) else ((juntolaw02_is.f k t1508 t1509 ([] : List Int) t1503).bind fun t1532 => (if t1532 = true then ((juntolaw02_is.f k t1512 t1513 ([] : List Int) t1503).bind fun t1533 => (some t1533)) else (some false)))) else (some false)))) = some r := by first | (rw [hy1527]; with_reducible exact H) | (have H2_ := (Option.bind_some _ _).symm.trans H; rw [hy1527]; with_reducible exact H2_) | (have H2_ := (Option.bind_some _ _).symm.trans H; with_reducible exact H2_) | with_reducible exact H | (rw [hy1527]; exact H) | exact H
      have Ny1527 := Aside0.mk hy1527
      clear hy1527
      replace H := Option.bind_eq_some_iff.mp H
      obtain ⟨t1530, A120, H⟩ := H
      replace H : ((juntolaw02_is.f k t1516 t1519 t1524 t1530).bind fun t1531 => (if t1531 = true then (if t1503 = 0 then ((juntoref02_Add.f k a0 l1_0 l1_1).bind fun t1534 => ((juntolaw02_is.f k t1508 t1509 t1534 0).bind fun t1537 => (if t1537 = true then ((juntoref02_Sub.f k a0 l1_0 l1_1).bind fun t1538 => ((juntolaw02_is.f k t1512 t1513 t1538 0).bind fun t1541 => (some t1541))) else (some false)))) else ((juntolaw02_is.f k t1508 t1509 ([] : List Int) t1503).bind fun t1532 => (if t1532 = true then ((juntolaw02_is.f k t1512 t1513 ([] : List Int) t1503).bind fun t1533 => (some t1533)) else (some false)))) else (some false))) = some r := H
      have A12 := Aside0.mk A120
      clear A120
      replace H := Option.bind_eq_some_iff.mp H
      obtain ⟨t1531, A130, H⟩ := H
      replace H : (if t1531 = true then (if t1503 = 0 then ((juntoref02_Add.f k a0 l1_0 l1_1).bind fun t1534 => ((juntolaw02_is.f k t1508 t1509 t1534 0).bind fun t1537 => (if t1537 = true then ((juntoref02_Sub.f k a0 l1_0 l1_1).bind fun t1538 => ((juntolaw02_is.f k t1512 t1513 t1538 0).bind fun t1541 => (some t1541))) else (some false)))) else ((juntolaw02_is.f k t1508 t1509 ([] : List Int) t1503).bind fun t1532 => (if t1532 = true then ((juntolaw02_is.f k t1512 t1513 ([] : List Int) t1503).bind fun t1533 => (some t1533)) else (some false)))) else (some false)) = some r := H
      have A13 := Aside0.mk A130
      clear A130
      by_cases c14 : t1531 = true
      · subst c14
        have H1 : (if t1503 = 0 then ((juntoref02_Add.f k a0 l1_0 l1_1).bind fun t1534 => ((juntolaw02_is.f k t1508 t1509 t1534 0).bind fun t1537 => (if t1537 = true then ((juntoref02_Sub.f k a0 l1_0 l1_1).bind fun t1538 => ((juntolaw02_is.f k t1512 t1513 t1538 0).bind fun t1541 => (some t1541))) else (some false)))) else ((juntolaw02_is.f k t1508 t1509 ([] : List Int) t1503).bind fun t1532 => (if t1532 = true then ((juntolaw02_is.f k t1512 t1513 ([] : List Int) t1503).bind fun t1533 => (some t1533)) else (some false)))) = some r := by rw [if_pos rfl] at H; exact H
        clear H
        have H := H1
        clear H1
        by_cases c15 : t1503 = 0
        · rw [if_pos c15] at H
          have c15b0 : (t1503 == 0) = true := beq_iff_eq.mpr c15
          have c15b1 : (t1503 != 0) = false := bne_eq_false_iff_eq.mpr c15
          clear c15
          replace H := Option.bind_eq_some_iff.mp H
          obtain ⟨t1534, A160, H⟩ := H
          replace H : ((juntolaw02_is.f k t1508 t1509 t1534 0).bind fun t1537 => (if t1537 = true then ((juntoref02_Sub.f k a0 l1_0 l1_1).bind fun t1538 => ((juntolaw02_is.f k t1512 t1513 t1538 0).bind fun t1541 => (some t1541))) else (some false))) = some r := H
          have A16 := Aside0.mk A160
          clear A160
          replace H := Option.bind_eq_some_iff.mp H
          obtain ⟨t1537, A170, H⟩ := H
          replace H : (if t1537 = true then ((juntoref02_Sub.f k a0 l1_0 l1_1).bind fun t1538 => ((juntolaw02_is.f k t1512 t1513 t1538 0).bind fun t1541 => (some t1541))) else (some false)) = some r := H
          have A17 := Aside0.mk A170
          clear A170
          by_cases c18 : t1537 = true
          · subst c18
            have H1 : ((juntoref02_Sub.f k a0 l1_0 l1_1).bind fun t1538 => ((juntolaw02_is.f k t1512 t1513 t1538 0).bind fun t1541 => (some t1541))) = some r := by rw [if_pos rfl] at H; exact H
            clear H
            have H := H1
            clear H1
            replace H := Option.bind_eq_some_iff.mp H
            obtain ⟨t1538, A190, H⟩ := H
            replace H : ((juntolaw02_is.f k t1512 t1513 t1538 0).bind fun t1541 => (some t1541)) = some r := H
            have A19 := Aside0.mk A190
            clear A190
            replace H := Option.bind_eq_some_iff.mp H
            obtain ⟨t1541, A200, H⟩ := H
            replace H : (some t1541) = some r := H
            have A20 := Aside0.mk A200
            clear A200
            obtain rfl := Option.some.inj H
            exact juntolaw02_PolySums_leaf0 k a0 P1_0_ A1_0 c1_0 l1_0 P1_1_ A1_1 c1_1 l1_1 a2 w hs1_0 hs1_1 HO1_0 HO1_1 HB y1500 Ny1500 t1503 A4 y1504 Ny1504 t1507 A5 t1508 t1509 A6 t1512 t1513 A7 t1516 t1519 A8 c9b0 c9b1 c10 c10b0 c10b1 t1524 A11 y1527 Ny1527 t1530 A12 A13 c15b0 c15b1 t1534 A16 A17 t1538 A19 t1541 A20 HRT
          · replace c18 := Bool.eq_false_iff.mpr c18
            subst c18
            have H1 : (some false) = some r := by rw [if_neg (show ¬ (false = true) by decide)] at H; exact H
            clear H
            have H := H1
            clear H1
            exact absurd ((Option.some.inj H).trans HRT.out) (by decide)
        · rw [if_neg c15] at H
          have c15b0 : (t1503 == 0) = false := beq_eq_false_iff_ne.mpr c15
          have c15b1 : (t1503 != 0) = true := bne_iff_ne.mpr c15
          replace H := Option.bind_eq_some_iff.mp H
          obtain ⟨t1532, A440, H⟩ := H
          replace H : (if t1532 = true then ((juntolaw02_is.f k t1512 t1513 ([] : List Int) t1503).bind fun t1533 => (some t1533)) else (some false)) = some r := H
          have A44 := Aside0.mk A440
          clear A440
          by_cases c45 : t1532 = true
          · subst c45
            have H1 : ((juntolaw02_is.f k t1512 t1513 ([] : List Int) t1503).bind fun t1533 => (some t1533)) = some r := by rw [if_pos rfl] at H; exact H
            clear H
            have H := H1
            clear H1
            replace H := Option.bind_eq_some_iff.mp H
            obtain ⟨t1533, A460, H⟩ := H
            replace H : (some t1533) = some r := H
            have A46 := Aside0.mk A460
            clear A460
            obtain rfl := Option.some.inj H
            exact juntolaw02_PolySums_leaf1 k a0 P1_0_ A1_0 c1_0 l1_0 P1_1_ A1_1 c1_1 l1_1 a2 w hs1_0 hs1_1 HO1_0 HO1_1 HB y1500 Ny1500 t1503 A4 y1504 Ny1504 t1507 A5 t1508 t1509 A6 t1512 t1513 A7 t1516 t1519 A8 c9b0 c9b1 c10 c10b0 c10b1 t1524 A11 y1527 Ny1527 t1530 A12 A13 c15 c15b0 c15b1 A44 t1533 A46 HRT
          · replace c45 := Bool.eq_false_iff.mpr c45
            subst c45
            have H1 : (some false) = some r := by rw [if_neg (show ¬ (false = true) by decide)] at H; exact H
            clear H
            have H := H1
            clear H1
            exact absurd ((Option.some.inj H).trans HRT.out) (by decide)
      · replace c14 := Bool.eq_false_iff.mpr c14
        subst c14
        have H1 : (some false) = some r := by rw [if_neg (show ¬ (false = true) by decide)] at H; exact H
        clear H
        have H := H1
        clear H1
        exact absurd ((Option.some.inj H).trans HRT.out) (by decide)
  · rw [if_neg c9] at H
    have c9b0 : (t1507 == 0) = false := beq_eq_false_iff_ne.mpr c9
    have c9b1 : (t1507 != 0) = true := bne_iff_ne.mpr c9
    replace H := Option.bind_eq_some_iff.mp H
    obtain ⟨t1520, A660, H⟩ := H
    replace H : (if t1520 = true then ((juntolaw02_is.f k t1512 t1513 ([] : List Int) t1507).bind fun t1521 => (if t1521 = true then ((juntolaw02_is.f k t1516 t1519 ([] : List Int) t1507).bind fun t1522 => (if t1522 = true then ((juntolaw02_alive.f k).bind fun t1523 => (some t1523)) else (some false))) else (some false))) else (some false)) = some r := H
    have A66 := Aside0.mk A660
    clear A660
    by_cases c67 : t1520 = true
    · subst c67
      have H1 : ((juntolaw02_is.f k t1512 t1513 ([] : List Int) t1507).bind fun t1521 => (if t1521 = true then ((juntolaw02_is.f k t1516 t1519 ([] : List Int) t1507).bind fun t1522 => (if t1522 = true then ((juntolaw02_alive.f k).bind fun t1523 => (some t1523)) else (some false))) else (some false))) = some r := by rw [if_pos rfl] at H; exact H
      clear H
      have H := H1
      clear H1
      replace H := Option.bind_eq_some_iff.mp H
      obtain ⟨t1521, A680, H⟩ := H
      replace H : (if t1521 = true then ((juntolaw02_is.f k t1516 t1519 ([] : List Int) t1507).bind fun t1522 => (if t1522 = true then ((juntolaw02_alive.f k).bind fun t1523 => (some t1523)) else (some false))) else (some false)) = some r := H
      have A68 := Aside0.mk A680
      clear A680
      by_cases c69 : t1521 = true
      · subst c69
        have H1 : ((juntolaw02_is.f k t1516 t1519 ([] : List Int) t1507).bind fun t1522 => (if t1522 = true then ((juntolaw02_alive.f k).bind fun t1523 => (some t1523)) else (some false))) = some r := by rw [if_pos rfl] at H; exact H
        clear H
        have H := H1
        clear H1
        replace H := Option.bind_eq_some_iff.mp H
        obtain ⟨t1522, A700, H⟩ := H
        replace H : (if t1522 = true then ((juntolaw02_alive.f k).bind fun t1523 => (some t1523)) else (some false)) = some r := H
        have A70 := Aside0.mk A700
        clear A700
        by_cases c71 : t1522 = true
        · subst c71
          have H1 : ((juntolaw02_alive.f k).bind fun t1523 => (some t1523)) = some r := by rw [if_pos rfl] at H; exact H
          clear H
          have H := H1
          clear H1
          replace H := Option.bind_eq_some_iff.mp H
          obtain ⟨t1523, A720, H⟩ := H
          replace H : (some t1523) = some r := H
          have A72 := Aside0.mk A720
          clear A720
          obtain rfl := Option.some.inj H
          exact juntolaw02_PolySums_leaf2 k a0 P1_0_ A1_0 c1_0 l1_0 P1_1_ A1_1 c1_1 l1_1 a2 w hs1_0 hs1_1 HO1_0 HO1_1 HB y1500 Ny1500 t1503 A4 y1504 Ny1504 t1507 A5 t1508 t1509 A6 t1512 t1513 A7 t1516 t1519 A8 c9 c9b0 c9b1 A66 A68 A70 t1523 A72 HRT
        · replace c71 := Bool.eq_false_iff.mpr c71
          subst c71
          have H1 : (some false) = some r := by rw [if_neg (show ¬ (false = true) by decide)] at H; exact H
          clear H
          have H := H1
          clear H1
          exact absurd ((Option.some.inj H).trans HRT.out) (by decide)
      · replace c69 := Bool.eq_false_iff.mpr c69
        subst c69
        have H1 : (some false) = some r := by rw [if_neg (show ¬ (false = true) by decide)] at H; exact H
        clear H
        have H := H1
        clear H1
        exact absurd ((Option.some.inj H).trans HRT.out) (by decide)
    · replace c67 := Bool.eq_false_iff.mpr c67
      subst c67
      have H1 : (some false) = some r := by rw [if_neg (show ¬ (false = true) by decide)] at H; exact H
      clear H
      have H := H1
      clear H1
      exact absurd ((Option.some.inj H).trans HRT.out) (by decide)

end Go.Proofs.Ytjjnfobeeflnhaa.J

/- Both tests of a prime and rows of coefficients answer alike, and what they answer; the chapter's example holds. -/
namespace Go.Proofs.Ytjjnfobeeflnhaa.L
open Go.RowKit Go.Proofs.YtjjnfobeeflnhaaW.PrintWords Go.Proofs.Ytjjnfobeeflnhaa.J
set_option linter.unusedVariables false
set_option linter.unusedSimpArgs false

theorem alive02 : Ev (fun k => juntolaw02_alive.f k) true := Ev.of juntolaw02_alive.mono (k := 60) (by decide +kernel)

/-- What both tests answer: 0, 2 or 3. -/
def okV (p : Int) (l : List (List Int)) : Int := if isP p = true then isV p l else 2
theorem poly_ok (p : Int) (l : List (List Int)) (hn : l.length ≤ 1000000) (hl : ∀ f ∈ l, f.length ≤ maxLen) : Ev (fun k => poly_Is.f k p l) (okV p l) := by
  unfold okV
  by_cases hp : isP p = true
  · rw [if_pos hp]
    exact poly_is p l hn hl hp
  · rw [if_neg hp]
    unfold poly_Is.f
    refine Ev.bind (field_is p) ?_
    simp only [hp, if_false]
    exact Ev.now _
theorem right_loop (p : Int) (l : List (List Int)) (hn : l.length ≤ 1000000) (hl : ∀ f ∈ l, f.length ≤ maxLen) (m : Nat) : ∀ i : Nat, i + m = l.length → Ev (fun k => juntoref02_Right.l0 k p l (l.length : Int) (i : Int)) (isV p (l.drop i)) := by
  induction m with
  | zero =>
    intro i hi
    rw [List.drop_of_length_le (by omega), isV]
    refine Ev.step (f := fun k => some 0) (fun k => ?_) (Ev.now _)
    simp only [juntoref02_Right.l0]
    rw [if_neg (by omega)]
  | succ m ih =>
    intro i hi
    have hlt : i < l.length := by omega
    have hr : rd_L3 l (i : Int) = l[i] := by simp [rd_L3, List.getD_eq_getElem?_getD, hlt]
    have hw : wrap64 ((i : Int) + 1) = ((i + 1 : Nat) : Int) := by rw [w64_small (by omega) (by omega)]; omega
    rw [List.drop_eq_getElem_cons hlt, isV]
    refine Ev.step (f := fun k => (juntoref02_Within.f k p l[i]).bind fun t => if t = 0 then juntoref02_Right.l0 k p l (l.length : Int) ((i + 1 : Nat) : Int) else some t) (fun k => ?_) (Ev.bind (ref_rowok p _ (hl _ (List.getElem_mem hlt))) ?_)
    · conv => lhs; simp only [juntoref02_Right.l0]
      rw [if_pos (by omega), if_pos (by omega), if_pos (by omega), hr, hw]
    · by_cases h0 : withinV p l[i] = 0
      · simp only [h0, if_true]
        exact ih (i + 1) (by omega)
      · simp only [h0, if_false]
        exact Ev.now _
theorem ref_right (p : Int) (l : List (List Int)) (hn : l.length ≤ 1000000) (hl : ∀ f ∈ l, f.length ≤ maxLen) : Ev (fun k => juntoref02_Right.f k p l) (okV p l) := by
  unfold juntoref02_Right.f okV
  refine Ev.bind (ref_is p) ?_
  by_cases hp : isP p = true
  · simp only [hp, if_true]
    have h := right_loop p l hn hl l.length 0 (by omega)
    rw [List.drop_zero] at h
    exact h
  · simp only [hp, if_false]
    exact Ev.now _
theorem okV_one {p : Int} {f : List Int} (h : okV p [f] = 0) : isP p = true ∧ withinV p f = 0 := by
  unfold okV at h
  split at h
  · rw [isV_one] at h
    exact ⟨by assumption, h⟩
  · cases h
theorem okV_len (f : List Int) (hf : f.length ≤ maxLen) : ∀ g ∈ [f], g.length ≤ maxLen := fun g hg => by rw [List.mem_singleton.1 hg]; exact hf
/-- A prime and a row of its residues. -/
theorem row_of {p : Int} {f : List Int} (h : okV p [f] = 0) (hu : ∀ c ∈ f, 0 ≤ c) : ∃ (q : Nat) (_ : NeZero q) (g : List (Fin q)), p = (q : Int) ∧ f = oI g ∧ 2 < q ∧ q ≤ 65537 ∧ Fld.Pr q ∧ g.length ≤ 201 := by
  obtain ⟨hp, hw⟩ := okV_one h
  have h2 := (isP_iff p).1 hp
  obtain ⟨q, rfl⟩ : ∃ q : Nat, p = (q : Int) := ⟨p.toNat, by omega⟩
  have hz : NeZero q := ⟨by omega⟩
  obtain ⟨g, hg, hl⟩ := rows_of hw hu
  exact ⟨q, hz, g, rfl, hg.symm, by omega, by omega, pr_of_isP hp, hl⟩

theorem is02_same (l : List Int) (hl : l.length ≤ maxLen) : Ev (fun k => juntolaw02_is.f k l 0 l 0) true := by
  unfold juntolaw02_is.f
  simp only [if_true]
  exact Ev.bind (same_self l hl) (Ev.now _)
theorem is02_bad (e : Int) (h : e ≠ 0) : Ev (fun k => juntolaw02_is.f k [] e [] e) true := by
  unfold juntolaw02_is.f
  simp only [h, if_true, if_false]
  exact Ev.now _
end Go.Proofs.Ytjjnfobeeflnhaa.L

/- The statement PolyValues as plain Lean. -/
namespace Go.Proofs.Ytjjnfobeeflnhaa.L
open Go.RowKit Go.Proofs.YtjjnfobeeflnhaaW.PrintWords Go.Proofs.Ytjjnfobeeflnhaa.J
set_option linter.unusedVariables false
set_option linter.unusedSimpArgs false

theorem okV_two (p : Int) (f : List Int) (x : Int) : okV p [f, [x]] = if okV p [f] = 0 then (if x < p then 0 else 2) else okV p [f] := by
  unfold okV
  by_cases hp : isP p = true
  · simp only [hp, if_true, isV_one]
    rw [isV, isV_one, withinV_ne p [x] (by simp)]
    unfold belowV
    simp
  · simp only [hp, if_false]
    simp
theorem one_len (f : List Int) (x : Int) (hf : f.length ≤ maxLen) : ∀ g ∈ [f, [x]], g.length ≤ maxLen := fun g hg => by
  rcases List.mem_cons.1 hg with rfl | hg
  · exact hf
  · rw [List.mem_singleton.1 hg]; simp [maxLen]

end Go.Proofs.Ytjjnfobeeflnhaa.L

/- What works on two rows of coefficients tells: tests, products, divisions, greatest common divisors. -/
namespace Go.Proofs.Ytjjnfobeeflnhaa.L
open Go.RowKit Go.Proofs.YtjjnfobeeflnhaaW.PrintWords Go.Proofs.Ytjjnfobeeflnhaa.J
set_option linter.unusedVariables false
set_option linter.unusedSimpArgs false

theorem pair_len (f g : List Int) (hf : f.length ≤ maxLen) (hg : g.length ≤ maxLen) : ∀ x ∈ [f, g], x.length ≤ maxLen := fun x hx => by
  rcases List.mem_cons.1 hx with rfl | hx
  · exact hf
  · rw [List.mem_singleton.1 hx]; exact hg
theorem okV_pair {p : Int} {f g : List Int} (h : okV p [f, g] = 0) : okV p [f] = 0 ∧ withinV p g = 0 := by
  unfold okV at h ⊢
  split at h
  · rename_i hp
    rw [isV, isV_one] at h
    split at h
    · rename_i hf
      rw [if_pos hp, isV_one]
      exact ⟨hf, h⟩
    · contradiction
  · cases h
theorem two_bad (d : Nat → Int → List Int → List Int → Option (List Int)) (p : Int) (f g : List Int) (hf : f.length ≤ maxLen) (hg : g.length ≤ maxLen) (h : okV p [f, g] ≠ 0) : Ev (fun k => poly_two.f k d p f g) ([], okV p [f, g]) := by
  unfold poly_two.f
  refine Ev.bind (poly_ok _ _ (by simp) (pair_len f g hf hg)) ?_
  simp only [h, if_false]
  exact Ev.now _
theorem two_ok (d : Nat → Int → List Int → List Int → Option (List Int)) (p : Int) (f g r : List Int) (hf : f.length ≤ maxLen) (hg : g.length ≤ maxLen) (h : okV p [f, g] = 0) (hd : Ev (fun k => d k p f g) r) : Ev (fun k => poly_two.f k d p f g) (r, 0) := by
  unfold poly_two.f
  refine Ev.bind (poly_ok _ _ (by simp) (pair_len f g hf hg)) ?_
  simp only [h, if_true]
  exact Ev.bind hd (Ev.now _)
section
variable {q : Nat}
theorem oI_max (f : List (Fin q)) (h : f.length ≤ 1000) : (oI f).length ≤ maxLen := by rw [oI_length]; simp only [maxLen]; omega
end
section
variable {q : Nat} [NeZero q]
/-! the greatest common divisor -/
/-- d divides f. -/
def Dvd (d f : List (Fin q)) : Prop := ∃ c, Fld.Eqv f (Fld.mul c d)
theorem Dvd.nil (d : List (Fin q)) : Dvd d [] := ⟨[], Fld.Eqv.refl _⟩
end
end Go.Proofs.Ytjjnfobeeflnhaa.L

/- The statement PolyValued as plain Lean. -/
namespace Go.Proofs.Ytjjnfobeeflnhaa.L
open Go.RowKit Go.Proofs.YtjjnfobeeflnhaaW.PrintWords Go.Proofs.Ytjjnfobeeflnhaa.J
set_option linter.unusedVariables false
set_option linter.unusedSimpArgs false

section
variable {q : Nat} [NeZero q]
theorem minusI_fp (hq : q ≤ 65537) (f g : List (Fin q)) : minusI (q : Int) (oI f) (oI g) = oI (Fld.trim (Fld.sub f g)) :=
  zip_fp (fun a b => (field_Minus.f (q : Int) a b).getD 0) (fun a b => a - b) (fun a b => by simp only [minus_fp hq, Option.getD_some]) f g
theorem minus_rows (hq : q ≤ 65537) (f g : List (Fin q)) (hf : f.length ≤ 1000000000) (hg : g.length ≤ 1000000000) : Ev (fun k => poly_Minus.f k (q : Int) (oI f) (oI g)) (oI (Fld.trim (Fld.sub f g))) := by
  have hz : (q : Int) ≠ 0 := by have := q_pos (q := q); omega
  have h := minusI_spec (q : Int) (oI f) (oI g) hz (by rw [oI_length, oI_length]; omega) (2 * max (oI f).length (oI g).length + 2) (by omega)
  rw [minusI_fp hq] at h
  exact Ev.of (poly_Minus.mono _ _ _) h
end
section
variable {q : Nat}
theorem okV_x (f : List (Fin q)) (x : Fin q) (h : okV (q : Int) [oI f] = 0) : okV (q : Int) [oI f, [nI x]] = 0 := by
  have := nI_range x
  rw [okV_two, if_pos h, if_pos (by omega)]
end

end Go.Proofs.Ytjjnfobeeflnhaa.L

/- The statement PolySums as plain Lean. -/
namespace Go.Proofs.Ytjjnfobeeflnhaa.L
open Go.RowKit Go.Proofs.YtjjnfobeeflnhaaW.PrintWords Go.Proofs.Ytjjnfobeeflnhaa.J
set_option linter.unusedVariables false
set_option linter.unusedSimpArgs false

theorem is02_badW (e : Int) (W : List Int) (h : e ≠ 0) : Ev (fun k => juntolaw02_is.f k [] e W e) true := by
  unfold juntolaw02_is.f
  simp only [h, if_true, if_false]
  exact Ev.now _
theorem okV_head {p : Int} {f g : List Int} (h : okV p [f] ≠ 0) : okV p [f, g] = okV p [f] := by
  unfold okV at h ⊢
  by_cases hp : isP p = true
  · simp only [hp, if_true, isV_one] at h ⊢
    rw [isV, if_neg h]
  · simp only [hp, if_false, Bool.false_eq_true]
theorem add_bad (p : Int) (f g : List Int) (hf : f.length ≤ maxLen) (hg : g.length ≤ maxLen) (h : okV p [f, g] ≠ 0) : Ev (fun k => poly_Add.f k p f g) ([], okV p [f, g]) := by
  unfold poly_Add.f
  exact Ev.bind (two_bad _ _ _ _ hf hg h) (Ev.now _)
theorem sub_bad (p : Int) (f g : List Int) (hf : f.length ≤ maxLen) (hg : g.length ≤ maxLen) (h : okV p [f, g] ≠ 0) : Ev (fun k => poly_Sub.f k p f g) ([], okV p [f, g]) := by
  unfold poly_Sub.f
  exact Ev.bind (two_bad _ _ _ _ hf hg h) (Ev.now _)
theorem scale_bad (p : Int) (f : List Int) (x : Int) (hf : f.length ≤ maxLen) (h : okV p [f, [x]] ≠ 0) : Ev (fun k => poly_Scale.f k p f x) ([], okV p [f, [x]]) := by
  unfold poly_Scale.f
  refine Ev.bind (poly_ok _ _ (by simp) (one_len _ _ hf)) ?_
  simp only [h, if_false]
  exact Ev.now _

theorem polySums (x0 : Int) (x1_0 : List Int) (x1_1 : List Int) (x2 : Int) (w0 : (Lit.int .u64 x0).wf = true) (w1_0 : x1_0.length ≤ maxLen ∧ x1_0.length * 8 ≤ 140737488351232 ∧ ∀ x1_0' ∈ x1_0, (Lit.int .u64 x1_0').wf = true) (w1_1 : x1_1.length ≤ maxLen ∧ x1_1.length * 8 ≤ 140737488351232 ∧ ∀ x1_1' ∈ x1_1, (Lit.int .u64 x1_1').wf = true) (w2 : (Lit.int .u64 x2).wf = true) : ∃ k, juntolaw02_PolySums.f k x0 x1_0 x1_1 x2 = some true := by
  suffices h : Ev (fun k => juntolaw02_PolySums.f k x0 x1_0 x1_1 x2) true from h.rounds
  have hu : ∀ c ∈ x1_0, 0 ≤ c := fun c hc => (u64_wf (w1_0.2.2 c hc)).1
  have hv : ∀ c ∈ x1_1, 0 ≤ c := fun c hc => (u64_wf (w1_1.2.2 c hc)).1
  have hx := (u64_wf w2).1
  unfold juntolaw02_PolySums.f
  refine Ev.bind (ref_right _ _ (by simp) (pair_len _ _ w1_0.1 w1_1.1)) ?_
  refine Ev.bind (ref_right _ _ (by simp) (okV_len _ w1_0.1)) ?_
  by_cases h1 : okV x0 [x1_0] = 0
  · obtain ⟨q, hz, f, rfl, rfl, h2, hq, hp, hf⟩ := row_of h1 hu
    have hisP := (okV_one h1).1
    have hr0 : 0 ≤ x2 % (q : Int) := Int.emod_nonneg _ (by omega)
    have hr1 : x2 % (q : Int) < (q : Int) := Int.emod_lt_of_pos _ (by omega)
    obtain ⟨c, hc⟩ := nI_of (q := q) hr0 hr1
    have hm : Int.tmod x2 (q : Int) = nI c := by rw [Int.tmod_eq_emod_of_nonneg hx, hc]
    have hq0 : ¬ ((q : Int) = 0) := by omega
    have lsm := Fld.trim_length_le (Fld.smul c f)
    rw [Fld.smul_length] at lsm
    -- the product with a number
    obtain ⟨m, e, scl, wth, isr⟩ : ∃ m e, Ev (fun k => poly_Scale.f k (q : Int) (oI f) x2) (m, e) ∧ Ev (fun k => juntoref01_Within.f k (q : Int) [x2]) e ∧ Ev (fun k => juntolaw02_is.f k m e (oI (Fld.trim (Fld.smul c f))) e) true := by
      have hb : belowV (q : Int) [x2] = if x2 < (q : Int) then 0 else 2 := by unfold belowV; simp
      have hw := ref_within (q : Int) [x2] (by simp [maxLen])
      rw [hb] at hw
      by_cases hlt : x2 < (q : Int)
      · rw [if_pos hlt] at hw
        have hc2 : x2 = nI c := by rw [hc, Int.emod_eq_of_lt hx hlt]
        refine ⟨oI (Fld.trim (Fld.smul c f)), 0, ?_, hw, is02_same _ (oI_max _ (by omega))⟩
        rw [hc2]
        unfold poly_Scale.f
        refine Ev.bind (poly_ok _ _ (by simp) (one_len _ _ w1_0.1)) ?_
        simp only [okV_x f c h1, if_true]
        exact Ev.bind (by_rows hq f c (by omega)) (Ev.now _)
      · rw [if_neg hlt] at hw
        have h3 : okV (q : Int) [oI f, [x2]] = 2 := by rw [okV_two, if_pos h1, if_neg hlt]
        have := scale_bad (q : Int) (oI f) x2 w1_0.1 (by rw [h3]; decide)
        rw [h3] at this
        exact ⟨[], 2, this, hw, is02_badW 2 _ (by decide)⟩
    have rsc := scale_rows hq f c (by omega)
    by_cases h0 : okV (q : Int) [oI f, x1_1] = 0
    · obtain ⟨g, rfl, hg⟩ := rows_of (okV_pair h0).2 hv
      have ls := Fld.trim_length_le (Fld.add f g)
      have ld := Fld.trim_length_le (Fld.sub f g)
      rw [Fld.add_length] at ls
      rw [Fld.sub_length] at ld
      have s : Ev (fun k => poly_Add.f k (q : Int) (oI f) (oI g)) (oI (Fld.trim (Fld.add f g)), 0) := by
        unfold poly_Add.f
        exact Ev.bind (two_ok _ _ _ _ _ (oI_max f (by omega)) (oI_max g (by omega)) h0 (plus_rows hq f g (by omega) (by omega))) (Ev.now _)
      have d : Ev (fun k => poly_Sub.f k (q : Int) (oI f) (oI g)) (oI (Fld.trim (Fld.sub f g)), 0) := by
        unfold poly_Sub.f
        exact Ev.bind (two_ok _ _ _ _ _ (oI_max f (by omega)) (oI_max g (by omega)) h0 (minus_rows hq f g (by omega) (by omega))) (Ev.now _)
      refine Ev.bind s (Ev.bind d (Ev.bind scl ?_))
      simp only [h1, if_true, hq0, if_false, hm]
      refine Ev.bind rsc (Ev.bind wth (Ev.bind isr ?_))
      simp only [if_true, h0]
      refine Ev.bind (add_rows hq f g (by omega) (by omega)) (Ev.bind (is02_same _ (oI_max _ (by omega))) ?_)
      simp only [if_true]
      exact Ev.bind (sub_rows (by omega) hq f g (by omega) (by omega)) (Ev.bind (is02_same _ (oI_max _ (by omega))) (Ev.now _))
    · refine Ev.bind (add_bad _ _ _ w1_0.1 w1_1.1 h0) (Ev.bind (sub_bad _ _ _ w1_0.1 w1_1.1 h0) (Ev.bind scl ?_))
      simp only [h1, if_true, hq0, if_false, hm]
      refine Ev.bind rsc (Ev.bind wth (Ev.bind isr ?_))
      simp only [if_true, h0, if_false]
      refine Ev.bind (is02_bad _ h0) ?_
      simp only [if_true]
      exact Ev.bind (is02_bad _ h0) (Ev.now _)
  · have e1 := okV_head (g := x1_1) h1
    have e2 : okV x0 [x1_0, [x2]] = okV x0 [x1_0] := okV_head h1
    have a := add_bad x0 x1_0 x1_1 w1_0.1 w1_1.1 (by rw [e1]; exact h1)
    have b := sub_bad x0 x1_0 x1_1 w1_0.1 w1_1.1 (by rw [e1]; exact h1)
    have c := scale_bad x0 x1_0 x2 w1_0.1 (by rw [e2]; exact h1)
    rw [e1] at a b
    rw [e2] at c
    refine Ev.bind a (Ev.bind b (Ev.bind c ?_))
    simp only [h1, if_false]
    refine Ev.bind (is02_bad _ h1) ?_
    simp only [if_true]
    refine Ev.bind (is02_bad _ h1) ?_
    simp only [if_true]
    refine Ev.bind (is02_bad _ h1) ?_
    simp only [if_true]
    exact Ev.bind alive02 (Ev.now _)

end Go.Proofs.Ytjjnfobeeflnhaa.L

/- The row of PolySums: for every input the call returns true and changes nothing; no conditions. Out of the contract of the function and the plain law. -/
namespace Go.Proofs.Ytjjnfobeeflnhaa.polySums
open Go.ChangeShapes Go.WideShapes Go.ChangeAt Go.RowKit Go.Proofs.YtjjnfobeeflnhaaW.PrintWords Go.Proofs.Ytjjnfobeeflnhaa.J Go.Proofs.Ytjjnfobeeflnhaa.Op
set_option linter.unusedVariables false
theorem own : ownKnob Try.prog.godebug = none := by kernel_rfl
theorem laidOut : laidOutB Try.prog = true := by kernel_rfl
set_option maxRecDepth 100000 in
theorem op0 : Opens Try.prog (Kd.int .u64) 22 (fun n => (Lit.int .u64 n).wf = true) := (op_int Try.underlying22)
set_option maxRecDepth 100000 in
theorem op1 : Opens Try.prog (Kd.pair (Kd.slice 22 (Kd.int .u64)) (Kd.slice 22 (Kd.int .u64))) 90 (fun x => (fun l => l.length ≤ maxLen ∧ l.length * 8 ≤ 140737488351232 ∧ ∀ a ∈ l, (fun n => (Lit.int .u64 n).wf = true) a) x.1 ∧ (fun l => l.length ≤ maxLen ∧ l.length * 8 ≤ 140737488351232 ∧ ∀ a ∈ l, (fun n => (Lit.int .u64 n).wf = true) a) x.2) := (op_array2 Try.underlying90 (by kernel_rfl) (op_slice Try.underlying31 (by kernel_rfl) (by kernel_rfl) (op_int Try.underlying22)))
set_option maxRecDepth 100000 in
theorem op2 : Opens Try.prog (Kd.int .u64) 22 (fun n => (Lit.int .u64 n).wf = true) := (op_int Try.underlying22)
set_option maxRecDepth 100000 in
theorem lifted (os : Os) (started : os.Started) (H : Type) (enc : TypeId × Value → H) :
    ReturnsInHanded {} Try.checked os 26 .any (Rows.polySumsSpec.pre6 enc Try.prog Try.f26 Rows.polySumsRow.domain false) (Rows.polySumsSpec.post enc Try.prog Try.f26 false true false false) := by
  refine returnsInHanded_of_change_sized (C := Try.checked) own started (by kernel_rfl) Try.func26
    (ChangeSpec.witness6 (enc := enc) (C := Try.checked) false ⟨#[], #[.int .u64 0, .agg #[.slice none 0 0, .slice none 0 0], .int .u64 0], []⟩ 8 (by kernel_rfl) (by kernel_rfl) (by kernel_rfl) (by kernel_rfl)) ?_
  intro W base args ds gs before hval0 hW hcnd hsz0 _
  have hsz : (DataW.weightsEach Try.prog (Try.f26.params.toList ++ Rows.polySumsSpec.plain.varTypes Try.prog) (ds ++ gs)).all (· ≤ reachBytes) = true := hsz0
  have hval : ∀ (j : Nat) t v, Try.f26.params[j]? = some t → args[j]? = some v → Value.okWide Try.prog W .any base t v := hval0
  have hW' := hW
  obtain ⟨p, q, hA0, hV, rfl, hfz, hnd⟩ := hW
  have hA : DataW.TrodAll enc Try.prog W 0 (fun _ => true) true Try.f26.params.toList args.toList ds p := hA0
  rw [Try.params26] at hA hval hsz
  obtain ⟨v0, vs0, d0, ds0, p0, q0, hargs, rfl, rfl, h0, r0⟩ := trodAll_cons hA
  obtain ⟨v1, vs1, d1, ds1, p1, q1, rfl, rfl, rfl, h1, r1⟩ := trodAll_cons r0
  obtain ⟨v2, vs2, d2, ds2, p2, q2, rfl, rfl, rfl, h2, r2⟩ := trodAll_cons r1
  obtain ⟨rfl, rfl, rfl⟩ := trodAll_nil r2
  obtain rfl : args = #[v0, v1, v2] := by cases args; simp_all
  obtain ⟨rfl, rfl⟩ := trodVars_none hV
  have k0 := h0
  have lt0 : ∀ x ∈ p0, x.block < W.heap.size := by obtain ⟨m, hm⟩ := k0; exact DataW.trod_lt m _ _ _ hm
  obtain ⟨x0, rfl⟩ := okWide_int Try.underlying22 (hval 0 22 v0 rfl rfl)
  obtain ⟨y0, e0, w0⟩ := arg op0 rfl h0 hsz (j := 0) rfl rfl
  have e0' : [Value.int .u64 x0] = [Value.int .u64 y0] := e0
  obtain rfl : x0 = y0 := by simpa using e0'
  have k1 := h1
  have lt1 : ∀ x ∈ p1, x.block < W.heap.size := by obtain ⟨m, hm⟩ := k1; exact DataW.trod_lt m _ _ _ hm
  obtain ⟨cs1, rfl, hn1⟩ := okWide_arr Try.underlying90 (hval 1 90 v1 rfl rfl)
  obtain ⟨⟨x1_0, x1_1⟩, K1, ⟨w1_0, w1_1⟩⟩ := arg op1 (by show cs1.toList.length = _; rw [Array.length_toList, hn1]; kernel_rfl) h1 hsz (j := 1) rfl rfl
  obtain ⟨g1_0, rg1_0, qg1_0, l1_0, M1_0⟩ := K1
  obtain ⟨A1_0, c1_0, l1_0', hc1_0, hr1_0⟩ := l1_0
  obtain ⟨A1_1, c1_1, M1_0', hc1_1, hr1_1⟩ := M1_0
  obtain rfl : cs1 = #[.slice A1_0 x1_0.length c1_0, .slice A1_1 x1_1.length c1_1] := by
    apply Array.toList_inj.1
    have z1 : cs1.toList = _ := qg1_0
    rw [z1, l1_0', M1_0']
    rfl
  have k2 := h2
  have lt2 : ∀ x ∈ p2, x.block < W.heap.size := by obtain ⟨m, hm⟩ := k2; exact DataW.trod_lt m _ _ _ hm
  obtain ⟨x2, rfl⟩ := okWide_int Try.underlying22 (hval 2 22 v2 rfl rfl)
  obtain ⟨y2, e2, w2⟩ := arg op2 rfl h2 hsz (j := 2) rfl rfl
  have e2' : [Value.int .u64 x2] = [Value.int .u64 y2] := e2
  obtain rfl : x2 = y2 := by simpa using e2'
  clear hA0 hval0 hsz0 hsz
  obtain ⟨k, h⟩ := L.polySums x0 x1_0 x1_1 x2 w0 w1_0 w1_1 w2
  refine (juntolaw02_PolySums.calls k x0 (fun k => k < W.heap.size) _ _ x1_0 (fun k => k < W.heap.size) _ _ x1_1 x2 true W (Kd.V_mk hc1_0 (Kd.C_F (Kd.heap_int _) hr1_0)) (Kd.V_mk hc1_1 (Kd.C_F (Kd.heap_int _) hr1_1)) h).mono fun e W' ⟨he, bel⟩ => ?_
  subst he
  exact ⟨_, rfl, _, _, _, [], _, [], hW', trodAll_mk1 (shut_bool Try.underlying4 _), (trodAll_cons_mk (Below.trod laidOut (by kernel_rfl) (of_decide_eq_true (by kernel_rfl)) k0 bel lt0) (trodAll_cons_mk (Below.trod laidOut (by kernel_rfl) (of_decide_eq_true (by kernel_rfl)) k1 bel lt1) (trodAll_cons_mk (Below.trod laidOut (by kernel_rfl) (of_decide_eq_true (by kernel_rfl)) k2 bel lt2) trodAll_mk0))), rfl, bel.frame _, fun h => by cases h⟩
set_option maxRecDepth 100000 in
theorem closed : joinedFacts Try.pinned.checked.prog 26 Try.f26 Rows.polySumsSpec Rows.polySumsRow = true := by
  unfold joinedFacts
  repeat' with_reducible refine Bool.and_eq_true_iff.2 ⟨?_, ?_⟩
  all_goals first
    | with_reducible exact Facts.enters
    | (rw [Facts.final]; kernel_rfl)
    | (rw [Facts.made]; kernel_rfl)
    | kernel_rfl
theorem over : Rows.polySumsRow.holds Try.pinned (OpenSpec.ofChange Rows.polySumsSpec) :=
  OpenClaim.holds_of_wide 26 Try.f26 rfl rfl rfl rfl rfl rfl rfl ⟨rfl, rfl, rfl, rfl, rfl⟩ rfl rfl rfl rfl rfl (by kernel_rfl) Try.func26 closed
    (of_decide_eq_true (by kernel_rfl)) (by unfold Func.isWrapper; first | (rw [if_pos (by decide +kernel)]; kernel_rfl) | (rw [if_neg (by decide +kernel)]; exact ⟨rfl, rfl⟩))
    (fun os started H enc _ => lifted os started H enc)
theorem proved : Rows.PolySumsSaid := over
#print axioms proved
end Go.Proofs.Ytjjnfobeeflnhaa.polySums
namespace Go.Proofs.Ytjjnfobeeflnhaa
/-- The row, under a short name, for the claim. -/
theorem polySums_holds : Rows.PolySumsSaid := polySums.proved
end Go.Proofs.Ytjjnfobeeflnhaa
