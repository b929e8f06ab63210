/- Part 6 of the proof of PolyBack: what the functions compute as plain Lean functions, that the machine comes to just these answers, and that the answer is true; no conditions. -/
import Derived.Test.YtjjnfobeeflnhaaPolyBackZ0
import Derived.Test.YtjjnfobeeflnhaaPolyBackZ1
import Derived.Test.YtjjnfobeeflnhaaPolyBackZ2
import Derived.Test.YtjjnfobeeflnhaaPolyBackZ3
import Derived.Test.YtjjnfobeeflnhaaPolyBackZ4
import Derived.Test.YtjjnfobeeflnhaaPolyBackZ5
import Derived.Test.YtjjnfobeeflnhaaRows
import Derived.WalkKit
import Derived.ProofKit
import Derived.OpenShut
import Derived.ShutString
import Derived.ChangeOld
import Derived.Below
import Derived.SizedLaws
/- What Go functions of the program compute, as plain Lean functions, and that the machine comes to just these answers (written by a program for this seat). -/
namespace Go.Proofs.Ytjjnfobeeflnhaa.J
open Go.RowKit Go.Proofs.YtjjnfobeeflnhaaW.PrintWords Go.Proofs.YtjjnfobeeflnhaaW.PrintLast Go.Proofs.YtjjnfobeeflnhaaW.PrintMore
attribute [local go_sem] max2_int min2_int max_two min_two max_three min_three max_four min_four   -- for this text's walks alone
set_option linter.unusedVariables false
set_option linter.unusedSimpArgs false

/-! ### poly_Eval: function 107 -/
def poly_Eval.f (k : Nat) (a0 : Int) (l1 : List Int) (a2 : Int) : Option (Int × Int) := (poly_Is.f k a0 (([l1, (([a2] : List Int))] : List (List Int)))).bind fun t1548 => (if t1548 = 0 then ((poly_At.f a0 l1 a2).bind fun t1549 => (some (t1549, 0))) else (some (0, t1548)))
theorem poly_Eval.mono : ∀ a0 a1 a2 k, LeO (poly_Eval.f k a0 a1 a2) (poly_Eval.f (k + 1) a0 a1 a2) := by
  intro a0 a1 a2 k
  unfold poly_Eval.f
  repeat' first
      | (with_reducible exact poly_Is.mono _ _ _)
      | (with_reducible exact LeO.refl _)
      | (with_reducible exact LeO.none _)
      | (with_reducible refine LeO.ite ?_ ?_)
      | (with_reducible refine LeO.bind ?_ (fun _ => ?_))
      | exact poly_Is.mono _ _ _
      | exact LeO.none _
      | refine LeO.ite ?_ ?_
      | refine LeO.bind ?_ (fun _ => ?_)
set_option maxHeartbeats 8000000 in
set_option maxRecDepth 100000 in
theorem poly_Eval.calls (k : Nat) (a0 : Int) (P1_ : Nat → Prop) (A1 : Option Addr) (c1 : Nat) (l1 : List Int) (a2 : Int) (r1 : Int) (r2 : Int) (w : World) (hs1 : Kd.V (Kd.int .u64) 22 w w.heap.size (fun k_ => P1_ k_) (.slice A1 l1.length c1) l1) (h : poly_Eval.f k a0 l1 a2 = some (r1, r2)) :
    Calls Try.prog 107 #[.int .u64 a0, .slice A1 l1.length c1, .int .u64 a2] w fun e w' => e = .returned (.tuple #[.int .u64 r1, .int .i64 r2]) ∧ Below w.heap.size w w' := by
  have HO1 := Aside0.mk (show Kd.V (Kd.int .u64) 22 w w.heap.size (fun k_ => (P1_ k_ ∨ w.heap.size ≤ k_)) (.slice A1 l1.length c1) l1 from Kd.V_mono hs1 (fun k_ hk => .inl hk))
  have HB := Aside0.mk (Below.refl w.heap.size w)
  have H : ((poly_Is.f k a0 (([l1, (([a2] : List Int))] : List (List Int)))).bind fun t1548 => (if t1548 = 0 then ((poly_At.f a0 l1 a2).bind fun t1549 => (some (t1549, 0))) else (some (0, t1548)))) = some (r1, r2) := h
  clear h
  obtain ⟨y1542, hy1542⟩ : ∃ y_ : List Int, y_ = (([a2] : List Int)) := ⟨_, rfl⟩
  replace H : ((poly_Is.f k a0 (([l1, y1542] : List (List Int)))).bind fun t1548 => (if t1548 = 0 then ((poly_At.f a0 l1 a2).bind fun t1549 => (some (t1549, 0))) else (some (0, t1548)))) = some (r1, r2) := by first | (rw [hy1542]; with_reducible exact H) | (have H2_ := (Option.bind_some _ _).symm.trans H; rw [hy1542]; with_reducible exact H2_) | (have H2_ := (Option.bind_some _ _).symm.trans H; with_reducible exact H2_) | with_reducible exact H | (rw [hy1542]; exact H) | exact H
  have Ny1542 := Aside0.mk hy1542
  clear hy1542
  obtain ⟨y1545, hy1545⟩ : ∃ y_ : List (List Int), y_ = (([l1, y1542] : List (List Int))) := ⟨_, rfl⟩
  replace H : ((poly_Is.f k a0 y1545).bind fun t1548 => (if t1548 = 0 then ((poly_At.f a0 l1 a2).bind fun t1549 => (some (t1549, 0))) else (some (0, t1548)))) = some (r1, r2) := by first | (rw [hy1545]; with_reducible exact H) | (have H2_ := (Option.bind_some _ _).symm.trans H; rw [hy1545]; with_reducible exact H2_) | (have H2_ := (Option.bind_some _ _).symm.trans H; with_reducible exact H2_) | with_reducible exact H | (rw [hy1545]; exact H) | exact H
  have Ny1545 := Aside0.mk hy1545
  clear hy1545
  replace H := Option.bind_eq_some_iff.mp H
  obtain ⟨t1548, A40, H⟩ := H
  replace H : (if t1548 = 0 then ((poly_At.f a0 l1 a2).bind fun t1549 => (some (t1549, 0))) else (some (0, t1548))) = some (r1, r2) := H
  have A4 := Aside0.mk A40
  clear A40
  by_cases c5 : t1548 = 0
  · rw [if_pos c5] at H
    have c5b0 : (t1548 == 0) = true := beq_iff_eq.mpr c5
    have c5b1 : (t1548 != 0) = false := bne_eq_false_iff_eq.mpr c5
    clear c5
    replace H := Option.bind_eq_some_iff.mp H
    obtain ⟨t1549, A60, H⟩ := H
    replace H : (some (t1549, 0)) = some (r1, r2) := H
    have A6 := Aside0.mk A60
    clear A60
    simp only [Option.some.injEq, Prod.mk.injEq] at H
    obtain ⟨rfl, rfl⟩ := H
    go_enter Try.func107, Try.ntmps107
    go_wp2_with (first | ((with_reducible refine gate_dst (N := 12) rfl ?_); refine Kd.R_lit (Kd.int .u64) _ 22 ?hg (N := 12) ?hd (xs := ([a2] : List Int)) (inner := [.int .u64 a2]) (ok := fun _ => True) (okp := fun _ => True) ?hr ?hp (fun _ hk => hk) trivial (Below.refl _ _) (Nat.le_refl _) (by simp) ?_; (case hd => rfl); (case hg => rfl); (case hr => first | (go_simp; done) | (go_simp; rfl)); (case hp => exact (Reps.one (show Kd.M (Kd.int .u64) _ _ _ a2 [.int .u64 a2] from rfl) (Reps.none _ _))); intro v1543 w7 ho8 hb hg_ hnew_; clear hg_ hnew_; (first | rw [← Ny1542.out] at ho8 | (simp only [Int.reduceToNat] at ho8; rw [← Ny1542.out] at ho8)); have n0_ := Aside0.mk (Kd.V_elder' (by (with_reducible repeat (first | apply Kd.V_alloc | apply Kd.V_drewN | apply Kd.V_drew)); exact HO1.out) (Kd.R_base ho8) hb); have n1_ := Aside0.mk (Kd.R_lower (Kd.R_newM (M := fun k_ => (w.heap.size ≤ k_)) ho8 (below_size (by repeat (first | (with_reducible first | exact HB.out | apply below_alloc | apply pw_below_drewN | apply below_drew1) | exact HB.out))) (fun k_ h_ => h_)) (below_size (by repeat (first | (with_reducible first | exact HB.out | apply below_alloc | apply pw_below_drewN | apply below_drew1) | exact HB.out)))); have n2_ := Aside0.mk (below_step (by repeat (first | (with_reducible first | exact HB.out | apply below_alloc | apply pw_below_drewN | apply below_drew1) | exact HB.out)) hb); clear HO1; clear HB; have HO1 := n0_; have HO1544 := n1_; have HB := n2_; clear n0_ n1_ n2_; clear hb ho8; obtain ⟨Ao9, co9, eo9⟩ := Kd.R_slice HO1544.out; subst eo9) | ((with_reducible refine gate_dst (N := 13) rfl ?_); refine Kd.N_lit (Kd.slice 22 (Kd.int .u64)) _ 31 ?hg (N' := 13) ?hd (xs := ([l1, y1542] : List (List Int))) (inner := [.slice A1 l1.length c1, .slice Ao9 y1542.length co9]) (ok := (fun k_ => (P1_ k_ ∨ w.heap.size ≤ k_))) (okp := (fun k_ => (P1_ k_ ∨ w.heap.size ≤ k_))) ?hr ?hp (fun _ hk => hk) ((show ∀ k_, w7.heap.size ≤ k_ → (fun k_ => (P1_ k_ ∨ w.heap.size ≤ k_)) k_ from fun k_ hk => (.inr (Nat.le_trans (below_size (by repeat (first | (with_reducible first | exact HB.out | apply below_alloc | apply pw_below_drewN | apply below_drew1) | exact HB.out))) hk))) _ (Nat.le_refl _)) (Below.refl _ _) (Nat.le_refl _) (by simp) ?_; (case hd => rfl); (case hg => rfl); (case hr => first | (go_simp; done) | (go_simp; rfl)); (case hp => exact (Reps.one (show Kd.FK (Kd.slice 22 (Kd.int .u64)) _ _ l1 [.slice A1 l1.length c1] from (Kd.FK_slice_mk (Kd.V_reads' (Kd.V_mono (ok' := (fun k_ => (P1_ k_ ∨ w.heap.size ≤ k_))) (HO1.out) (fun k_ hk => hk.1))).2.1 (Kd.V_F (Kd.V_mono (ok' := (fun k_ => (P1_ k_ ∨ w.heap.size ≤ k_))) (HO1.out) (fun k_ hk => hk.1))))) (Reps.one (show Kd.FK (Kd.slice 22 (Kd.int .u64)) _ _ y1542 [.slice Ao9 y1542.length co9] from (Kd.FK_slice_mk (Kd.R_reads' (Kd.R_mono (ok' := (fun k_ => (P1_ k_ ∨ w.heap.size ≤ k_))) (HO1544.out) (fun k_ hk => (.inr (hk.1))))).2.1 (Kd.R_F (Kd.R_mono (ok' := (fun k_ => (P1_ k_ ∨ w.heap.size ≤ k_))) (HO1544.out) (fun k_ hk => (.inr (hk.1))))))) (Reps.none _ _)))); intro v1546 w10 ho11 hb hg_ hnew_; clear hg_ hnew_; (first | rw [← Ny1545.out] at ho11 | (simp only [Int.reduceToNat] at ho11; rw [← Ny1545.out] at ho11)); have n0_ := Aside0.mk (Kd.V_elder' (by (with_reducible repeat (first | apply Kd.V_alloc | apply Kd.V_drewN | apply Kd.V_drew)); exact HO1.out) (Kd.N_base ho11) hb); have n1_ := Aside0.mk (Kd.N_lower ho11 (below_size (by repeat (first | (with_reducible first | exact HB.out | apply below_alloc | apply pw_below_drewN | apply below_drew1) | exact HB.out)))); have n2_ := Aside0.mk (below_step (by repeat (first | (with_reducible first | exact HB.out | apply below_alloc | apply pw_below_drewN | apply below_drew1) | exact HB.out)) hb); clear HO1; clear HB; clear HO1544; have HO1 := n0_; have HO1547 := n1_; have HB := n2_; clear n0_ n1_ n2_; clear hb ho11; obtain ⟨Ao12, co12, eo12⟩ := Kd.N_slice HO1547.out; subst eo12) | ((with_reducible refine gate_callee (f := 138) rfl ?_); refine goesL_ (some 14) rfl rfl Try.func138 (by kernel_rfl) rfl #[.int .u64 a0, .slice Ao12 y1545.length co12] rfl (by (try simp only [List.map_toArray, List.map_cons, List.map_nil]); first | done | rfl | (simp only [List.length_drop, List.length_take]; rfl)) ?_; (with_reducible refine (poly_Is.calls k a0 _ _ y1545 t1548 _ ?side1 ?side2 A4.out).mono ?_); (case side1 => repeat (first | exact (Kd.N_reads' HO1547.out).2.2 | (with_reducible refine Kd.C_alloc ?_ _) | (with_reducible refine Kd.C_drewN ?_ _) | (with_reducible refine Kd.C_drew ?_))); (case side2 => exact (Kd.N_reads' HO1547.out).2.1); rintro e w' ⟨rfl, ⟨nd, rfl⟩⟩; refine ⟨_, rfl, ?_⟩) | ((with_reducible refine gate_callee (f := 134) rfl ?_); refine goesL_ (some 21) rfl rfl Try.func134 (by kernel_rfl) rfl #[.int .u64 a0, .slice A1 l1.length c1, .int .u64 a2] rfl (by (try simp only [List.map_toArray, List.map_cons, List.map_nil]); first | done | rfl | (simp only [List.length_drop, List.length_take]; rfl)) ?_; (with_reducible refine (poly_At.calls a0 _ _ l1 a2 t1549 _ ?side1 ?side2 A6.out).mono ?_); (case side1 => repeat (first | exact (Kd.V_reads' HO1.out).2.2 | (with_reducible refine Kd.C_alloc ?_ _) | (with_reducible refine Kd.C_drewN ?_ _) | (with_reducible refine Kd.C_drew ?_))); (case side2 => exact (Kd.V_reads' HO1.out).2.1); rintro e w13 ⟨rfl, hb⟩; refine ⟨_, rfl, ?_⟩; have n0_ := Aside0.mk (Kd.V_below (by (with_reducible repeat (first | apply Kd.V_alloc | apply Kd.V_drewN | apply Kd.V_drew)); exact HO1.out) hb); have n1_ := Aside0.mk (Kd.N_below (by (with_reducible repeat (first | apply Kd.N_alloc | apply Kd.N_drewN | apply Kd.N_drew)); exact HO1547.out) hb); have n2_ := Aside0.mk (below_step (by repeat (first | (with_reducible first | exact HB.out | apply below_alloc | apply pw_below_drewN | apply below_drew1) | exact HB.out)) hb); clear HO1; clear HO1547; clear HB; have HO1 := n0_; have HO1547 := n1_; have HB := n2_; clear n0_ n1_ n2_; (try clear hb); (try clear hb2); (try clear hk); (try clear hi)))
    go_ret2
    exact ⟨by first | rfl | (simp [errW_none, errW_some] <;> rfl) | (simp [*, errW_none, errW_some] <;> rfl), by repeat (first | (with_reducible first | exact HB.out | apply below_alloc | apply pw_below_drewN | apply below_drew1) | exact HB.out)⟩
  · rw [if_neg c5] at H
    have c5b0 : (t1548 == 0) = false := beq_eq_false_iff_ne.mpr c5
    have c5b1 : (t1548 != 0) = true := bne_iff_ne.mpr c5
    simp only [Option.some.injEq, Prod.mk.injEq] at H
    obtain ⟨rfl, rfl⟩ := H
    go_enter Try.func107, Try.ntmps107
    go_wp2_with (first | ((with_reducible refine gate_dst (N := 12) rfl ?_); refine Kd.R_lit (Kd.int .u64) _ 22 ?hg (N := 12) ?hd (xs := ([a2] : List Int)) (inner := [.int .u64 a2]) (ok := fun _ => True) (okp := fun _ => True) ?hr ?hp (fun _ hk => hk) trivial (Below.refl _ _) (Nat.le_refl _) (by simp) ?_; (case hd => rfl); (case hg => rfl); (case hr => first | (go_simp; done) | (go_simp; rfl)); (case hp => exact (Reps.one (show Kd.M (Kd.int .u64) _ _ _ a2 [.int .u64 a2] from rfl) (Reps.none _ _))); intro v1543 w14 ho15 hb hg_ hnew_; clear hg_ hnew_; (first | rw [← Ny1542.out] at ho15 | (simp only [Int.reduceToNat] at ho15; rw [← Ny1542.out] at ho15)); have n0_ := Aside0.mk (Kd.V_elder' (by (with_reducible repeat (first | apply Kd.V_alloc | apply Kd.V_drewN | apply Kd.V_drew)); exact HO1.out) (Kd.R_base ho15) hb); have n1_ := Aside0.mk (Kd.R_lower (Kd.R_newM (M := fun k_ => (w.heap.size ≤ k_)) ho15 (below_size (by repeat (first | (with_reducible first | exact HB.out | apply below_alloc | apply pw_below_drewN | apply below_drew1) | exact HB.out))) (fun k_ h_ => h_)) (below_size (by repeat (first | (with_reducible first | exact HB.out | apply below_alloc | apply pw_below_drewN | apply below_drew1) | exact HB.out)))); have n2_ := Aside0.mk (below_step (by repeat (first | (with_reducible first | exact HB.out | apply below_alloc | apply pw_below_drewN | apply below_drew1) | exact HB.out)) hb); clear HO1; clear HB; have HO1 := n0_; have HO1544 := n1_; have HB := n2_; clear n0_ n1_ n2_; clear hb ho15; obtain ⟨Ao16, co16, eo16⟩ := Kd.R_slice HO1544.out; subst eo16) | ((with_reducible refine gate_dst (N := 13) rfl ?_); refine Kd.N_lit (Kd.slice 22 (Kd.int .u64)) _ 31 ?hg (N' := 13) ?hd (xs := ([l1, y1542] : List (List Int))) (inner := [.slice A1 l1.length c1, .slice Ao16 y1542.length co16]) (ok := (fun k_ => (P1_ k_ ∨ w.heap.size ≤ k_))) (okp := (fun k_ => (P1_ k_ ∨ w.heap.size ≤ k_))) ?hr ?hp (fun _ hk => hk) ((show ∀ k_, w14.heap.size ≤ k_ → (fun k_ => (P1_ k_ ∨ w.heap.size ≤ k_)) k_ from fun k_ hk => (.inr (Nat.le_trans (below_size (by repeat (first | (with_reducible first | exact HB.out | apply below_alloc | apply pw_below_drewN | apply below_drew1) | exact HB.out))) hk))) _ (Nat.le_refl _)) (Below.refl _ _) (Nat.le_refl _) (by simp) ?_; (case hd => rfl); (case hg => rfl); (case hr => first | (go_simp; done) | (go_simp; rfl)); (case hp => exact (Reps.one (show Kd.FK (Kd.slice 22 (Kd.int .u64)) _ _ l1 [.slice A1 l1.length c1] from (Kd.FK_slice_mk (Kd.V_reads' (Kd.V_mono (ok' := (fun k_ => (P1_ k_ ∨ w.heap.size ≤ k_))) (HO1.out) (fun k_ hk => hk.1))).2.1 (Kd.V_F (Kd.V_mono (ok' := (fun k_ => (P1_ k_ ∨ w.heap.size ≤ k_))) (HO1.out) (fun k_ hk => hk.1))))) (Reps.one (show Kd.FK (Kd.slice 22 (Kd.int .u64)) _ _ y1542 [.slice Ao16 y1542.length co16] from (Kd.FK_slice_mk (Kd.R_reads' (Kd.R_mono (ok' := (fun k_ => (P1_ k_ ∨ w.heap.size ≤ k_))) (HO1544.out) (fun k_ hk => (.inr (hk.1))))).2.1 (Kd.R_F (Kd.R_mono (ok' := (fun k_ => (P1_ k_ ∨ w.heap.size ≤ k_))) (HO1544.out) (fun k_ hk => (.inr (hk.1))))))) (Reps.none _ _)))); intro v1546 w17 ho18 hb hg_ hnew_; clear hg_ hnew_; (first | rw [← Ny1545.out] at ho18 | (simp only [Int.reduceToNat] at ho18; rw [← Ny1545.out] at ho18)); have n0_ := Aside0.mk (Kd.V_elder' (by (with_reducible repeat (first | apply Kd.V_alloc | apply Kd.V_drewN | apply Kd.V_drew)); exact HO1.out) (Kd.N_base ho18) hb); have n1_ := Aside0.mk (Kd.N_lower ho18 (below_size (by repeat (first | (with_reducible first | exact HB.out | apply below_alloc | apply pw_below_drewN | apply below_drew1) | exact HB.out)))); have n2_ := Aside0.mk (below_step (by repeat (first | (with_reducible first | exact HB.out | apply below_alloc | apply pw_below_drewN | apply below_drew1) | exact HB.out)) hb); clear HO1; clear HB; clear HO1544; have HO1 := n0_; have HO1547 := n1_; have HB := n2_; clear n0_ n1_ n2_; clear hb ho18; obtain ⟨Ao19, co19, eo19⟩ := Kd.N_slice HO1547.out; subst eo19) | ((with_reducible refine gate_callee (f := 138) rfl ?_); refine goesL_ (some 14) rfl rfl Try.func138 (by kernel_rfl) rfl #[.int .u64 a0, .slice Ao19 y1545.length co19] rfl (by (try simp only [List.map_toArray, List.map_cons, List.map_nil]); first | done | rfl | (simp only [List.length_drop, List.length_take]; rfl)) ?_; (with_reducible refine (poly_Is.calls k a0 _ _ y1545 t1548 _ ?side1 ?side2 A4.out).mono ?_); (case side1 => repeat (first | exact (Kd.N_reads' HO1547.out).2.2 | (with_reducible refine Kd.C_alloc ?_ _) | (with_reducible refine Kd.C_drewN ?_ _) | (with_reducible refine Kd.C_drew ?_))); (case side2 => exact (Kd.N_reads' HO1547.out).2.1); rintro e w' ⟨rfl, ⟨nd, rfl⟩⟩; refine ⟨_, rfl, ?_⟩))
    go_ret2
    exact ⟨by first | rfl | (simp [errW_none, errW_some] <;> rfl) | (simp [*, errW_none, errW_some] <;> rfl), by repeat (first | (with_reducible first | exact HB.out | apply below_alloc | apply pw_below_drewN | apply below_drew1) | exact HB.out)⟩

/-! ### juntoref01_Dot: function 108 -/
def juntoref01_Dot.l0 : Nat → Int → List Int → List Int → Int → Int → Int → Option (Int)
  | 0, _, _, _, _, _, _ => none
  | k + 1, x0, x1, x2, x7, x10, x11 => if x11 < x10 then (if 0 ≤ x11 then (if x11 < (x1.length : Int) then (if x11 < (x2.length : Int) then ((juntoref01_Mul.f x0 (rd x1 x11) (rd x2 x11)).bind fun t1552 => ((juntoref01_Add.f x0 x7 t1552).bind fun t1553 => (juntoref01_Dot.l0 k x0 x1 x2 t1553 x10 (wrap64 (x11 + 1))))) else (none)) else (none)) else (none)) else (some x7)
def juntoref01_Dot.f (k : Nat) (a0 : Int) (l1 : List Int) (l2 : List Int) : Option (Int) := juntoref01_Dot.l0 k a0 l1 l2 0 (l1.length : Int) 0
theorem juntoref01_Dot.mono_l : ∀ k, (∀ y0 y1 y2 y3 y4 y5, LeO (juntoref01_Dot.l0 k y0 y1 y2 y3 y4 y5) (juntoref01_Dot.l0 (k + 1) y0 y1 y2 y3 y4 y5))
  | 0 => fun _ _ _ _ _ _ r h => by simp [juntoref01_Dot.l0] at h
  | k + 1 => by
    have ih0 := juntoref01_Dot.mono_l k
    · intro y0 y1 y2 y3 y4 y5
      unfold juntoref01_Dot.l0
      repeat' first
      | (with_reducible exact ih0 _ _ _ _ _ _)
      | (with_reducible exact LeO.refl _)
      | (with_reducible exact LeO.none _)
      | (with_reducible refine LeO.ite ?_ ?_)
      | (with_reducible refine LeO.bind ?_ (fun _ => ?_))
      | exact ih0 _ _ _ _ _ _
      | exact LeO.none _
      | refine LeO.ite ?_ ?_
      | refine LeO.bind ?_ (fun _ => ?_)
theorem juntoref01_Dot.mono : ∀ a0 a1 a2 k, LeO (juntoref01_Dot.f k a0 a1 a2) (juntoref01_Dot.f (k + 1) a0 a1 a2) := by
  intro a0 a1 a2 k
  have ih0 := juntoref01_Dot.mono_l k
  unfold juntoref01_Dot.f
  repeat' first
      | (with_reducible exact ih0 _ _ _ _ _ _)
      | (with_reducible exact LeO.refl _)
      | (with_reducible exact LeO.none _)
      | (with_reducible refine LeO.ite ?_ ?_)
      | (with_reducible refine LeO.bind ?_ (fun _ => ?_))
      | exact ih0 _ _ _ _ _ _
      | exact LeO.none _
      | refine LeO.ite ?_ ?_
      | refine LeO.bind ?_ (fun _ => ?_)
set_option maxHeartbeats 8000000 in
set_option maxRecDepth 100000 in
theorem juntoref01_Dot.calls (k : Nat) (a0 : Int) (A1 : Option Addr) (c1 : Nat) (l1 : List Int) (A2 : Option Addr) (c2 : Nat) (l2 : List Int) (r : Int) (w : World) (hr1 : Kd.C (Kd.int .u64) w A1 l1.length l1) (hc1 : l1.length ≤ c1) (hr2 : Kd.C (Kd.int .u64) w A2 l2.length l2) (hc2 : l2.length ≤ c2) (h : juntoref01_Dot.f k a0 l1 l2 = some r) :
    Calls Try.prog 108 #[.int .u64 a0, .slice A1 l1.length c1, .slice A2 l2.length c2] w fun e w' => e = .returned (.int .u64 r) ∧ Drawn0 w w' := by
  have HR1 := Aside0.mk hr1
  have HC1 := Aside0.mk hc1
  clear hr1 hc1
  have HR2 := Aside0.mk hr2
  have HC2 := Aside0.mk hc2
  clear hr2 hc2
  have H : (juntoref01_Dot.l0 k a0 l1 l2 0 (l1.length : Int) 0) = some r := h
  clear h
  have H' := Aside0.mk H
  clear H
  go_enter Try.func108, Try.ntmps108
  go_wp2
  repeat (go_quiet (fail); try go_wp2)
  go_loopg [7, 11] k (fun kq v7 v11 w' => ∃ (x7_1 : Int) (x11_1 : Int), v7 = .int .u64 x7_1 ∧ v11 = .int .i64 x11_1 ∧ Aside0 (juntoref01_Dot.l0 kq a0 l1 l2 x7_1 (l1.length : Int) x11_1 = some r) ∧ Aside0 (kq ≤ k) ∧ Drawn0 w w')
  case atStart => exact ⟨(0), (0), (by first | rfl | (simp; done) | (simp [*]; done)), (by first | rfl | (simp; done) | (simp [*]; done)), H', ⟨Nat.le_refl _⟩, by repeat (first | exact Drawn0.refl _ | apply Drawn0.step)⟩
  case round =>
    clear H'
    try clear c1
    try clear c2
    try clear p2
    obtain ⟨x7_1, x11_1, rfl, rfl, HA, HK1, ⟨m1, rfl⟩⟩ := hrel
    cases gk with
    | zero => exact absurd HA.out (by simp [juntoref01_Dot.l0])
    | succ k1 =>
      have H := HA.out
      clear HA
      simp only [juntoref01_Dot.l0] at H
      by_cases c4 : x11_1 < (l1.length : Int)
      · rw [if_pos c4] at H
        have c4b0 : decide (x11_1 < (l1.length : Int)) = true := decide_eq_true c4
        clear c4
        by_cases c5 : 0 ≤ x11_1
        · rw [if_pos c5] at H
          have c5b0 : decide (0 ≤ x11_1) = true := decide_eq_true c5
          clear c5
          by_cases c6 : x11_1 < (l1.length : Int)
          · rw [if_pos c6] at H
            have c6b0 : decide (x11_1 < (l1.length : Int)) = true := decide_eq_true c6
            clear c6
            by_cases c7 : x11_1 < (l2.length : Int)
            · rw [if_pos c7] at H
              have c7b0 : decide (x11_1 < (l2.length : Int)) = true := decide_eq_true c7
              clear c7
              replace H := Option.bind_eq_some_iff.mp H
              obtain ⟨t1552, A80, H⟩ := H
              replace H : ((juntoref01_Add.f a0 x7_1 t1552).bind fun t1553 => (juntoref01_Dot.l0 k1 a0 l1 l2 t1553 (l1.length : Int) (wrap64 (x11_1 + 1)))) = some r := H
              have A8 := Aside0.mk A80
              clear A80
              replace H := Option.bind_eq_some_iff.mp H
              obtain ⟨t1553, A90, H⟩ := H
              replace H : (juntoref01_Dot.l0 k1 a0 l1 l2 t1553 (l1.length : Int) (wrap64 (x11_1 + 1))) = some r := H
              have A9 := Aside0.mk A90
              clear A90
              have H' := Aside0.mk H
              clear H
              have p1550 : 0 ≤ (x11_1 : Int) := of_decide_eq_true (by first | (with_reducible assumption) | assumption)
              have q1550 : x11_1 < (l1.length : Int) := of_decide_eq_true (by first | (with_reducible assumption) | assumption)
              obtain ⟨ad1550, e1550, hx1550_0⟩ := Kd.at_int HR1.out x11_1 p1550 q1550
              cases e1550
              replace p1550 := eq_true p1550
              replace q1550 := eq_true q1550
              have p1551 : 0 ≤ (x11_1 : Int) := of_decide_eq_true (by first | (with_reducible assumption) | assumption)
              have q1551 : x11_1 < (l2.length : Int) := of_decide_eq_true (by first | (with_reducible assumption) | assumption)
              obtain ⟨ad1551, e1551, hx1551_0⟩ := Kd.at_int HR2.out x11_1 p1551 q1551
              cases e1551
              replace p1551 := eq_true p1551
              replace q1551 := eq_true q1551
              go_wp2_with (first | (go_at_call 59; (with_reducible refine (juntoref01_Mul.calls a0 (rd l1 x11_1) (rd l2 x11_1) t1552 _ A8.out).mono ?_); rintro e w' ⟨rfl, ⟨nd, rfl⟩⟩; (try first | exact ⟨rfl, _, World.drewN_drewN _ _ _⟩ | exact ⟨rfl, _, Eq.trans (World.drewN_drewN _ _ _) (congrArg (World.drewN _) (Nat.add_assoc _ _ _))⟩)) | (go_at_call 113; (with_reducible refine (juntoref01_Add.calls a0 x7_1 t1552 t1553 _ A9.out).mono ?_); rintro e w' ⟨rfl, ⟨nd, rfl⟩⟩; (try first | exact ⟨rfl, _, World.drewN_drewN _ _ _⟩ | exact ⟨rfl, _, Eq.trans (World.drewN_drewN _ _ _) (congrArg (World.drewN _) (Nat.add_assoc _ _ _))⟩)))
              repeat (go_quiet (first | (go_at_call 59; (with_reducible refine (juntoref01_Mul.calls a0 (rd l1 x11_1) (rd l2 x11_1) t1552 _ A8.out).mono ?_); rintro e w' ⟨rfl, ⟨nd, rfl⟩⟩; (try first | exact ⟨rfl, _, World.drewN_drewN _ _ _⟩ | exact ⟨rfl, _, Eq.trans (World.drewN_drewN _ _ _) (congrArg (World.drewN _) (Nat.add_assoc _ _ _))⟩)) | (go_at_call 113; (with_reducible refine (juntoref01_Add.calls a0 x7_1 t1552 t1553 _ A9.out).mono ?_); rintro e w' ⟨rfl, ⟨nd, rfl⟩⟩; (try first | exact ⟨rfl, _, World.drewN_drewN _ _ _⟩ | exact ⟨rfl, _, Eq.trans (World.drewN_drewN _ _ _) (congrArg (World.drewN _) (Nat.add_assoc _ _ _))⟩))); try go_wp2_with (first | (go_at_call 59; (with_reducible refine (juntoref01_Mul.calls a0 (rd l1 x11_1) (rd l2 x11_1) t1552 _ A8.out).mono ?_); rintro e w' ⟨rfl, ⟨nd, rfl⟩⟩; (try first | exact ⟨rfl, _, World.drewN_drewN _ _ _⟩ | exact ⟨rfl, _, Eq.trans (World.drewN_drewN _ _ _) (congrArg (World.drewN _) (Nat.add_assoc _ _ _))⟩)) | (go_at_call 113; (with_reducible refine (juntoref01_Add.calls a0 x7_1 t1552 t1553 _ A9.out).mono ?_); rintro e w' ⟨rfl, ⟨nd, rfl⟩⟩; (try first | exact ⟨rfl, _, World.drewN_drewN _ _ _⟩ | exact ⟨rfl, _, Eq.trans (World.drewN_drewN _ _ _) (congrArg (World.drewN _) (Nat.add_assoc _ _ _))⟩))))
              go_roundg k1
              case measure => have := HK1.out; omega
              case rel => exact ⟨(t1553), (wrap64 (x11_1 + 1)), (by first | rfl | (simp; done) | (simp [*]; done)), (by first | rfl | (simp; done) | (simp [*]; done)), H', ⟨by have := HK1.out; omega⟩, by repeat (first | exact Drawn0.refl _ | apply Drawn0.step)⟩
            · rw [if_neg c7] at H
              exact absurd H (by simp)
          · rw [if_neg c6] at H
            exact absurd H (by simp)
        · rw [if_neg c5] at H
          exact absurd H (by simp)
      · rw [if_neg c4] at H
        have c4b0 : decide (x11_1 < (l1.length : Int)) = false := decide_eq_false c4
        clear c4
        obtain rfl := Option.some.inj H
        go_wp2
        repeat (go_quiet (fail); try go_wp2)
        go_ret
        exact ⟨by first | rfl | (simp; done) | (simp [*]; done), by repeat (first | exact Drawn0.refl _ | apply Drawn0.step)⟩

/-! ### juntolaw02_PolyBack: function 27 -/
mutual
def juntolaw02_PolyBack.j0 : Nat → Int → Int → List Int → List Int → Bool → Option (Bool)
  | 0, _, _, _, _, _ => none
  | k + 1, x0, x2, x7, x8, x57 => if x57 = true then ((juntolaw02_alive.f k).bind fun t1564 => (some t1564)) else (juntolaw02_PolyBack.l0 k x0 x2 x7 x8 ([] : List (S86)) ([] : List Int) x8 (x8.length : Int) 0)
def juntolaw02_PolyBack.l0 : Nat → Int → Int → List Int → List Int → List (S86) → List Int → List Int → Int → Int → Option (Bool)
  | 0, _, _, _, _, _, _, _, _, _ => none
  | k + 1, x0, x2, x7, x8, x9, x10, x59, x60, x61 => if x61 < x60 then (if 0 ≤ x61 then (if x61 < (x59.length : Int) then ((poly_Eval.f k x0 x7 (rd x59 x61)).bind fun bt1566 => (if x9.length < 8796093022208 then (if x10.length < 17592186044416 then (juntolaw02_PolyBack.l0 k x0 x2 x7 x8 (x9 ++ [(⟨rd x59 x61, bt1566.1⟩ : S86)]) (x10 ++ [bt1566.1]) x59 x60 (wrap64 (x61 + 1))) else (none)) else (none))) else (none)) else (none)) else ((poly_Through.f k x0 x9).bind fun bt1574 => ((poly_Weights.f k x0 x8 x2).bind fun bt1578 => ((poly_Eval.f k x0 x7 x2).bind fun bt1582 => (if bt1574.2 = 0 then ((juntoref02_Trim.f k x7).bind fun t1584 => ((juntoref01_Same.f k bt1574.1 t1584).bind fun t1587 => (if t1587 = true then (if bt1578.2 = 0 then (if (bt1578.1.length : Int) = (x10.length : Int) then ((juntoref01_Dot.f k x0 bt1578.1 x10).bind fun t1588 => (if t1588 = bt1582.1 then ((juntolaw02_alive.f k).bind fun t1589 => (some t1589)) else (some false))) else (some false)) else (some false)) else (some false)))) else (some false)))))
end
def juntolaw02_PolyBack.f (k : Nat) (a0 : Int) (l1_0 : List Int) (l1_1 : List Int) (a2 : Int) : Option (Bool) := (juntoref02_Right.f k a0 (([l1_0] : List (List Int)))).bind fun t1558 => (if t1558 = 0 then ((juntoref01_Within.f k a0 l1_1).bind fun t1559 => (if t1559 = 0 then (if a2 ≥ a0 then (juntolaw02_PolyBack.j0 k a0 a2 l1_0 l1_1 true) else ((juntoref02_Twice.f k l1_1).bind fun t1560 => (if t1560 = true then (juntolaw02_PolyBack.j0 k a0 a2 l1_0 l1_1 true) else (if (l1_1.length : Int) > 201 then (juntolaw02_PolyBack.j0 k a0 a2 l1_0 l1_1 true) else ((juntoref02_Trim.f k l1_0).bind fun t1561 => (juntolaw02_PolyBack.j0 k a0 a2 l1_0 l1_1 (decide ((t1561.length : Int) > (l1_1.length : Int))))))))) else (juntolaw02_PolyBack.j0 k a0 a2 l1_0 l1_1 true))) else (juntolaw02_PolyBack.j0 k a0 a2 l1_0 l1_1 true))
theorem juntolaw02_PolyBack.mono_l : ∀ k, (∀ y0 y1 y2 y3 y4, LeO (juntolaw02_PolyBack.j0 k y0 y1 y2 y3 y4) (juntolaw02_PolyBack.j0 (k + 1) y0 y1 y2 y3 y4)) ∧ (∀ y0 y1 y2 y3 y4 y5 y6 y7 y8, LeO (juntolaw02_PolyBack.l0 k y0 y1 y2 y3 y4 y5 y6 y7 y8) (juntolaw02_PolyBack.l0 (k + 1) y0 y1 y2 y3 y4 y5 y6 y7 y8))
  | 0 => ⟨fun _ _ _ _ _ r h => by simp [juntolaw02_PolyBack.j0] at h, fun _ _ _ _ _ _ _ _ _ r h => by simp [juntolaw02_PolyBack.l0] at h⟩
  | k + 1 => by
    obtain ⟨ih0, ih1⟩ := juntolaw02_PolyBack.mono_l k
    refine ⟨?_, ?_⟩
    · intro y0 y1 y2 y3 y4
      unfold juntolaw02_PolyBack.j0
      repeat' first
      | (with_reducible exact ih0 _ _ _ _ _)
      | (with_reducible exact ih1 _ _ _ _ _ _ _ _ _)
      | (with_reducible exact juntolaw02_alive.mono _)
      | (with_reducible exact juntoref01_Dot.mono _ _ _ _)
      | (with_reducible exact juntoref01_Same.mono _ _ _)
      | (with_reducible exact juntoref01_Within.mono _ _ _)
      | (with_reducible exact juntoref02_Right.mono _ _ _)
      | (with_reducible exact juntoref02_Trim.mono _ _)
      | (with_reducible exact juntoref02_Twice.mono _ _)
      | (with_reducible exact poly_Eval.mono _ _ _ _)
      | (with_reducible exact poly_Through.mono _ _ _)
      | (with_reducible exact poly_Weights.mono _ _ _ _)
      | (with_reducible exact LeO.refl _)
      | (with_reducible exact LeO.none _)
      | (with_reducible refine LeO.ite ?_ ?_)
      | (with_reducible refine LeO.bind ?_ (fun _ => ?_))
      | exact ih0 _ _ _ _ _
      | exact ih1 _ _ _ _ _ _ _ _ _
      | exact juntolaw02_alive.mono _
      | exact juntoref01_Dot.mono _ _ _ _
      | exact juntoref01_Same.mono _ _ _
      | exact juntoref01_Within.mono _ _ _
      | exact juntoref02_Right.mono _ _ _
      | exact juntoref02_Trim.mono _ _
      | exact juntoref02_Twice.mono _ _
      | exact poly_Eval.mono _ _ _ _
      | exact poly_Through.mono _ _ _
      | exact poly_Weights.mono _ _ _ _
      | exact LeO.none _
      | refine LeO.ite ?_ ?_
      | refine LeO.bind ?_ (fun _ => ?_)
    · intro y0 y1 y2 y3 y4 y5 y6 y7 y8
      unfold juntolaw02_PolyBack.l0
      repeat' first
      | (with_reducible exact ih0 _ _ _ _ _)
      | (with_reducible exact ih1 _ _ _ _ _ _ _ _ _)
      | (with_reducible exact juntolaw02_alive.mono _)
      | (with_reducible exact juntoref01_Dot.mono _ _ _ _)
      | (with_reducible exact juntoref01_Same.mono _ _ _)
      | (with_reducible exact juntoref01_Within.mono _ _ _)
      | (with_reducible exact juntoref02_Right.mono _ _ _)
      | (with_reducible exact juntoref02_Trim.mono _ _)
      | (with_reducible exact juntoref02_Twice.mono _ _)
      | (with_reducible exact poly_Eval.mono _ _ _ _)
      | (with_reducible exact poly_Through.mono _ _ _)
      | (with_reducible exact poly_Weights.mono _ _ _ _)
      | (with_reducible exact LeO.refl _)
      | (with_reducible exact LeO.none _)
      | (with_reducible refine LeO.ite ?_ ?_)
      | (with_reducible refine LeO.bind ?_ (fun _ => ?_))
      | exact ih0 _ _ _ _ _
      | exact ih1 _ _ _ _ _ _ _ _ _
      | exact juntolaw02_alive.mono _
      | exact juntoref01_Dot.mono _ _ _ _
      | exact juntoref01_Same.mono _ _ _
      | exact juntoref01_Within.mono _ _ _
      | exact juntoref02_Right.mono _ _ _
      | exact juntoref02_Trim.mono _ _
      | exact juntoref02_Twice.mono _ _
      | exact poly_Eval.mono _ _ _ _
      | exact poly_Through.mono _ _ _
      | exact poly_Weights.mono _ _ _ _
      | exact LeO.none _
      | refine LeO.ite ?_ ?_
      | refine LeO.bind ?_ (fun _ => ?_)
theorem juntolaw02_PolyBack.mono : ∀ a0 a1 a2 a3 k, LeO (juntolaw02_PolyBack.f k a0 a1 a2 a3) (juntolaw02_PolyBack.f (k + 1) a0 a1 a2 a3) := by
  intro a0 a1 a2 a3 k
  obtain ⟨ih0, ih1⟩ := juntolaw02_PolyBack.mono_l k
  unfold juntolaw02_PolyBack.f
  repeat' first
      | (with_reducible exact ih0 _ _ _ _ _)
      | (with_reducible exact ih1 _ _ _ _ _ _ _ _ _)
      | (with_reducible exact juntolaw02_alive.mono _)
      | (with_reducible exact juntoref01_Dot.mono _ _ _ _)
      | (with_reducible exact juntoref01_Same.mono _ _ _)
      | (with_reducible exact juntoref01_Within.mono _ _ _)
      | (with_reducible exact juntoref02_Right.mono _ _ _)
      | (with_reducible exact juntoref02_Trim.mono _ _)
      | (with_reducible exact juntoref02_Twice.mono _ _)
      | (with_reducible exact poly_Eval.mono _ _ _ _)
      | (with_reducible exact poly_Through.mono _ _ _)
      | (with_reducible exact poly_Weights.mono _ _ _ _)
      | (with_reducible exact LeO.refl _)
      | (with_reducible exact LeO.none _)
      | (with_reducible refine LeO.ite ?_ ?_)
      | (with_reducible refine LeO.bind ?_ (fun _ => ?_))
      | exact ih0 _ _ _ _ _
      | exact ih1 _ _ _ _ _ _ _ _ _
      | exact juntolaw02_alive.mono _
      | exact juntoref01_Dot.mono _ _ _ _
      | exact juntoref01_Same.mono _ _ _
      | exact juntoref01_Within.mono _ _ _
      | exact juntoref02_Right.mono _ _ _
      | exact juntoref02_Trim.mono _ _
      | exact juntoref02_Twice.mono _ _
      | exact poly_Eval.mono _ _ _ _
      | exact poly_Through.mono _ _ _
      | exact poly_Weights.mono _ _ _ _
      | exact LeO.none _
      | refine LeO.ite ?_ ?_
      | refine LeO.bind ?_ (fun _ => ?_)
set_option maxHeartbeats 8000000 in
set_option maxRecDepth 100000 in
theorem juntolaw02_PolyBack.calls (k : Nat) (a0 : Int) (P1_0_ : Nat → Prop) (A1_0 : Option Addr) (c1_0 : Nat) (l1_0 : List Int) (A1_1 : Option Addr) (c1_1 : Nat) (l1_1 : List Int) (a2 : Int) (r : Bool) (w : World) (hs1_0 : Kd.V (Kd.int .u64) 22 w w.heap.size (fun k_ => P1_0_ k_) (.slice A1_0 l1_0.length c1_0) l1_0) (hr1_1 : Kd.C (Kd.int .u64) w A1_1 l1_1.length l1_1) (hc1_1 : l1_1.length ≤ c1_1) (h : juntolaw02_PolyBack.f k a0 l1_0 l1_1 a2 = some r) (hrt : r = true := by rfl) :
    Calls Try.prog 27 #[.int .u64 a0, .agg #[.slice A1_0 l1_0.length c1_0, .slice A1_1 l1_1.length c1_1], .int .u64 a2] w fun e w' => e = .returned (.bool r) ∧ Below w.heap.size w w' := by
  have HRT := Aside0.mk hrt
  clear hrt
  have hu50 := Try.underlying50
  have hu86 := Try.underlying86
  have HO1_0 := Aside0.mk (show Kd.V (Kd.int .u64) 22 w w.heap.size (fun k_ => (P1_0_ k_ ∨ w.heap.size ≤ k_)) (.slice A1_0 l1_0.length c1_0) l1_0 from Kd.V_mono hs1_0 (fun k_ hk => .inl hk))
  have HR1_1 := Aside0.mk hr1_1
  have HC1_1 := Aside0.mk hc1_1
  clear hr1_1 hc1_1
  have HB := Aside0.mk (Below.refl w.heap.size w)
  have H : ((juntoref02_Right.f k a0 (([l1_0] : List (List Int)))).bind fun t1558 => (if t1558 = 0 then ((juntoref01_Within.f k a0 l1_1).bind fun t1559 => (if t1559 = 0 then (if a2 ≥ a0 then (juntolaw02_PolyBack.j0 k a0 a2 l1_0 l1_1 true) else ((juntoref02_Twice.f k l1_1).bind fun t1560 => (if t1560 = true then (juntolaw02_PolyBack.j0 k a0 a2 l1_0 l1_1 true) else (if (l1_1.length : Int) > 201 then (juntolaw02_PolyBack.j0 k a0 a2 l1_0 l1_1 true) else ((juntoref02_Trim.f k l1_0).bind fun t1561 => (juntolaw02_PolyBack.j0 k a0 a2 l1_0 l1_1 (decide ((t1561.length : Int) > (l1_1.length : Int))))))))) else (juntolaw02_PolyBack.j0 k a0 a2 l1_0 l1_1 true))) else (juntolaw02_PolyBack.j0 k a0 a2 l1_0 l1_1 true))) = some r := h
  clear h
  have HC4 := Aside0.mk H
  clear H
  go_enter Try.func27, Try.ntmps27
  go_upto_region 2 with (first | ((with_reducible refine gate_dst (N := 4) rfl ?_); (try (refine gate_guard (by rfl) ?_; dsimp only)); refine box_event ?hg (N := 4) ?hd (cs := #[.slice A1_0 l1_0.length c1_0, .slice A1_1 l1_1.length c1_1]) (t := 90) ?hr ?_; (case hd => rfl); (case hg => rfl); (case hr => first | (go_simp; done) | (go_simp; rfl)); intro gb1554 hg w5 hbox hb; have n0_ := Aside0.mk (Kd.V_below (Kd.V_elderB (by (with_reducible repeat (first | apply Kd.V_alloc | apply Kd.V_drewN | apply Kd.V_drew)); exact HO1_0.out) gb1554 (Nat.le_of_eq hg.symm)) hb); have n1_ := Aside0.mk (below_step (by repeat (first | (with_reducible first | exact HB.out | apply below_alloc | apply pw_below_drewN | apply below_drew1) | exact HB.out)) hb); have n2_ := Aside0.mk (hbox); have n3_ := Aside0.mk ((by rw [hg]; exact (below_size (by repeat (first | (with_reducible first | exact HB.out | apply below_alloc | apply pw_below_drewN | apply below_drew1) | exact HB.out))) : w.heap.size ≤ gb1554)); have n4_ := Aside0.mk ((by rw [hg]; exact (below_size (by repeat (first | (with_reducible first | exact HB.out | apply below_alloc | apply pw_below_drewN | apply below_drew1) | exact HB.out))) : w.heap.size ≤ gb1554)); clear HO1_0; clear HB; have HO1_0 := n0_; have HB := n1_; have BK1554 := n2_; have GW1554 := n3_; have GE1554 := n4_; clear n0_ n1_ n2_ n3_ n4_; clear hb hbox hg; have hcz6_0 : w5.cell? ⟨gb1554, 0, none⟩ = some (.slice A1_0 l1_0.length c1_0) := (blk_cell BK1554.out 0).trans rfl; have hcz6_1 : w5.cell? ⟨gb1554, 1, none⟩ = some (.slice A1_1 l1_1.length c1_1) := (blk_cell BK1554.out 1).trans rfl; have hfz6_0 := blk_frozen BK1554.out 0; have hfz6_1 := blk_frozen BK1554.out 1))
  repeat (go_quiet (first | ((with_reducible refine gate_dst (N := 4) rfl ?_); (try (refine gate_guard (by rfl) ?_; dsimp only)); refine box_event ?hg (N := 4) ?hd (cs := #[.slice A1_0 l1_0.length c1_0, .slice A1_1 l1_1.length c1_1]) (t := 90) ?hr ?_; (case hd => rfl); (case hg => rfl); (case hr => first | (go_simp; done) | (go_simp; rfl)); intro gb1554 hg w5 hbox hb; have n0_ := Aside0.mk (Kd.V_below (Kd.V_elderB (by (with_reducible repeat (first | apply Kd.V_alloc | apply Kd.V_drewN | apply Kd.V_drew)); exact HO1_0.out) gb1554 (Nat.le_of_eq hg.symm)) hb); have n1_ := Aside0.mk (below_step (by repeat (first | (with_reducible first | exact HB.out | apply below_alloc | apply pw_below_drewN | apply below_drew1) | exact HB.out)) hb); have n2_ := Aside0.mk (hbox); have n3_ := Aside0.mk ((by rw [hg]; exact (below_size (by repeat (first | (with_reducible first | exact HB.out | apply below_alloc | apply pw_below_drewN | apply below_drew1) | exact HB.out))) : w.heap.size ≤ gb1554)); have n4_ := Aside0.mk ((by rw [hg]; exact (below_size (by repeat (first | (with_reducible first | exact HB.out | apply below_alloc | apply pw_below_drewN | apply below_drew1) | exact HB.out))) : w.heap.size ≤ gb1554)); clear HO1_0; clear HB; have HO1_0 := n0_; have HB := n1_; have BK1554 := n2_; have GW1554 := n3_; have GE1554 := n4_; clear n0_ n1_ n2_ n3_ n4_; clear hb hbox hg; have hcz6_0 : w5.cell? ⟨gb1554, 0, none⟩ = some (.slice A1_0 l1_0.length c1_0) := (blk_cell BK1554.out 0).trans rfl; have hcz6_1 : w5.cell? ⟨gb1554, 1, none⟩ = some (.slice A1_1 l1_1.length c1_1) := (blk_cell BK1554.out 1).trans rfl; have hfz6_0 := blk_frozen BK1554.out 0; have hfz6_1 := blk_frozen BK1554.out 1)); go_upto_region 2 with (first | ((with_reducible refine gate_dst (N := 4) rfl ?_); (try (refine gate_guard (by rfl) ?_; dsimp only)); refine box_event ?hg (N := 4) ?hd (cs := #[.slice A1_0 l1_0.length c1_0, .slice A1_1 l1_1.length c1_1]) (t := 90) ?hr ?_; (case hd => rfl); (case hg => rfl); (case hr => first | (go_simp; done) | (go_simp; rfl)); intro gb1554 hg w5 hbox hb; have n0_ := Aside0.mk (Kd.V_below (Kd.V_elderB (by (with_reducible repeat (first | apply Kd.V_alloc | apply Kd.V_drewN | apply Kd.V_drew)); exact HO1_0.out) gb1554 (Nat.le_of_eq hg.symm)) hb); have n1_ := Aside0.mk (below_step (by repeat (first | (with_reducible first | exact HB.out | apply below_alloc | apply pw_below_drewN | apply below_drew1) | exact HB.out)) hb); have n2_ := Aside0.mk (hbox); have n3_ := Aside0.mk ((by rw [hg]; exact (below_size (by repeat (first | (with_reducible first | exact HB.out | apply below_alloc | apply pw_below_drewN | apply below_drew1) | exact HB.out))) : w.heap.size ≤ gb1554)); have n4_ := Aside0.mk ((by rw [hg]; exact (below_size (by repeat (first | (with_reducible first | exact HB.out | apply below_alloc | apply pw_below_drewN | apply below_drew1) | exact HB.out))) : w.heap.size ≤ gb1554)); clear HO1_0; clear HB; have HO1_0 := n0_; have HB := n1_; have BK1554 := n2_; have GW1554 := n3_; have GE1554 := n4_; clear n0_ n1_ n2_ n3_ n4_; clear hb hbox hg; have hcz6_0 : w5.cell? ⟨gb1554, 0, none⟩ = some (.slice A1_0 l1_0.length c1_0) := (blk_cell BK1554.out 0).trans rfl; have hcz6_1 : w5.cell? ⟨gb1554, 1, none⟩ = some (.slice A1_1 l1_1.length c1_1) := (blk_cell BK1554.out 1).trans rfl; have hfz6_0 := blk_frozen BK1554.out 0; have hfz6_1 := blk_frozen BK1554.out 1)))
  (try simp only [Act.put, List.setIfInBounds_toArray, List.set_cons_zero, List.set_cons_succ])
  go_cut [57] (fun v57 wc => ∃ (kq : Nat) (x57_3 : Bool), v57 = .bool x57_3 ∧ Aside0 (juntolaw02_PolyBack.j0 kq a0 a2 l1_0 l1_1 x57_3 = some r) ∧ Aside0 (kq ≤ k) ∧ Aside0 (Kd.V (Kd.int .u64) 22 wc w.heap.size (fun k_ => (P1_0_ k_ ∨ w.heap.size ≤ k_) ∧ k_ ≠ gb1554) (.slice A1_0 l1_0.length c1_0) l1_0) ∧ Aside0 (Kd.V (Kd.int .u64) 22 wc w.heap.size (fun k_ => (P1_0_ k_ ∨ w.heap.size ≤ k_) ∧ k_ ≠ gb1554) (.slice A1_0 l1_0.length c1_0) l1_0) ∧ Aside0 (wc.heap[gb1554]? = some (.cells #[(.slice A1_0 l1_0.length c1_0), (.slice A1_1 l1_1.length c1_1)] 90 (0, 0))) ∧ Aside0 (Below w.heap.size w wc))
  case first =>
    have H := HC4.out
    clear HC4
    obtain ⟨y1555, hy1555⟩ : ∃ y_ : List (List Int), y_ = (([l1_0] : List (List Int))) := ⟨_, rfl⟩
    replace H : ((juntoref02_Right.f k a0 y1555).bind fun t1558 => (if t1558 = 0 then ((juntoref01_Within.f k a0 l1_1).bind fun t1559 => (if t1559 = 0 then (if a2 ≥ a0 then (juntolaw02_PolyBack.j0 k a0 a2 l1_0 l1_1 true) else ((juntoref02_Twice.f k l1_1).bind fun t1560 => (if t1560 = true then (juntolaw02_PolyBack.j0 k a0 a2 l1_0 l1_1 true) else (if (l1_1.length : Int) > 201 then (juntolaw02_PolyBack.j0 k a0 a2 l1_0 l1_1 true) else ((juntoref02_Trim.f k l1_0).bind fun t1561 => (juntolaw02_PolyBack.j0 k a0 a2 l1_0 l1_1 (decide ((t1561.length : Int) > (l1_1.length : Int))))))))) else (juntolaw02_PolyBack.j0 k a0 a2 l1_0 l1_1 true))) else (juntolaw02_PolyBack.j0 k a0 a2 l1_0 l1_1 true))) = some r := by first | (rw [hy1555]; with_reducible exact H) | (have H2_ := (Option.bind_some _ _).symm.trans H; rw [hy1555]; with_reducible exact H2_) | (have H2_ := (Option.bind_some _ _).symm.trans H; with_reducible exact H2_) | with_reducible exact H | (rw [hy1555]; exact H) | exact H
    have Ny1555 := Aside0.mk hy1555
    clear hy1555
    replace H := Option.bind_eq_some_iff.mp H
    obtain ⟨t1558, A70, H⟩ := H
    replace H : (if t1558 = 0 then ((juntoref01_Within.f k a0 l1_1).bind fun t1559 => (if t1559 = 0 then (if a2 ≥ a0 then (juntolaw02_PolyBack.j0 k a0 a2 l1_0 l1_1 true) else ((juntoref02_Twice.f k l1_1).bind fun t1560 => (if t1560 = true then (juntolaw02_PolyBack.j0 k a0 a2 l1_0 l1_1 true) else (if (l1_1.length : Int) > 201 then (juntolaw02_PolyBack.j0 k a0 a2 l1_0 l1_1 true) else ((juntoref02_Trim.f k l1_0).bind fun t1561 => (juntolaw02_PolyBack.j0 k a0 a2 l1_0 l1_1 (decide ((t1561.length : Int) > (l1_1.length : Int))))))))) else (juntolaw02_PolyBack.j0 k a0 a2 l1_0 l1_1 true))) else (juntolaw02_PolyBack.j0 k a0 a2 l1_0 l1_1 true)) = some r := H
    have A7 := Aside0.mk A70
    clear A70
    by_cases c8 : t1558 = 0
    · rw [if_pos c8] at H
      have c8b0 : (t1558 == 0) = true := beq_iff_eq.mpr c8
      have c8b1 : (t1558 != 0) = false := bne_eq_false_iff_eq.mpr c8
      clear c8
      (first | rw [c8b0] | (simp only [i64_w, i32_w]; rw [c8b0]) | skip)
      replace H := Option.bind_eq_some_iff.mp H
      obtain ⟨t1559, A90, H⟩ := H
      replace H : (if t1559 = 0 then (if a2 ≥ a0 then (juntolaw02_PolyBack.j0 k a0 a2 l1_0 l1_1 true) else ((juntoref02_Twice.f k l1_1).bind fun t1560 => (if t1560 = true then (juntolaw02_PolyBack.j0 k a0 a2 l1_0 l1_1 true) else (if (l1_1.length : Int) > 201 then (juntolaw02_PolyBack.j0 k a0 a2 l1_0 l1_1 true) else ((juntoref02_Trim.f k l1_0).bind fun t1561 => (juntolaw02_PolyBack.j0 k a0 a2 l1_0 l1_1 (decide ((t1561.length : Int) > (l1_1.length : Int))))))))) else (juntolaw02_PolyBack.j0 k a0 a2 l1_0 l1_1 true)) = some r := H
      have A9 := Aside0.mk A90
      clear A90
      by_cases c10 : t1559 = 0
      · rw [if_pos c10] at H
        have c10b0 : (t1559 == 0) = true := beq_iff_eq.mpr c10
        have c10b1 : (t1559 != 0) = false := bne_eq_false_iff_eq.mpr c10
        clear c10
        by_cases c11 : a2 ≥ a0
        · rw [if_pos c11] at H
          have c11b0 : decide (a0 ≤ a2) = true := decide_eq_true c11
          clear c11
          have H' := Aside0.mk H
          clear H
          go_wp2_with (first | ((with_reducible refine gate_dst (N := 27) rfl ?_); (try (refine gate_guard (by rfl) ?_; dsimp only)); refine Kd.N_lit (Kd.slice 22 (Kd.int .u64)) _ 31 ?hg (N' := 27) ?hd (xs := ([l1_0] : List (List Int))) (inner := [.slice A1_0 l1_0.length c1_0]) (ok := (fun k_ => (P1_0_ k_ ∨ w.heap.size ≤ k_) ∧ k_ ≠ gb1554)) (okp := (fun k_ => (P1_0_ k_ ∨ w.heap.size ≤ k_) ∧ k_ ≠ gb1554)) ?hr ?hp (fun _ hk => hk) ((show ∀ k_, w5.heap.size ≤ k_ → (fun k_ => (P1_0_ k_ ∨ w.heap.size ≤ k_) ∧ k_ ≠ gb1554) k_ from fun k_ hk => ⟨(.inr (Nat.le_trans (below_size (by repeat (first | (with_reducible first | exact HB.out | apply below_alloc | apply pw_below_drewN | apply below_drew1 | refine below_set ?_ GE1554.out) | exact HB.out))) hk)), Kd.freshB (g := gb1554) (o := .cells #[.slice A1_0 l1_0.length c1_0, .slice A1_1 l1_1.length c1_1] 90 (0, 0)) (by (with_reducible repeat (first | refine blk_drewN ?_ _ | refine blk_drew ?_ | refine blk_alloc ?_ _)); exact BK1554.out) k_ hk⟩) _ (Nat.le_refl _)) (Below.refl _ _) (Nat.le_refl _) (by simp) ?_; (case hd => rfl); (case hg => rfl); (case hr => first | (go_simp; done) | (go_simp; rfl)); (case hp => exact (Reps.one (show Kd.FK (Kd.slice 22 (Kd.int .u64)) _ _ l1_0 [.slice A1_0 l1_0.length c1_0] from (Kd.FK_slice_mk (Kd.V_reads' (Kd.V_mono (ok' := (fun k_ => (P1_0_ k_ ∨ w.heap.size ≤ k_) ∧ k_ ≠ gb1554)) (HO1_0.out) (fun k_ hk => ⟨hk.1, hk.2⟩))).2.1 (Kd.V_F (by first | exact (Kd.V_mono (ok' := (fun k_ => (P1_0_ k_ ∨ w.heap.size ≤ k_) ∧ k_ ≠ gb1554)) (HO1_0.out) (fun k_ hk => ⟨hk.1, hk.2⟩)) | exact Kd.V_drewN (Kd.V_mono (ok' := (fun k_ => (P1_0_ k_ ∨ w.heap.size ≤ k_) ∧ k_ ≠ gb1554)) (HO1_0.out) (fun k_ hk => ⟨hk.1, hk.2⟩)) _)))) (Reps.none _ _))); intro v1556 w12 ho13 hb hg_ hnew_; clear hg_ hnew_; (first | rw [← Ny1555.out] at ho13 | (simp only [Int.reduceToNat] at ho13; rw [← Ny1555.out] at ho13)); have n0_ := Aside0.mk (Kd.V_elder' (by (with_reducible repeat (first | apply Kd.V_alloc | apply Kd.V_drewN | apply Kd.V_drew)); exact HO1_0.out) (Kd.N_base ho13) hb); have n1_ := Aside0.mk (Kd.N_lower ho13 (below_size (by repeat (first | (with_reducible first | exact HB.out | apply below_alloc | apply pw_below_drewN | apply below_drew1 | refine below_set ?_ GE1554.out) | exact HB.out)))); have n2_ := Aside0.mk (blk_below (g := gb1554) (o := .cells #[.slice A1_0 l1_0.length c1_0, .slice A1_1 l1_1.length c1_1] 90 (0, 0)) (by (with_reducible repeat (first | refine blk_drewN ?_ _ | refine blk_drew ?_ | refine blk_alloc ?_ _)); exact BK1554.out) hb); have n3_ := Aside0.mk (below_step (by repeat (first | (with_reducible first | exact HB.out | apply below_alloc | apply pw_below_drewN | apply below_drew1 | refine below_set ?_ GE1554.out) | exact HB.out)) hb); clear HO1_0; clear BK1554; clear HB; have HO1_0 := n0_; have HO1557 := n1_; have BK1554 := n2_; have HB := n3_; clear n0_ n1_ n2_ n3_; clear hb ho13; obtain ⟨Ao14, co14, eo14⟩ := Kd.N_slice HO1557.out; subst eo14) | (go_at_call 92; (with_reducible refine (juntoref02_Right.calls k a0 _ _ y1555 t1558 _ ?side1 ?side2 A7.out).mono ?_); (case side1 => repeat (first | exact (Kd.N_reads' HO1557.out).2.2 | (with_reducible refine Kd.C_alloc ?_ _) | (with_reducible refine Kd.C_drewN ?_ _) | (with_reducible refine Kd.C_drew ?_))); (case side2 => exact (Kd.N_reads' HO1557.out).2.1); rintro e w' ⟨rfl, ⟨nd, rfl⟩⟩; (try first | exact ⟨rfl, _, World.drewN_drewN _ _ _⟩ | exact ⟨rfl, _, Eq.trans (World.drewN_drewN _ _ _) (congrArg (World.drewN _) (Nat.add_assoc _ _ _))⟩)) | (go_at_call 54; (with_reducible refine (juntoref01_Within.calls k a0 _ _ l1_1 t1559 _ ?side1 ?side2 A9.out).mono ?_); (case side1 => repeat (first | exact (Kd.C_below HR1_1.out (by repeat (first | (with_reducible first | exact HB.out | apply below_alloc | apply pw_below_drewN | apply below_drew1 | refine below_set ?_ GE1554.out) | exact HB.out))) | (with_reducible refine Kd.C_alloc ?_ _) | (with_reducible refine Kd.C_drewN ?_ _) | (with_reducible refine Kd.C_drew ?_))); (case side2 => exact HC1_1.out); rintro e w' ⟨rfl, ⟨nd, rfl⟩⟩; (try first | exact ⟨rfl, _, World.drewN_drewN _ _ _⟩ | exact ⟨rfl, _, Eq.trans (World.drewN_drewN _ _ _) (congrArg (World.drewN _) (Nat.add_assoc _ _ _))⟩)))
          repeat (go_quiet (first | ((with_reducible refine gate_dst (N := 27) rfl ?_); (try (refine gate_guard (by rfl) ?_; dsimp only)); refine Kd.N_lit (Kd.slice 22 (Kd.int .u64)) _ 31 ?hg (N' := 27) ?hd (xs := ([l1_0] : List (List Int))) (inner := [.slice A1_0 l1_0.length c1_0]) (ok := (fun k_ => (P1_0_ k_ ∨ w.heap.size ≤ k_) ∧ k_ ≠ gb1554)) (okp := (fun k_ => (P1_0_ k_ ∨ w.heap.size ≤ k_) ∧ k_ ≠ gb1554)) ?hr ?hp (fun _ hk => hk) ((show ∀ k_, w5.heap.size ≤ k_ → (fun k_ => (P1_0_ k_ ∨ w.heap.size ≤ k_) ∧ k_ ≠ gb1554) k_ from fun k_ hk => ⟨(.inr (Nat.le_trans (below_size (by repeat (first | (with_reducible first | exact HB.out | apply below_alloc | apply pw_below_drewN | apply below_drew1 | refine below_set ?_ GE1554.out) | exact HB.out))) hk)), Kd.freshB (g := gb1554) (o := .cells #[.slice A1_0 l1_0.length c1_0, .slice A1_1 l1_1.length c1_1] 90 (0, 0)) (by (with_reducible repeat (first | refine blk_drewN ?_ _ | refine blk_drew ?_ | refine blk_alloc ?_ _)); exact BK1554.out) k_ hk⟩) _ (Nat.le_refl _)) (Below.refl _ _) (Nat.le_refl _) (by simp) ?_; (case hd => rfl); (case hg => rfl); (case hr => first | (go_simp; done) | (go_simp; rfl)); (case hp => exact (Reps.one (show Kd.FK (Kd.slice 22 (Kd.int .u64)) _ _ l1_0 [.slice A1_0 l1_0.length c1_0] from (Kd.FK_slice_mk (Kd.V_reads' (Kd.V_mono (ok' := (fun k_ => (P1_0_ k_ ∨ w.heap.size ≤ k_) ∧ k_ ≠ gb1554)) (HO1_0.out) (fun k_ hk => ⟨hk.1, hk.2⟩))).2.1 (Kd.V_F (by first | exact (Kd.V_mono (ok' := (fun k_ => (P1_0_ k_ ∨ w.heap.size ≤ k_) ∧ k_ ≠ gb1554)) (HO1_0.out) (fun k_ hk => ⟨hk.1, hk.2⟩)) | exact Kd.V_drewN (Kd.V_mono (ok' := (fun k_ => (P1_0_ k_ ∨ w.heap.size ≤ k_) ∧ k_ ≠ gb1554)) (HO1_0.out) (fun k_ hk => ⟨hk.1, hk.2⟩)) _)))) (Reps.none _ _))); intro v1556 w12 ho13 hb hg_ hnew_; clear hg_ hnew_; (first | rw [← Ny1555.out] at ho13 | (simp only [Int.reduceToNat] at ho13; rw [← Ny1555.out] at ho13)); have n0_ := Aside0.mk (Kd.V_elder' (by (with_reducible repeat (first | apply Kd.V_alloc | apply Kd.V_drewN | apply Kd.V_drew)); exact HO1_0.out) (Kd.N_base ho13) hb); have n1_ := Aside0.mk (Kd.N_lower ho13 (below_size (by repeat (first | (with_reducible first | exact HB.out | apply below_alloc | apply pw_below_drewN | apply below_drew1 | refine below_set ?_ GE1554.out) | exact HB.out)))); have n2_ := Aside0.mk (blk_below (g := gb1554) (o := .cells #[.slice A1_0 l1_0.length c1_0, .slice A1_1 l1_1.length c1_1] 90 (0, 0)) (by (with_reducible repeat (first | refine blk_drewN ?_ _ | refine blk_drew ?_ | refine blk_alloc ?_ _)); exact BK1554.out) hb); have n3_ := Aside0.mk (below_step (by repeat (first | (with_reducible first | exact HB.out | apply below_alloc | apply pw_below_drewN | apply below_drew1 | refine below_set ?_ GE1554.out) | exact HB.out)) hb); clear HO1_0; clear BK1554; clear HB; have HO1_0 := n0_; have HO1557 := n1_; have BK1554 := n2_; have HB := n3_; clear n0_ n1_ n2_ n3_; clear hb ho13; obtain ⟨Ao14, co14, eo14⟩ := Kd.N_slice HO1557.out; subst eo14) | (go_at_call 92; (with_reducible refine (juntoref02_Right.calls k a0 _ _ y1555 t1558 _ ?side1 ?side2 A7.out).mono ?_); (case side1 => repeat (first | exact (Kd.N_reads' HO1557.out).2.2 | (with_reducible refine Kd.C_alloc ?_ _) | (with_reducible refine Kd.C_drewN ?_ _) | (with_reducible refine Kd.C_drew ?_))); (case side2 => exact (Kd.N_reads' HO1557.out).2.1); rintro e w' ⟨rfl, ⟨nd, rfl⟩⟩; (try first | exact ⟨rfl, _, World.drewN_drewN _ _ _⟩ | exact ⟨rfl, _, Eq.trans (World.drewN_drewN _ _ _) (congrArg (World.drewN _) (Nat.add_assoc _ _ _))⟩)) | (go_at_call 54; (with_reducible refine (juntoref01_Within.calls k a0 _ _ l1_1 t1559 _ ?side1 ?side2 A9.out).mono ?_); (case side1 => repeat (first | exact (Kd.C_below HR1_1.out (by repeat (first | (with_reducible first | exact HB.out | apply below_alloc | apply pw_below_drewN | apply below_drew1 | refine below_set ?_ GE1554.out) | exact HB.out))) | (with_reducible refine Kd.C_alloc ?_ _) | (with_reducible refine Kd.C_drewN ?_ _) | (with_reducible refine Kd.C_drew ?_))); (case side2 => exact HC1_1.out); rintro e w' ⟨rfl, ⟨nd, rfl⟩⟩; (try first | exact ⟨rfl, _, World.drewN_drewN _ _ _⟩ | exact ⟨rfl, _, Eq.trans (World.drewN_drewN _ _ _) (congrArg (World.drewN _) (Nat.add_assoc _ _ _))⟩))); try go_wp2_with (first | ((with_reducible refine gate_dst (N := 27) rfl ?_); (try (refine gate_guard (by rfl) ?_; dsimp only)); refine Kd.N_lit (Kd.slice 22 (Kd.int .u64)) _ 31 ?hg (N' := 27) ?hd (xs := ([l1_0] : List (List Int))) (inner := [.slice A1_0 l1_0.length c1_0]) (ok := (fun k_ => (P1_0_ k_ ∨ w.heap.size ≤ k_) ∧ k_ ≠ gb1554)) (okp := (fun k_ => (P1_0_ k_ ∨ w.heap.size ≤ k_) ∧ k_ ≠ gb1554)) ?hr ?hp (fun _ hk => hk) ((show ∀ k_, w5.heap.size ≤ k_ → (fun k_ => (P1_0_ k_ ∨ w.heap.size ≤ k_) ∧ k_ ≠ gb1554) k_ from fun k_ hk => ⟨(.inr (Nat.le_trans (below_size (by repeat (first | (with_reducible first | exact HB.out | apply below_alloc | apply pw_below_drewN | apply below_drew1 | refine below_set ?_ GE1554.out) | exact HB.out))) hk)), Kd.freshB (g := gb1554) (o := .cells #[.slice A1_0 l1_0.length c1_0, .slice A1_1 l1_1.length c1_1] 90 (0, 0)) (by (with_reducible repeat (first | refine blk_drewN ?_ _ | refine blk_drew ?_ | refine blk_alloc ?_ _)); exact BK1554.out) k_ hk⟩) _ (Nat.le_refl _)) (Below.refl _ _) (Nat.le_refl _) (by simp) ?_; (case hd => rfl); (case hg => rfl); (case hr => first | (go_simp; done) | (go_simp; rfl)); (case hp => exact (Reps.one (show Kd.FK (Kd.slice 22 (Kd.int .u64)) _ _ l1_0 [.slice A1_0 l1_0.length c1_0] from (Kd.FK_slice_mk (Kd.V_reads' (Kd.V_mono (ok' := (fun k_ => (P1_0_ k_ ∨ w.heap.size ≤ k_) ∧ k_ ≠ gb1554)) (HO1_0.out) (fun k_ hk => ⟨hk.1, hk.2⟩))).2.1 (Kd.V_F (by first | exact (Kd.V_mono (ok' := (fun k_ => (P1_0_ k_ ∨ w.heap.size ≤ k_) ∧ k_ ≠ gb1554)) (HO1_0.out) (fun k_ hk => ⟨hk.1, hk.2⟩)) | exact Kd.V_drewN (Kd.V_mono (ok' := (fun k_ => (P1_0_ k_ ∨ w.heap.size ≤ k_) ∧ k_ ≠ gb1554)) (HO1_0.out) (fun k_ hk => ⟨hk.1, hk.2⟩)) _)))) (Reps.none _ _))); intro v1556 w12 ho13 hb hg_ hnew_; clear hg_ hnew_; (first | rw [← Ny1555.out] at ho13 | (simp only [Int.reduceToNat] at ho13; rw [← Ny1555.out] at ho13)); have n0_ := Aside0.mk (Kd.V_elder' (by (with_reducible repeat (first | apply Kd.V_alloc | apply Kd.V_drewN | apply Kd.V_drew)); exact HO1_0.out) (Kd.N_base ho13) hb); have n1_ := Aside0.mk (Kd.N_lower ho13 (below_size (by repeat (first | (with_reducible first | exact HB.out | apply below_alloc | apply pw_below_drewN | apply below_drew1 | refine below_set ?_ GE1554.out) | exact HB.out)))); have n2_ := Aside0.mk (blk_below (g := gb1554) (o := .cells #[.slice A1_0 l1_0.length c1_0, .slice A1_1 l1_1.length c1_1] 90 (0, 0)) (by (with_reducible repeat (first | refine blk_drewN ?_ _ | refine blk_drew ?_ | refine blk_alloc ?_ _)); exact BK1554.out) hb); have n3_ := Aside0.mk (below_step (by repeat (first | (with_reducible first | exact HB.out | apply below_alloc | apply pw_below_drewN | apply below_drew1 | refine below_set ?_ GE1554.out) | exact HB.out)) hb); clear HO1_0; clear BK1554; clear HB; have HO1_0 := n0_; have HO1557 := n1_; have BK1554 := n2_; have HB := n3_; clear n0_ n1_ n2_ n3_; clear hb ho13; obtain ⟨Ao14, co14, eo14⟩ := Kd.N_slice HO1557.out; subst eo14) | (go_at_call 92; (with_reducible refine (juntoref02_Right.calls k a0 _ _ y1555 t1558 _ ?side1 ?side2 A7.out).mono ?_); (case side1 => repeat (first | exact (Kd.N_reads' HO1557.out).2.2 | (with_reducible refine Kd.C_alloc ?_ _) | (with_reducible refine Kd.C_drewN ?_ _) | (with_reducible refine Kd.C_drew ?_))); (case side2 => exact (Kd.N_reads' HO1557.out).2.1); rintro e w' ⟨rfl, ⟨nd, rfl⟩⟩; (try first | exact ⟨rfl, _, World.drewN_drewN _ _ _⟩ | exact ⟨rfl, _, Eq.trans (World.drewN_drewN _ _ _) (congrArg (World.drewN _) (Nat.add_assoc _ _ _))⟩)) | (go_at_call 54; (with_reducible refine (juntoref01_Within.calls k a0 _ _ l1_1 t1559 _ ?side1 ?side2 A9.out).mono ?_); (case side1 => repeat (first | exact (Kd.C_below HR1_1.out (by repeat (first | (with_reducible first | exact HB.out | apply below_alloc | apply pw_below_drewN | apply below_drew1 | refine below_set ?_ GE1554.out) | exact HB.out))) | (with_reducible refine Kd.C_alloc ?_ _) | (with_reducible refine Kd.C_drewN ?_ _) | (with_reducible refine Kd.C_drew ?_))); (case side2 => exact HC1_1.out); rintro e w' ⟨rfl, ⟨nd, rfl⟩⟩; (try first | exact ⟨rfl, _, World.drewN_drewN _ _ _⟩ | exact ⟨rfl, _, Eq.trans (World.drewN_drewN _ _ _) (congrArg (World.drewN _) (Nat.add_assoc _ _ _))⟩))))
          go_meet
          case rel => exact ⟨_, (true), (by first | rfl | (simp; done) | (simp [*]; done)), H', ⟨by first | omega | exact Nat.le_refl _⟩, ⟨by (with_reducible repeat (first | apply Kd.V_alloc | apply Kd.V_drewN | apply Kd.V_drew)); exact Kd.V_mono HO1_0.out (fun _ hk => ⟨hk.1.1, hk.1.2⟩)⟩, ⟨by (with_reducible repeat (first | apply Kd.V_alloc | apply Kd.V_drewN | apply Kd.V_drew)); exact Kd.V_mono HO1_0.out (fun _ hk => ⟨hk.1.1, hk.1.2⟩)⟩, ⟨by (with_reducible repeat (first | refine blk_drewN ?_ _ | refine blk_drew ?_ | refine blk_alloc ?_ _)); exact BK1554.out⟩, ⟨by repeat (first | (with_reducible first | exact HB.out | apply below_alloc | apply pw_below_drewN | apply below_drew1 | refine below_set ?_ GE1554.out) | exact HB.out)⟩⟩
        · rw [if_neg c11] at H
          have c11b0 : decide (a0 ≤ a2) = false := decide_eq_false c11
          clear c11
          replace H := Option.bind_eq_some_iff.mp H
          obtain ⟨t1560, A150, H⟩ := H
          replace H : (if t1560 = true then (juntolaw02_PolyBack.j0 k a0 a2 l1_0 l1_1 true) else (if (l1_1.length : Int) > 201 then (juntolaw02_PolyBack.j0 k a0 a2 l1_0 l1_1 true) else ((juntoref02_Trim.f k l1_0).bind fun t1561 => (juntolaw02_PolyBack.j0 k a0 a2 l1_0 l1_1 (decide ((t1561.length : Int) > (l1_1.length : Int))))))) = some r := H
          have A15 := Aside0.mk A150
          clear A150
          by_cases c16 : t1560 = true
          · subst c16
            have H1 : (juntolaw02_PolyBack.j0 k a0 a2 l1_0 l1_1 true) = some r := by rw [if_pos rfl] at H; exact H
            clear H
            have H := H1
            clear H1
            have H' := Aside0.mk H
            clear H
            go_wp2_with (first | ((with_reducible refine gate_dst (N := 27) rfl ?_); (try (refine gate_guard (by rfl) ?_; dsimp only)); refine Kd.N_lit (Kd.slice 22 (Kd.int .u64)) _ 31 ?hg (N' := 27) ?hd (xs := ([l1_0] : List (List Int))) (inner := [.slice A1_0 l1_0.length c1_0]) (ok := (fun k_ => (P1_0_ k_ ∨ w.heap.size ≤ k_) ∧ k_ ≠ gb1554)) (okp := (fun k_ => (P1_0_ k_ ∨ w.heap.size ≤ k_) ∧ k_ ≠ gb1554)) ?hr ?hp (fun _ hk => hk) ((show ∀ k_, w5.heap.size ≤ k_ → (fun k_ => (P1_0_ k_ ∨ w.heap.size ≤ k_) ∧ k_ ≠ gb1554) k_ from fun k_ hk => ⟨(.inr (Nat.le_trans (below_size (by repeat (first | (with_reducible first | exact HB.out | apply below_alloc | apply pw_below_drewN | apply below_drew1 | refine below_set ?_ GE1554.out) | exact HB.out))) hk)), Kd.freshB (g := gb1554) (o := .cells #[.slice A1_0 l1_0.length c1_0, .slice A1_1 l1_1.length c1_1] 90 (0, 0)) (by (with_reducible repeat (first | refine blk_drewN ?_ _ | refine blk_drew ?_ | refine blk_alloc ?_ _)); exact BK1554.out) k_ hk⟩) _ (Nat.le_refl _)) (Below.refl _ _) (Nat.le_refl _) (by simp) ?_; (case hd => rfl); (case hg => rfl); (case hr => first | (go_simp; done) | (go_simp; rfl)); (case hp => exact (Reps.one (show Kd.FK (Kd.slice 22 (Kd.int .u64)) _ _ l1_0 [.slice A1_0 l1_0.length c1_0] from (Kd.FK_slice_mk (Kd.V_reads' (Kd.V_mono (ok' := (fun k_ => (P1_0_ k_ ∨ w.heap.size ≤ k_) ∧ k_ ≠ gb1554)) (HO1_0.out) (fun k_ hk => ⟨hk.1, hk.2⟩))).2.1 (Kd.V_F (by first | exact (Kd.V_mono (ok' := (fun k_ => (P1_0_ k_ ∨ w.heap.size ≤ k_) ∧ k_ ≠ gb1554)) (HO1_0.out) (fun k_ hk => ⟨hk.1, hk.2⟩)) | exact Kd.V_drewN (Kd.V_mono (ok' := (fun k_ => (P1_0_ k_ ∨ w.heap.size ≤ k_) ∧ k_ ≠ gb1554)) (HO1_0.out) (fun k_ hk => ⟨hk.1, hk.2⟩)) _)))) (Reps.none _ _))); intro v1556 w17 ho18 hb hg_ hnew_; clear hg_ hnew_; (first | rw [← Ny1555.out] at ho18 | (simp only [Int.reduceToNat] at ho18; rw [← Ny1555.out] at ho18)); have n0_ := Aside0.mk (Kd.V_elder' (by (with_reducible repeat (first | apply Kd.V_alloc | apply Kd.V_drewN | apply Kd.V_drew)); exact HO1_0.out) (Kd.N_base ho18) hb); have n1_ := Aside0.mk (Kd.N_lower ho18 (below_size (by repeat (first | (with_reducible first | exact HB.out | apply below_alloc | apply pw_below_drewN | apply below_drew1 | refine below_set ?_ GE1554.out) | exact HB.out)))); have n2_ := Aside0.mk (blk_below (g := gb1554) (o := .cells #[.slice A1_0 l1_0.length c1_0, .slice A1_1 l1_1.length c1_1] 90 (0, 0)) (by (with_reducible repeat (first | refine blk_drewN ?_ _ | refine blk_drew ?_ | refine blk_alloc ?_ _)); exact BK1554.out) hb); have n3_ := Aside0.mk (below_step (by repeat (first | (with_reducible first | exact HB.out | apply below_alloc | apply pw_below_drewN | apply below_drew1 | refine below_set ?_ GE1554.out) | exact HB.out)) hb); clear HO1_0; clear BK1554; clear HB; have HO1_0 := n0_; have HO1557 := n1_; have BK1554 := n2_; have HB := n3_; clear n0_ n1_ n2_ n3_; clear hb ho18; obtain ⟨Ao19, co19, eo19⟩ := Kd.N_slice HO1557.out; subst eo19) | (go_at_call 92; (with_reducible refine (juntoref02_Right.calls k a0 _ _ y1555 t1558 _ ?side1 ?side2 A7.out).mono ?_); (case side1 => repeat (first | exact (Kd.N_reads' HO1557.out).2.2 | (with_reducible refine Kd.C_alloc ?_ _) | (with_reducible refine Kd.C_drewN ?_ _) | (with_reducible refine Kd.C_drew ?_))); (case side2 => exact (Kd.N_reads' HO1557.out).2.1); rintro e w' ⟨rfl, ⟨nd, rfl⟩⟩; (try first | exact ⟨rfl, _, World.drewN_drewN _ _ _⟩ | exact ⟨rfl, _, Eq.trans (World.drewN_drewN _ _ _) (congrArg (World.drewN _) (Nat.add_assoc _ _ _))⟩)) | (go_at_call 54; (with_reducible refine (juntoref01_Within.calls k a0 _ _ l1_1 t1559 _ ?side1 ?side2 A9.out).mono ?_); (case side1 => repeat (first | exact (Kd.C_below HR1_1.out (by repeat (first | (with_reducible first | exact HB.out | apply below_alloc | apply pw_below_drewN | apply below_drew1 | refine below_set ?_ GE1554.out) | exact HB.out))) | (with_reducible refine Kd.C_alloc ?_ _) | (with_reducible refine Kd.C_drewN ?_ _) | (with_reducible refine Kd.C_drew ?_))); (case side2 => exact HC1_1.out); rintro e w' ⟨rfl, ⟨nd, rfl⟩⟩; (try first | exact ⟨rfl, _, World.drewN_drewN _ _ _⟩ | exact ⟨rfl, _, Eq.trans (World.drewN_drewN _ _ _) (congrArg (World.drewN _) (Nat.add_assoc _ _ _))⟩)) | (go_at_call 98; (with_reducible refine (juntoref02_Twice.calls k _ _ l1_1 true _ ?side1 ?side2 A15.out).mono ?_); (case side1 => repeat (first | exact (Kd.C_below HR1_1.out (by repeat (first | (with_reducible first | exact HB.out | apply below_alloc | apply pw_below_drewN | apply below_drew1 | refine below_set ?_ GE1554.out) | exact HB.out))) | (with_reducible refine Kd.C_alloc ?_ _) | (with_reducible refine Kd.C_drewN ?_ _) | (with_reducible refine Kd.C_drew ?_))); (case side2 => exact HC1_1.out); rintro e w' ⟨rfl, ⟨nd, rfl⟩⟩; (try first | exact ⟨rfl, _, World.drewN_drewN _ _ _⟩ | exact ⟨rfl, _, Eq.trans (World.drewN_drewN _ _ _) (congrArg (World.drewN _) (Nat.add_assoc _ _ _))⟩)))
            repeat (go_quiet (first | ((with_reducible refine gate_dst (N := 27) rfl ?_); (try (refine gate_guard (by rfl) ?_; dsimp only)); refine Kd.N_lit (Kd.slice 22 (Kd.int .u64)) _ 31 ?hg (N' := 27) ?hd (xs := ([l1_0] : List (List Int))) (inner := [.slice A1_0 l1_0.length c1_0]) (ok := (fun k_ => (P1_0_ k_ ∨ w.heap.size ≤ k_) ∧ k_ ≠ gb1554)) (okp := (fun k_ => (P1_0_ k_ ∨ w.heap.size ≤ k_) ∧ k_ ≠ gb1554)) ?hr ?hp (fun _ hk => hk) ((show ∀ k_, w5.heap.size ≤ k_ → (fun k_ => (P1_0_ k_ ∨ w.heap.size ≤ k_) ∧ k_ ≠ gb1554) k_ from fun k_ hk => ⟨(.inr (Nat.le_trans (below_size (by repeat (first | (with_reducible first | exact HB.out | apply below_alloc | apply pw_below_drewN | apply below_drew1 | refine below_set ?_ GE1554.out) | exact HB.out))) hk)), Kd.freshB (g := gb1554) (o := .cells #[.slice A1_0 l1_0.length c1_0, .slice A1_1 l1_1.length c1_1] 90 (0, 0)) (by (with_reducible repeat (first | refine blk_drewN ?_ _ | refine blk_drew ?_ | refine blk_alloc ?_ _)); exact BK1554.out) k_ hk⟩) _ (Nat.le_refl _)) (Below.refl _ _) (Nat.le_refl _) (by simp) ?_; (case hd => rfl); (case hg => rfl); (case hr => first | (go_simp; done) | (go_simp; rfl)); (case hp => exact (Reps.one (show Kd.FK (Kd.slice 22 (Kd.int .u64)) _ _ l1_0 [.slice A1_0 l1_0.length c1_0] from (Kd.FK_slice_mk (Kd.V_reads' (Kd.V_mono (ok' := (fun k_ => (P1_0_ k_ ∨ w.heap.size ≤ k_) ∧ k_ ≠ gb1554)) (HO1_0.out) (fun k_ hk => ⟨hk.1, hk.2⟩))).2.1 (Kd.V_F (by first | exact (Kd.V_mono (ok' := (fun k_ => (P1_0_ k_ ∨ w.heap.size ≤ k_) ∧ k_ ≠ gb1554)) (HO1_0.out) (fun k_ hk => ⟨hk.1, hk.2⟩)) | exact Kd.V_drewN (Kd.V_mono (ok' := (fun k_ => (P1_0_ k_ ∨ w.heap.size ≤ k_) ∧ k_ ≠ gb1554)) (HO1_0.out) (fun k_ hk => ⟨hk.1, hk.2⟩)) _)))) (Reps.none _ _))); intro v1556 w17 ho18 hb hg_ hnew_; clear hg_ hnew_; (first | rw [← Ny1555.out] at ho18 | (simp only [Int.reduceToNat] at ho18; rw [← Ny1555.out] at ho18)); have n0_ := Aside0.mk (Kd.V_elder' (by (with_reducible repeat (first | apply Kd.V_alloc | apply Kd.V_drewN | apply Kd.V_drew)); exact HO1_0.out) (Kd.N_base ho18) hb); have n1_ := Aside0.mk (Kd.N_lower ho18 (below_size (by repeat (first | (with_reducible first | exact HB.out | apply below_alloc | apply pw_below_drewN | apply below_drew1 | refine below_set ?_ GE1554.out) | exact HB.out)))); have n2_ := Aside0.mk (blk_below (g := gb1554) (o := .cells #[.slice A1_0 l1_0.length c1_0, .slice A1_1 l1_1.length c1_1] 90 (0, 0)) (by (with_reducible repeat (first | refine blk_drewN ?_ _ | refine blk_drew ?_ | refine blk_alloc ?_ _)); exact BK1554.out) hb); have n3_ := Aside0.mk (below_step (by repeat (first | (with_reducible first | exact HB.out | apply below_alloc | apply pw_below_drewN | apply below_drew1 | refine below_set ?_ GE1554.out) | exact HB.out)) hb); clear HO1_0; clear BK1554; clear HB; have HO1_0 := n0_; have HO1557 := n1_; have BK1554 := n2_; have HB := n3_; clear n0_ n1_ n2_ n3_; clear hb ho18; obtain ⟨Ao19, co19, eo19⟩ := Kd.N_slice HO1557.out; subst eo19) | (go_at_call 92; (with_reducible refine (juntoref02_Right.calls k a0 _ _ y1555 t1558 _ ?side1 ?side2 A7.out).mono ?_); (case side1 => repeat (first | exact (Kd.N_reads' HO1557.out).2.2 | (with_reducible refine Kd.C_alloc ?_ _) | (with_reducible refine Kd.C_drewN ?_ _) | (with_reducible refine Kd.C_drew ?_))); (case side2 => exact (Kd.N_reads' HO1557.out).2.1); rintro e w' ⟨rfl, ⟨nd, rfl⟩⟩; (try first | exact ⟨rfl, _, World.drewN_drewN _ _ _⟩ | exact ⟨rfl, _, Eq.trans (World.drewN_drewN _ _ _) (congrArg (World.drewN _) (Nat.add_assoc _ _ _))⟩)) | (go_at_call 54; (with_reducible refine (juntoref01_Within.calls k a0 _ _ l1_1 t1559 _ ?side1 ?side2 A9.out).mono ?_); (case side1 => repeat (first | exact (Kd.C_below HR1_1.out (by repeat (first | (with_reducible first | exact HB.out | apply below_alloc | apply pw_below_drewN | apply below_drew1 | refine below_set ?_ GE1554.out) | exact HB.out))) | (with_reducible refine Kd.C_alloc ?_ _) | (with_reducible refine Kd.C_drewN ?_ _) | (with_reducible refine Kd.C_drew ?_))); (case side2 => exact HC1_1.out); rintro e w' ⟨rfl, ⟨nd, rfl⟩⟩; (try first | exact ⟨rfl, _, World.drewN_drewN _ _ _⟩ | exact ⟨rfl, _, Eq.trans (World.drewN_drewN _ _ _) (congrArg (World.drewN _) (Nat.add_assoc _ _ _))⟩)) | (go_at_call 98; (with_reducible refine (juntoref02_Twice.calls k _ _ l1_1 true _ ?side1 ?side2 A15.out).mono ?_); (case side1 => repeat (first | exact (Kd.C_below HR1_1.out (by repeat (first | (with_reducible first | exact HB.out | apply below_alloc | apply pw_below_drewN | apply below_drew1 | refine below_set ?_ GE1554.out) | exact HB.out))) | (with_reducible refine Kd.C_alloc ?_ _) | (with_reducible refine Kd.C_drewN ?_ _) | (with_reducible refine Kd.C_drew ?_))); (case side2 => exact HC1_1.out); rintro e w' ⟨rfl, ⟨nd, rfl⟩⟩; (try first | exact ⟨rfl, _, World.drewN_drewN _ _ _⟩ | exact ⟨rfl, _, Eq.trans (World.drewN_drewN _ _ _) (congrArg (World.drewN _) (Nat.add_assoc _ _ _))⟩))); try go_wp2_with (first | ((with_reducible refine gate_dst (N := 27) rfl ?_); (try (refine gate_guard (by rfl) ?_; dsimp only)); refine Kd.N_lit (Kd.slice 22 (Kd.int .u64)) _ 31 ?hg (N' := 27) ?hd (xs := ([l1_0] : List (List Int))) (inner := [.slice A1_0 l1_0.length c1_0]) (ok := (fun k_ => (P1_0_ k_ ∨ w.heap.size ≤ k_) ∧ k_ ≠ gb1554)) (okp := (fun k_ => (P1_0_ k_ ∨ w.heap.size ≤ k_) ∧ k_ ≠ gb1554)) ?hr ?hp (fun _ hk => hk) ((show ∀ k_, w5.heap.size ≤ k_ → (fun k_ => (P1_0_ k_ ∨ w.heap.size ≤ k_) ∧ k_ ≠ gb1554) k_ from fun k_ hk => ⟨(.inr (Nat.le_trans (below_size (by repeat (first | (with_reducible first | exact HB.out | apply below_alloc | apply pw_below_drewN | apply below_drew1 | refine below_set ?_ GE1554.out) | exact HB.out))) hk)), Kd.freshB (g := gb1554) (o := .cells #[.slice A1_0 l1_0.length c1_0, .slice A1_1 l1_1.length c1_1] 90 (0, 0)) (by (with_reducible repeat (first | refine blk_drewN ?_ _ | refine blk_drew ?_ | refine blk_alloc ?_ _)); exact BK1554.out) k_ hk⟩) _ (Nat.le_refl _)) (Below.refl _ _) (Nat.le_refl _) (by simp) ?_; (case hd => rfl); (case hg => rfl); (case hr => first | (go_simp; done) | (go_simp; rfl)); (case hp => exact (Reps.one (show Kd.FK (Kd.slice 22 (Kd.int .u64)) _ _ l1_0 [.slice A1_0 l1_0.length c1_0] from (Kd.FK_slice_mk (Kd.V_reads' (Kd.V_mono (ok' := (fun k_ => (P1_0_ k_ ∨ w.heap.size ≤ k_) ∧ k_ ≠ gb1554)) (HO1_0.out) (fun k_ hk => ⟨hk.1, hk.2⟩))).2.1 (Kd.V_F (by first | exact (Kd.V_mono (ok' := (fun k_ => (P1_0_ k_ ∨ w.heap.size ≤ k_) ∧ k_ ≠ gb1554)) (HO1_0.out) (fun k_ hk => ⟨hk.1, hk.2⟩)) | exact Kd.V_drewN (Kd.V_mono (ok' := (fun k_ => (P1_0_ k_ ∨ w.heap.size ≤ k_) ∧ k_ ≠ gb1554)) (HO1_0.out) (fun k_ hk => ⟨hk.1, hk.2⟩)) _)))) (Reps.none _ _))); intro v1556 w17 ho18 hb hg_ hnew_; clear hg_ hnew_; (first | rw [← Ny1555.out] at ho18 | (simp only [Int.reduceToNat] at ho18; rw [← Ny1555.out] at ho18)); have n0_ := Aside0.mk (Kd.V_elder' (by (with_reducible repeat (first | apply Kd.V_alloc | apply Kd.V_drewN | apply Kd.V_drew)); exact HO1_0.out) (Kd.N_base ho18) hb); have n1_ := Aside0.mk (Kd.N_lower ho18 (below_size (by repeat (first | (with_reducible first | exact HB.out | apply below_alloc | apply pw_below_drewN | apply below_drew1 | refine below_set ?_ GE1554.out) | exact HB.out)))); have n2_ := Aside0.mk (blk_below (g := gb1554) (o := .cells #[.slice A1_0 l1_0.length c1_0, .slice A1_1 l1_1.length c1_1] 90 (0, 0)) (by (with_reducible repeat (first | refine blk_drewN ?_ _ | refine blk_drew ?_ | refine blk_alloc ?_ _)); exact BK1554.out) hb); have n3_ := Aside0.mk (below_step (by repeat (first | (with_reducible first | exact HB.out | apply below_alloc | apply pw_below_drewN | apply below_drew1 | refine below_set ?_ GE1554.out) | exact HB.out)) hb); clear HO1_0; clear BK1554; clear HB; have HO1_0 := n0_; have HO1557 := n1_; have BK1554 := n2_; have HB := n3_; clear n0_ n1_ n2_ n3_; clear hb ho18; obtain ⟨Ao19, co19, eo19⟩ := Kd.N_slice HO1557.out; subst eo19) | (go_at_call 92; (with_reducible refine (juntoref02_Right.calls k a0 _ _ y1555 t1558 _ ?side1 ?side2 A7.out).mono ?_); (case side1 => repeat (first | exact (Kd.N_reads' HO1557.out).2.2 | (with_reducible refine Kd.C_alloc ?_ _) | (with_reducible refine Kd.C_drewN ?_ _) | (with_reducible refine Kd.C_drew ?_))); (case side2 => exact (Kd.N_reads' HO1557.out).2.1); rintro e w' ⟨rfl, ⟨nd, rfl⟩⟩; (try first | exact ⟨rfl, _, World.drewN_drewN _ _ _⟩ | exact ⟨rfl, _, Eq.trans (World.drewN_drewN _ _ _) (congrArg (World.drewN _) (Nat.add_assoc _ _ _))⟩)) | (go_at_call 54; (with_reducible refine (juntoref01_Within.calls k a0 _ _ l1_1 t1559 _ ?side1 ?side2 A9.out).mono ?_); (case side1 => repeat (first | exact (Kd.C_below HR1_1.out (by repeat (first | (with_reducible first | exact HB.out | apply below_alloc | apply pw_below_drewN | apply below_drew1 | refine below_set ?_ GE1554.out) | exact HB.out))) | (with_reducible refine Kd.C_alloc ?_ _) | (with_reducible refine Kd.C_drewN ?_ _) | (with_reducible refine Kd.C_drew ?_))); (case side2 => exact HC1_1.out); rintro e w' ⟨rfl, ⟨nd, rfl⟩⟩; (try first | exact ⟨rfl, _, World.drewN_drewN _ _ _⟩ | exact ⟨rfl, _, Eq.trans (World.drewN_drewN _ _ _) (congrArg (World.drewN _) (Nat.add_assoc _ _ _))⟩)) | (go_at_call 98; (with_reducible refine (juntoref02_Twice.calls k _ _ l1_1 true _ ?side1 ?side2 A15.out).mono ?_); (case side1 => repeat (first | exact (Kd.C_below HR1_1.out (by repeat (first | (with_reducible first | exact HB.out | apply below_alloc | apply pw_below_drewN | apply below_drew1 | refine below_set ?_ GE1554.out) | exact HB.out))) | (with_reducible refine Kd.C_alloc ?_ _) | (with_reducible refine Kd.C_drewN ?_ _) | (with_reducible refine Kd.C_drew ?_))); (case side2 => exact HC1_1.out); rintro e w' ⟨rfl, ⟨nd, rfl⟩⟩; (try first | exact ⟨rfl, _, World.drewN_drewN _ _ _⟩ | exact ⟨rfl, _, Eq.trans (World.drewN_drewN _ _ _) (congrArg (World.drewN _) (Nat.add_assoc _ _ _))⟩))))
            go_meet
            case rel => exact ⟨_, (true), (by first | rfl | (simp; done) | (simp [*]; done)), H', ⟨by first | omega | exact Nat.le_refl _⟩, ⟨by (with_reducible repeat (first | apply Kd.V_alloc | apply Kd.V_drewN | apply Kd.V_drew)); exact Kd.V_mono HO1_0.out (fun _ hk => ⟨hk.1.1, hk.1.2⟩)⟩, ⟨by (with_reducible repeat (first | apply Kd.V_alloc | apply Kd.V_drewN | apply Kd.V_drew)); exact Kd.V_mono HO1_0.out (fun _ hk => ⟨hk.1.1, hk.1.2⟩)⟩, ⟨by (with_reducible repeat (first | refine blk_drewN ?_ _ | refine blk_drew ?_ | refine blk_alloc ?_ _)); exact BK1554.out⟩, ⟨by repeat (first | (with_reducible first | exact HB.out | apply below_alloc | apply pw_below_drewN | apply below_drew1 | refine below_set ?_ GE1554.out) | exact HB.out)⟩⟩
          · replace c16 := Bool.eq_false_iff.mpr c16
            subst c16
            have H1 : (if (l1_1.length : Int) > 201 then (juntolaw02_PolyBack.j0 k a0 a2 l1_0 l1_1 true) else ((juntoref02_Trim.f k l1_0).bind fun t1561 => (juntolaw02_PolyBack.j0 k a0 a2 l1_0 l1_1 (decide ((t1561.length : Int) > (l1_1.length : Int)))))) = some r := by rw [if_neg (show ¬ (false = true) by decide)] at H; exact H
            clear H
            have H := H1
            clear H1
            by_cases c20 : (l1_1.length : Int) > 201
            · rw [if_pos c20] at H
              have c20b0 : decide (201 < (l1_1.length : Int)) = true := decide_eq_true c20
              have c20b1 : decide (201 < l1_1.length) = true := decide_eq_true (by omega)
              clear c20
              have H' := Aside0.mk H
              clear H
              go_wp2_with (first | ((with_reducible refine gate_dst (N := 27) rfl ?_); (try (refine gate_guard (by rfl) ?_; dsimp only)); refine Kd.N_lit (Kd.slice 22 (Kd.int .u64)) _ 31 ?hg (N' := 27) ?hd (xs := ([l1_0] : List (List Int))) (inner := [.slice A1_0 l1_0.length c1_0]) (ok := (fun k_ => (P1_0_ k_ ∨ w.heap.size ≤ k_) ∧ k_ ≠ gb1554)) (okp := (fun k_ => (P1_0_ k_ ∨ w.heap.size ≤ k_) ∧ k_ ≠ gb1554)) ?hr ?hp (fun _ hk => hk) ((show ∀ k_, w5.heap.size ≤ k_ → (fun k_ => (P1_0_ k_ ∨ w.heap.size ≤ k_) ∧ k_ ≠ gb1554) k_ from fun k_ hk => ⟨(.inr (Nat.le_trans (below_size (by repeat (first | (with_reducible first | exact HB.out | apply below_alloc | apply pw_below_drewN | apply below_drew1 | refine below_set ?_ GE1554.out) | exact HB.out))) hk)), Kd.freshB (g := gb1554) (o := .cells #[.slice A1_0 l1_0.length c1_0, .slice A1_1 l1_1.length c1_1] 90 (0, 0)) (by (with_reducible repeat (first | refine blk_drewN ?_ _ | refine blk_drew ?_ | refine blk_alloc ?_ _)); exact BK1554.out) k_ hk⟩) _ (Nat.le_refl _)) (Below.refl _ _) (Nat.le_refl _) (by simp) ?_; (case hd => rfl); (case hg => rfl); (case hr => first | (go_simp; done) | (go_simp; rfl)); (case hp => exact (Reps.one (show Kd.FK (Kd.slice 22 (Kd.int .u64)) _ _ l1_0 [.slice A1_0 l1_0.length c1_0] from (Kd.FK_slice_mk (Kd.V_reads' (Kd.V_mono (ok' := (fun k_ => (P1_0_ k_ ∨ w.heap.size ≤ k_) ∧ k_ ≠ gb1554)) (HO1_0.out) (fun k_ hk => ⟨hk.1, hk.2⟩))).2.1 (Kd.V_F (by first | exact (Kd.V_mono (ok' := (fun k_ => (P1_0_ k_ ∨ w.heap.size ≤ k_) ∧ k_ ≠ gb1554)) (HO1_0.out) (fun k_ hk => ⟨hk.1, hk.2⟩)) | exact Kd.V_drewN (Kd.V_mono (ok' := (fun k_ => (P1_0_ k_ ∨ w.heap.size ≤ k_) ∧ k_ ≠ gb1554)) (HO1_0.out) (fun k_ hk => ⟨hk.1, hk.2⟩)) _)))) (Reps.none _ _))); intro v1556 w21 ho22 hb hg_ hnew_; clear hg_ hnew_; (first | rw [← Ny1555.out] at ho22 | (simp only [Int.reduceToNat] at ho22; rw [← Ny1555.out] at ho22)); have n0_ := Aside0.mk (Kd.V_elder' (by (with_reducible repeat (first | apply Kd.V_alloc | apply Kd.V_drewN | apply Kd.V_drew)); exact HO1_0.out) (Kd.N_base ho22) hb); have n1_ := Aside0.mk (Kd.N_lower ho22 (below_size (by repeat (first | (with_reducible first | exact HB.out | apply below_alloc | apply pw_below_drewN | apply below_drew1 | refine below_set ?_ GE1554.out) | exact HB.out)))); have n2_ := Aside0.mk (blk_below (g := gb1554) (o := .cells #[.slice A1_0 l1_0.length c1_0, .slice A1_1 l1_1.length c1_1] 90 (0, 0)) (by (with_reducible repeat (first | refine blk_drewN ?_ _ | refine blk_drew ?_ | refine blk_alloc ?_ _)); exact BK1554.out) hb); have n3_ := Aside0.mk (below_step (by repeat (first | (with_reducible first | exact HB.out | apply below_alloc | apply pw_below_drewN | apply below_drew1 | refine below_set ?_ GE1554.out) | exact HB.out)) hb); clear HO1_0; clear BK1554; clear HB; have HO1_0 := n0_; have HO1557 := n1_; have BK1554 := n2_; have HB := n3_; clear n0_ n1_ n2_ n3_; clear hb ho22; obtain ⟨Ao23, co23, eo23⟩ := Kd.N_slice HO1557.out; subst eo23) | (go_at_call 92; (with_reducible refine (juntoref02_Right.calls k a0 _ _ y1555 t1558 _ ?side1 ?side2 A7.out).mono ?_); (case side1 => repeat (first | exact (Kd.N_reads' HO1557.out).2.2 | (with_reducible refine Kd.C_alloc ?_ _) | (with_reducible refine Kd.C_drewN ?_ _) | (with_reducible refine Kd.C_drew ?_))); (case side2 => exact (Kd.N_reads' HO1557.out).2.1); rintro e w' ⟨rfl, ⟨nd, rfl⟩⟩; (try first | exact ⟨rfl, _, World.drewN_drewN _ _ _⟩ | exact ⟨rfl, _, Eq.trans (World.drewN_drewN _ _ _) (congrArg (World.drewN _) (Nat.add_assoc _ _ _))⟩)) | (go_at_call 54; (with_reducible refine (juntoref01_Within.calls k a0 _ _ l1_1 t1559 _ ?side1 ?side2 A9.out).mono ?_); (case side1 => repeat (first | exact (Kd.C_below HR1_1.out (by repeat (first | (with_reducible first | exact HB.out | apply below_alloc | apply pw_below_drewN | apply below_drew1 | refine below_set ?_ GE1554.out) | exact HB.out))) | (with_reducible refine Kd.C_alloc ?_ _) | (with_reducible refine Kd.C_drewN ?_ _) | (with_reducible refine Kd.C_drew ?_))); (case side2 => exact HC1_1.out); rintro e w' ⟨rfl, ⟨nd, rfl⟩⟩; (try first | exact ⟨rfl, _, World.drewN_drewN _ _ _⟩ | exact ⟨rfl, _, Eq.trans (World.drewN_drewN _ _ _) (congrArg (World.drewN _) (Nat.add_assoc _ _ _))⟩)) | (go_at_call 98; (with_reducible refine (juntoref02_Twice.calls k _ _ l1_1 false _ ?side1 ?side2 A15.out).mono ?_); (case side1 => repeat (first | exact (Kd.C_below HR1_1.out (by repeat (first | (with_reducible first | exact HB.out | apply below_alloc | apply pw_below_drewN | apply below_drew1 | refine below_set ?_ GE1554.out) | exact HB.out))) | (with_reducible refine Kd.C_alloc ?_ _) | (with_reducible refine Kd.C_drewN ?_ _) | (with_reducible refine Kd.C_drew ?_))); (case side2 => exact HC1_1.out); rintro e w' ⟨rfl, ⟨nd, rfl⟩⟩; (try first | exact ⟨rfl, _, World.drewN_drewN _ _ _⟩ | exact ⟨rfl, _, Eq.trans (World.drewN_drewN _ _ _) (congrArg (World.drewN _) (Nat.add_assoc _ _ _))⟩)))
              repeat (go_quiet (first | ((with_reducible refine gate_dst (N := 27) rfl ?_); (try (refine gate_guard (by rfl) ?_; dsimp only)); refine Kd.N_lit (Kd.slice 22 (Kd.int .u64)) _ 31 ?hg (N' := 27) ?hd (xs := ([l1_0] : List (List Int))) (inner := [.slice A1_0 l1_0.length c1_0]) (ok := (fun k_ => (P1_0_ k_ ∨ w.heap.size ≤ k_) ∧ k_ ≠ gb1554)) (okp := (fun k_ => (P1_0_ k_ ∨ w.heap.size ≤ k_) ∧ k_ ≠ gb1554)) ?hr ?hp (fun _ hk => hk) ((show ∀ k_, w5.heap.size ≤ k_ → (fun k_ => (P1_0_ k_ ∨ w.heap.size ≤ k_) ∧ k_ ≠ gb1554) k_ from fun k_ hk => ⟨(.inr (Nat.le_trans (below_size (by repeat (first | (with_reducible first | exact HB.out | apply below_alloc | apply pw_below_drewN | apply below_drew1 | refine below_set ?_ GE1554.out) | exact HB.out))) hk)), Kd.freshB (g := gb1554) (o := .cells #[.slice A1_0 l1_0.length c1_0, .slice A1_1 l1_1.length c1_1] 90 (0, 0)) (by (with_reducible repeat (first | refine blk_drewN ?_ _ | refine blk_drew ?_ | refine blk_alloc ?_ _)); exact BK1554.out) k_ hk⟩) _ (Nat.le_refl _)) (Below.refl _ _) (Nat.le_refl _) (by simp) ?_; (case hd => rfl); (case hg => rfl); (case hr => first | (go_simp; done) | (go_simp; rfl)); (case hp => exact (Reps.one (show Kd.FK (Kd.slice 22 (Kd.int .u64)) _ _ l1_0 [.slice A1_0 l1_0.length c1_0] from (Kd.FK_slice_mk (Kd.V_reads' (Kd.V_mono (ok' := (fun k_ => (P1_0_ k_ ∨ w.heap.size ≤ k_) ∧ k_ ≠ gb1554)) (HO1_0.out) (fun k_ hk => ⟨hk.1, hk.2⟩))).2.1 (Kd.V_F (by first | exact (Kd.V_mono (ok' := (fun k_ => (P1_0_ k_ ∨ w.heap.size ≤ k_) ∧ k_ ≠ gb1554)) (HO1_0.out) (fun k_ hk => ⟨hk.1, hk.2⟩)) | exact Kd.V_drewN (Kd.V_mono (ok' := (fun k_ => (P1_0_ k_ ∨ w.heap.size ≤ k_) ∧ k_ ≠ gb1554)) (HO1_0.out) (fun k_ hk => ⟨hk.1, hk.2⟩)) _)))) (Reps.none _ _))); intro v1556 w21 ho22 hb hg_ hnew_; clear hg_ hnew_; (first | rw [← Ny1555.out] at ho22 | (simp only [Int.reduceToNat] at ho22; rw [← Ny1555.out] at ho22)); have n0_ := Aside0.mk (Kd.V_elder' (by (with_reducible repeat (first | apply Kd.V_alloc | apply Kd.V_drewN | apply Kd.V_drew)); exact HO1_0.out) (Kd.N_base ho22) hb); have n1_ := Aside0.mk (Kd.N_lower ho22 (below_size (by repeat (first | (with_reducible first | exact HB.out | apply below_alloc | apply pw_below_drewN | apply below_drew1 | refine below_set ?_ GE1554.out) | exact HB.out)))); have n2_ := Aside0.mk (blk_below (g := gb1554) (o := .cells #[.slice A1_0 l1_0.length c1_0, .slice A1_1 l1_1.length c1_1] 90 (0, 0)) (by (with_reducible repeat (first | refine blk_drewN ?_ _ | refine blk_drew ?_ | refine blk_alloc ?_ _)); exact BK1554.out) hb); have n3_ := Aside0.mk (below_step (by repeat (first | (with_reducible first | exact HB.out | apply below_alloc | apply pw_below_drewN | apply below_drew1 | refine below_set ?_ GE1554.out) | exact HB.out)) hb); clear HO1_0; clear BK1554; clear HB; have HO1_0 := n0_; have HO1557 := n1_; have BK1554 := n2_; have HB := n3_; clear n0_ n1_ n2_ n3_; clear hb ho22; obtain ⟨Ao23, co23, eo23⟩ := Kd.N_slice HO1557.out; subst eo23) | (go_at_call 92; (with_reducible refine (juntoref02_Right.calls k a0 _ _ y1555 t1558 _ ?side1 ?side2 A7.out).mono ?_); (case side1 => repeat (first | exact (Kd.N_reads' HO1557.out).2.2 | (with_reducible refine Kd.C_alloc ?_ _) | (with_reducible refine Kd.C_drewN ?_ _) | (with_reducible refine Kd.C_drew ?_))); (case side2 => exact (Kd.N_reads' HO1557.out).2.1); rintro e w' ⟨rfl, ⟨nd, rfl⟩⟩; (try first | exact ⟨rfl, _, World.drewN_drewN _ _ _⟩ | exact ⟨rfl, _, Eq.trans (World.drewN_drewN _ _ _) (congrArg (World.drewN _) (Nat.add_assoc _ _ _))⟩)) | (go_at_call 54; (with_reducible refine (juntoref01_Within.calls k a0 _ _ l1_1 t1559 _ ?side1 ?side2 A9.out).mono ?_); (case side1 => repeat (first | exact (Kd.C_below HR1_1.out (by repeat (first | (with_reducible first | exact HB.out | apply below_alloc | apply pw_below_drewN | apply below_drew1 | refine below_set ?_ GE1554.out) | exact HB.out))) | (with_reducible refine Kd.C_alloc ?_ _) | (with_reducible refine Kd.C_drewN ?_ _) | (with_reducible refine Kd.C_drew ?_))); (case side2 => exact HC1_1.out); rintro e w' ⟨rfl, ⟨nd, rfl⟩⟩; (try first | exact ⟨rfl, _, World.drewN_drewN _ _ _⟩ | exact ⟨rfl, _, Eq.trans (World.drewN_drewN _ _ _) (congrArg (World.drewN _) (Nat.add_assoc _ _ _))⟩)) | (go_at_call 98; (with_reducible refine (juntoref02_Twice.calls k _ _ l1_1 false _ ?side1 ?side2 A15.out).mono ?_); (case side1 => repeat (first | exact (Kd.C_below HR1_1.out (by repeat (first | (with_reducible first | exact HB.out | apply below_alloc | apply pw_below_drewN | apply below_drew1 | refine below_set ?_ GE1554.out) | exact HB.out))) | (with_reducible refine Kd.C_alloc ?_ _) | (with_reducible refine Kd.C_drewN ?_ _) | (with_reducible refine Kd.C_drew ?_))); (case side2 => exact HC1_1.out); rintro e w' ⟨rfl, ⟨nd, rfl⟩⟩; (try first | exact ⟨rfl, _, World.drewN_drewN _ _ _⟩ | exact ⟨rfl, _, Eq.trans (World.drewN_drewN _ _ _) (congrArg (World.drewN _) (Nat.add_assoc _ _ _))⟩))); try go_wp2_with (first | ((with_reducible refine gate_dst (N := 27) rfl ?_); (try (refine gate_guard (by rfl) ?_; dsimp only)); refine Kd.N_lit (Kd.slice 22 (Kd.int .u64)) _ 31 ?hg (N' := 27) ?hd (xs := ([l1_0] : List (List Int))) (inner := [.slice A1_0 l1_0.length c1_0]) (ok := (fun k_ => (P1_0_ k_ ∨ w.heap.size ≤ k_) ∧ k_ ≠ gb1554)) (okp := (fun k_ => (P1_0_ k_ ∨ w.heap.size ≤ k_) ∧ k_ ≠ gb1554)) ?hr ?hp (fun _ hk => hk) ((show ∀ k_, w5.heap.size ≤ k_ → (fun k_ => (P1_0_ k_ ∨ w.heap.size ≤ k_) ∧ k_ ≠ gb1554) k_ from fun k_ hk => ⟨(.inr (Nat.le_trans (below_size (by repeat (first | (with_reducible first | exact HB.out | apply below_alloc | apply pw_below_drewN | apply below_drew1 | refine below_set ?_ GE1554.out) | exact HB.out))) hk)), Kd.freshB (g := gb1554) (o := .cells #[.slice A1_0 l1_0.length c1_0, .slice A1_1 l1_1.length c1_1] 90 (0, 0)) (by (with_reducible repeat (first | refine blk_drewN ?_ _ | refine blk_drew ?_ | refine blk_alloc ?_ _)); exact BK1554.out) k_ hk⟩) _ (Nat.le_refl _)) (Below.refl _ _) (Nat.le_refl _) (by simp) ?_; (case hd => rfl); (case hg => rfl); (case hr => first | (go_simp; done) | (go_simp; rfl)); (case hp => exact (Reps.one (show Kd.FK (Kd.slice 22 (Kd.int .u64)) _ _ l1_0 [.slice A1_0 l1_0.length c1_0] from (Kd.FK_slice_mk (Kd.V_reads' (Kd.V_mono (ok' := (fun k_ => (P1_0_ k_ ∨ w.heap.size ≤ k_) ∧ k_ ≠ gb1554)) (HO1_0.out) (fun k_ hk => ⟨hk.1, hk.2⟩))).2.1 (Kd.V_F (by first | exact (Kd.V_mono (ok' := (fun k_ => (P1_0_ k_ ∨ w.heap.size ≤ k_) ∧ k_ ≠ gb1554)) (HO1_0.out) (fun k_ hk => ⟨hk.1, hk.2⟩)) | exact Kd.V_drewN (Kd.V_mono (ok' := (fun k_ => (P1_0_ k_ ∨ w.heap.size ≤ k_) ∧ k_ ≠ gb1554)) (HO1_0.out) (fun k_ hk => ⟨hk.1, hk.2⟩)) _)))) (Reps.none _ _))); intro v1556 w21 ho22 hb hg_ hnew_; clear hg_ hnew_; (first | rw [← Ny1555.out] at ho22 | (simp only [Int.reduceToNat] at ho22; rw [← Ny1555.out] at ho22)); have n0_ := Aside0.mk (Kd.V_elder' (by (with_reducible repeat (first | apply Kd.V_alloc | apply Kd.V_drewN | apply Kd.V_drew)); exact HO1_0.out) (Kd.N_base ho22) hb); have n1_ := Aside0.mk (Kd.N_lower ho22 (below_size (by repeat (first | (with_reducible first | exact HB.out | apply below_alloc | apply pw_below_drewN | apply below_drew1 | refine below_set ?_ GE1554.out) | exact HB.out)))); have n2_ := Aside0.mk (blk_below (g := gb1554) (o := .cells #[.slice A1_0 l1_0.length c1_0, .slice A1_1 l1_1.length c1_1] 90 (0, 0)) (by (with_reducible repeat (first | refine blk_drewN ?_ _ | refine blk_drew ?_ | refine blk_alloc ?_ _)); exact BK1554.out) hb); have n3_ := Aside0.mk (below_step (by repeat (first | (with_reducible first | exact HB.out | apply below_alloc | apply pw_below_drewN | apply below_drew1 | refine below_set ?_ GE1554.out) | exact HB.out)) hb); clear HO1_0; clear BK1554; clear HB; have HO1_0 := n0_; have HO1557 := n1_; have BK1554 := n2_; have HB := n3_; clear n0_ n1_ n2_ n3_; clear hb ho22; obtain ⟨Ao23, co23, eo23⟩ := Kd.N_slice HO1557.out; subst eo23) | (go_at_call 92; (with_reducible refine (juntoref02_Right.calls k a0 _ _ y1555 t1558 _ ?side1 ?side2 A7.out).mono ?_); (case side1 => repeat (first | exact (Kd.N_reads' HO1557.out).2.2 | (with_reducible refine Kd.C_alloc ?_ _) | (with_reducible refine Kd.C_drewN ?_ _) | (with_reducible refine Kd.C_drew ?_))); (case side2 => exact (Kd.N_reads' HO1557.out).2.1); rintro e w' ⟨rfl, ⟨nd, rfl⟩⟩; (try first | exact ⟨rfl, _, World.drewN_drewN _ _ _⟩ | exact ⟨rfl, _, Eq.trans (World.drewN_drewN _ _ _) (congrArg (World.drewN _) (Nat.add_assoc _ _ _))⟩)) | (go_at_call 54; (with_reducible refine (juntoref01_Within.calls k a0 _ _ l1_1 t1559 _ ?side1 ?side2 A9.out).mono ?_); (case side1 => repeat (first | exact (Kd.C_below HR1_1.out (by repeat (first | (with_reducible first | exact HB.out | apply below_alloc | apply pw_below_drewN | apply below_drew1 | refine below_set ?_ GE1554.out) | exact HB.out))) | (with_reducible refine Kd.C_alloc ?_ _) | (with_reducible refine Kd.C_drewN ?_ _) | (with_reducible refine Kd.C_drew ?_))); (case side2 => exact HC1_1.out); rintro e w' ⟨rfl, ⟨nd, rfl⟩⟩; (try first | exact ⟨rfl, _, World.drewN_drewN _ _ _⟩ | exact ⟨rfl, _, Eq.trans (World.drewN_drewN _ _ _) (congrArg (World.drewN _) (Nat.add_assoc _ _ _))⟩)) | (go_at_call 98; (with_reducible refine (juntoref02_Twice.calls k _ _ l1_1 false _ ?side1 ?side2 A15.out).mono ?_); (case side1 => repeat (first | exact (Kd.C_below HR1_1.out (by repeat (first | (with_reducible first | exact HB.out | apply below_alloc | apply pw_below_drewN | apply below_drew1 | refine below_set ?_ GE1554.out) | exact HB.out))) | (with_reducible refine Kd.C_alloc ?_ _) | (with_reducible refine Kd.C_drewN ?_ _) | (with_reducible refine Kd.C_drew ?_))); (case side2 => exact HC1_1.out); rintro e w' ⟨rfl, ⟨nd, rfl⟩⟩; (try first | exact ⟨rfl, _, World.drewN_drewN _ _ _⟩ | exact ⟨rfl, _, Eq.trans (World.drewN_drewN _ _ _) (congrArg (World.drewN _) (Nat.add_assoc _ _ _))⟩))))
              go_meet
              case rel => exact ⟨_, (true), (by first | rfl | (simp; done) | (simp [*]; done)), H', ⟨by first | omega | exact Nat.le_refl _⟩, ⟨by (with_reducible repeat (first | apply Kd.V_alloc | apply Kd.V_drewN | apply Kd.V_drew)); exact Kd.V_mono HO1_0.out (fun _ hk => ⟨hk.1.1, hk.1.2⟩)⟩, ⟨by (with_reducible repeat (first | apply Kd.V_alloc | apply Kd.V_drewN | apply Kd.V_drew)); exact Kd.V_mono HO1_0.out (fun _ hk => ⟨hk.1.1, hk.1.2⟩)⟩, ⟨by (with_reducible repeat (first | refine blk_drewN ?_ _ | refine blk_drew ?_ | refine blk_alloc ?_ _)); exact BK1554.out⟩, ⟨by repeat (first | (with_reducible first | exact HB.out | apply below_alloc | apply pw_below_drewN | apply below_drew1 | refine below_set ?_ GE1554.out) | exact HB.out)⟩⟩
            · rw [if_neg c20] at H
              have c20b0 : decide (201 < (l1_1.length : Int)) = false := decide_eq_false c20
              have c20b1 : decide (201 < l1_1.length) = false := decide_eq_false (by omega)
              clear c20
              replace H := Option.bind_eq_some_iff.mp H
              obtain ⟨t1561, A240, H⟩ := H
              replace H : (juntolaw02_PolyBack.j0 k a0 a2 l1_0 l1_1 (decide ((t1561.length : Int) > (l1_1.length : Int)))) = some r := H
              have A24 := Aside0.mk A240
              clear A240
              have H' := Aside0.mk H
              clear H
              go_wp2_with (first | ((with_reducible refine gate_dst (N := 27) rfl ?_); (try (refine gate_guard (by rfl) ?_; dsimp only)); refine Kd.N_lit (Kd.slice 22 (Kd.int .u64)) _ 31 ?hg (N' := 27) ?hd (xs := ([l1_0] : List (List Int))) (inner := [.slice A1_0 l1_0.length c1_0]) (ok := (fun k_ => (P1_0_ k_ ∨ w.heap.size ≤ k_) ∧ k_ ≠ gb1554)) (okp := (fun k_ => (P1_0_ k_ ∨ w.heap.size ≤ k_) ∧ k_ ≠ gb1554)) ?hr ?hp (fun _ hk => hk) ((show ∀ k_, w5.heap.size ≤ k_ → (fun k_ => (P1_0_ k_ ∨ w.heap.size ≤ k_) ∧ k_ ≠ gb1554) k_ from fun k_ hk => ⟨(.inr (Nat.le_trans (below_size (by repeat (first | (with_reducible first | exact HB.out | apply below_alloc | apply pw_below_drewN | apply below_drew1 | refine below_set ?_ GE1554.out) | exact HB.out))) hk)), Kd.freshB (g := gb1554) (o := .cells #[.slice A1_0 l1_0.length c1_0, .slice A1_1 l1_1.length c1_1] 90 (0, 0)) (by (with_reducible repeat (first | refine blk_drewN ?_ _ | refine blk_drew ?_ | refine blk_alloc ?_ _)); exact BK1554.out) k_ hk⟩) _ (Nat.le_refl _)) (Below.refl _ _) (Nat.le_refl _) (by simp) ?_; (case hd => rfl); (case hg => rfl); (case hr => first | (go_simp; done) | (go_simp; rfl)); (case hp => exact (Reps.one (show Kd.FK (Kd.slice 22 (Kd.int .u64)) _ _ l1_0 [.slice A1_0 l1_0.length c1_0] from (Kd.FK_slice_mk (Kd.V_reads' (Kd.V_mono (ok' := (fun k_ => (P1_0_ k_ ∨ w.heap.size ≤ k_) ∧ k_ ≠ gb1554)) (HO1_0.out) (fun k_ hk => ⟨hk.1, hk.2⟩))).2.1 (Kd.V_F (by first | exact (Kd.V_mono (ok' := (fun k_ => (P1_0_ k_ ∨ w.heap.size ≤ k_) ∧ k_ ≠ gb1554)) (HO1_0.out) (fun k_ hk => ⟨hk.1, hk.2⟩)) | exact Kd.V_drewN (Kd.V_mono (ok' := (fun k_ => (P1_0_ k_ ∨ w.heap.size ≤ k_) ∧ k_ ≠ gb1554)) (HO1_0.out) (fun k_ hk => ⟨hk.1, hk.2⟩)) _)))) (Reps.none _ _))); intro v1556 w25 ho26 hb hg_ hnew_; clear hg_ hnew_; (first | rw [← Ny1555.out] at ho26 | (simp only [Int.reduceToNat] at ho26; rw [← Ny1555.out] at ho26)); have n0_ := Aside0.mk (Kd.V_elder' (by (with_reducible repeat (first | apply Kd.V_alloc | apply Kd.V_drewN | apply Kd.V_drew)); exact HO1_0.out) (Kd.N_base ho26) hb); have n1_ := Aside0.mk (Kd.N_lower ho26 (below_size (by repeat (first | (with_reducible first | exact HB.out | apply below_alloc | apply pw_below_drewN | apply below_drew1 | refine below_set ?_ GE1554.out) | exact HB.out)))); have n2_ := Aside0.mk (blk_below (g := gb1554) (o := .cells #[.slice A1_0 l1_0.length c1_0, .slice A1_1 l1_1.length c1_1] 90 (0, 0)) (by (with_reducible repeat (first | refine blk_drewN ?_ _ | refine blk_drew ?_ | refine blk_alloc ?_ _)); exact BK1554.out) hb); have n3_ := Aside0.mk (below_step (by repeat (first | (with_reducible first | exact HB.out | apply below_alloc | apply pw_below_drewN | apply below_drew1 | refine below_set ?_ GE1554.out) | exact HB.out)) hb); clear HO1_0; clear BK1554; clear HB; have HO1_0 := n0_; have HO1557 := n1_; have BK1554 := n2_; have HB := n3_; clear n0_ n1_ n2_ n3_; clear hb ho26; obtain ⟨Ao27, co27, eo27⟩ := Kd.N_slice HO1557.out; subst eo27) | (go_at_call 92; (with_reducible refine (juntoref02_Right.calls k a0 _ _ y1555 t1558 _ ?side1 ?side2 A7.out).mono ?_); (case side1 => repeat (first | exact (Kd.N_reads' HO1557.out).2.2 | (with_reducible refine Kd.C_alloc ?_ _) | (with_reducible refine Kd.C_drewN ?_ _) | (with_reducible refine Kd.C_drew ?_))); (case side2 => exact (Kd.N_reads' HO1557.out).2.1); rintro e w' ⟨rfl, ⟨nd, rfl⟩⟩; (try first | exact ⟨rfl, _, World.drewN_drewN _ _ _⟩ | exact ⟨rfl, _, Eq.trans (World.drewN_drewN _ _ _) (congrArg (World.drewN _) (Nat.add_assoc _ _ _))⟩)) | (go_at_call 54; (with_reducible refine (juntoref01_Within.calls k a0 _ _ l1_1 t1559 _ ?side1 ?side2 A9.out).mono ?_); (case side1 => repeat (first | exact (Kd.C_below HR1_1.out (by repeat (first | (with_reducible first | exact HB.out | apply below_alloc | apply pw_below_drewN | apply below_drew1 | refine below_set ?_ GE1554.out) | exact HB.out))) | (with_reducible refine Kd.C_alloc ?_ _) | (with_reducible refine Kd.C_drewN ?_ _) | (with_reducible refine Kd.C_drew ?_))); (case side2 => exact HC1_1.out); rintro e w' ⟨rfl, ⟨nd, rfl⟩⟩; (try first | exact ⟨rfl, _, World.drewN_drewN _ _ _⟩ | exact ⟨rfl, _, Eq.trans (World.drewN_drewN _ _ _) (congrArg (World.drewN _) (Nat.add_assoc _ _ _))⟩)) | (go_at_call 98; (with_reducible refine (juntoref02_Twice.calls k _ _ l1_1 false _ ?side1 ?side2 A15.out).mono ?_); (case side1 => repeat (first | exact (Kd.C_below HR1_1.out (by repeat (first | (with_reducible first | exact HB.out | apply below_alloc | apply pw_below_drewN | apply below_drew1 | refine below_set ?_ GE1554.out) | exact HB.out))) | (with_reducible refine Kd.C_alloc ?_ _) | (with_reducible refine Kd.C_drewN ?_ _) | (with_reducible refine Kd.C_drew ?_))); (case side2 => exact HC1_1.out); rintro e w' ⟨rfl, ⟨nd, rfl⟩⟩; (try first | exact ⟨rfl, _, World.drewN_drewN _ _ _⟩ | exact ⟨rfl, _, Eq.trans (World.drewN_drewN _ _ _) (congrArg (World.drewN _) (Nat.add_assoc _ _ _))⟩)) | (go_at_call 60; (with_reducible refine (juntoref02_Trim.calls k _ _ l1_0 t1561 _ ?side1 ?side2 A24.out).mono ?_); (case side1 => repeat (first | exact (Kd.V_reads' HO1_0.out).2.2 | (with_reducible refine Kd.C_alloc ?_ _) | (with_reducible refine Kd.C_drewN ?_ _) | (with_reducible refine Kd.C_drew ?_))); (case side2 => exact (Kd.V_reads' HO1_0.out).2.1); rintro e w28 ⟨v1562, rfl, ho0, hb⟩; have n0_ := Aside0.mk (Kd.V_elder' (by (with_reducible repeat (first | apply Kd.V_alloc | apply Kd.V_drewN | apply Kd.V_drew)); exact HO1_0.out) (Kd.R_base ho0) hb); have n1_ := Aside0.mk (Kd.N_elder' (by (with_reducible repeat (first | apply Kd.N_alloc | apply Kd.N_drewN | apply Kd.N_drew)); exact HO1557.out) (Kd.R_base ho0) hb); have n2_ := Aside0.mk (Kd.R_lower (Kd.R_newM (M := fun k_ => (w.heap.size ≤ k_)) ho0 (below_size (by repeat (first | (with_reducible first | exact HB.out | apply below_alloc | apply pw_below_drewN | apply below_drew1 | refine below_set ?_ GE1554.out) | exact HB.out))) (fun k_ h_ => h_)) (below_size (by repeat (first | (with_reducible first | exact HB.out | apply below_alloc | apply pw_below_drewN | apply below_drew1 | refine below_set ?_ GE1554.out) | exact HB.out)))); have n3_ := Aside0.mk (blk_below (g := gb1554) (o := .cells #[.slice A1_0 l1_0.length c1_0, .slice A1_1 l1_1.length c1_1] 90 (0, 0)) (by (with_reducible repeat (first | refine blk_drewN ?_ _ | refine blk_drew ?_ | refine blk_alloc ?_ _)); exact BK1554.out) hb); have n4_ := Aside0.mk (below_step (by repeat (first | (with_reducible first | exact HB.out | apply below_alloc | apply pw_below_drewN | apply below_drew1 | refine below_set ?_ GE1554.out) | exact HB.out)) hb); clear HO1_0; clear HO1557; clear BK1554; clear HB; have HO1_0 := n0_; have HO1557 := n1_; have HO1563 := n2_; have BK1554 := n3_; have HB := n4_; clear n0_ n1_ n2_ n3_ n4_; (try clear hb); (try clear hb2); (try clear hk); (try clear hi); (try clear ho0); obtain ⟨Ao29, co29, eo29⟩ := Kd.R_slice HO1563.out; subst eo29))
              repeat (go_quiet (first | ((with_reducible refine gate_dst (N := 27) rfl ?_); (try (refine gate_guard (by rfl) ?_; dsimp only)); refine Kd.N_lit (Kd.slice 22 (Kd.int .u64)) _ 31 ?hg (N' := 27) ?hd (xs := ([l1_0] : List (List Int))) (inner := [.slice A1_0 l1_0.length c1_0]) (ok := (fun k_ => (P1_0_ k_ ∨ w.heap.size ≤ k_) ∧ k_ ≠ gb1554)) (okp := (fun k_ => (P1_0_ k_ ∨ w.heap.size ≤ k_) ∧ k_ ≠ gb1554)) ?hr ?hp (fun _ hk => hk) ((show ∀ k_, w5.heap.size ≤ k_ → (fun k_ => (P1_0_ k_ ∨ w.heap.size ≤ k_) ∧ k_ ≠ gb1554) k_ from fun k_ hk => ⟨(.inr (Nat.le_trans (below_size (by repeat (first | (with_reducible first | exact HB.out | apply below_alloc | apply pw_below_drewN | apply below_drew1 | refine below_set ?_ GE1554.out) | exact HB.out))) hk)), Kd.freshB (g := gb1554) (o := .cells #[.slice A1_0 l1_0.length c1_0, .slice A1_1 l1_1.length c1_1] 90 (0, 0)) (by (with_reducible repeat (first | refine blk_drewN ?_ _ | refine blk_drew ?_ | refine blk_alloc ?_ _)); exact BK1554.out) k_ hk⟩) _ (Nat.le_refl _)) (Below.refl _ _) (Nat.le_refl _) (by simp) ?_; (case hd => rfl); (case hg => rfl); (case hr => first | (go_simp; done) | (go_simp; rfl)); (case hp => exact (Reps.one (show Kd.FK (Kd.slice 22 (Kd.int .u64)) _ _ l1_0 [.slice A1_0 l1_0.length c1_0] from (Kd.FK_slice_mk (Kd.V_reads' (Kd.V_mono (ok' := (fun k_ => (P1_0_ k_ ∨ w.heap.size ≤ k_) ∧ k_ ≠ gb1554)) (HO1_0.out) (fun k_ hk => ⟨hk.1, hk.2⟩))).2.1 (Kd.V_F (by first | exact (Kd.V_mono (ok' := (fun k_ => (P1_0_ k_ ∨ w.heap.size ≤ k_) ∧ k_ ≠ gb1554)) (HO1_0.out) (fun k_ hk => ⟨hk.1, hk.2⟩)) | exact Kd.V_drewN (Kd.V_mono (ok' := (fun k_ => (P1_0_ k_ ∨ w.heap.size ≤ k_) ∧ k_ ≠ gb1554)) (HO1_0.out) (fun k_ hk => ⟨hk.1, hk.2⟩)) _)))) (Reps.none _ _))); intro v1556 w25 ho26 hb hg_ hnew_; clear hg_ hnew_; (first | rw [← Ny1555.out] at ho26 | (simp only [Int.reduceToNat] at ho26; rw [← Ny1555.out] at ho26)); have n0_ := Aside0.mk (Kd.V_elder' (by (with_reducible repeat (first | apply Kd.V_alloc | apply Kd.V_drewN | apply Kd.V_drew)); exact HO1_0.out) (Kd.N_base ho26) hb); have n1_ := Aside0.mk (Kd.N_lower ho26 (below_size (by repeat (first | (with_reducible first | exact HB.out | apply below_alloc | apply pw_below_drewN | apply below_drew1 | refine below_set ?_ GE1554.out) | exact HB.out)))); have n2_ := Aside0.mk (blk_below (g := gb1554) (o := .cells #[.slice A1_0 l1_0.length c1_0, .slice A1_1 l1_1.length c1_1] 90 (0, 0)) (by (with_reducible repeat (first | refine blk_drewN ?_ _ | refine blk_drew ?_ | refine blk_alloc ?_ _)); exact BK1554.out) hb); have n3_ := Aside0.mk (below_step (by repeat (first | (with_reducible first | exact HB.out | apply below_alloc | apply pw_below_drewN | apply below_drew1 | refine below_set ?_ GE1554.out) | exact HB.out)) hb); clear HO1_0; clear BK1554; clear HB; have HO1_0 := n0_; have HO1557 := n1_; have BK1554 := n2_; have HB := n3_; clear n0_ n1_ n2_ n3_; clear hb ho26; obtain ⟨Ao27, co27, eo27⟩ := Kd.N_slice HO1557.out; subst eo27) | (go_at_call 92; (with_reducible refine (juntoref02_Right.calls k a0 _ _ y1555 t1558 _ ?side1 ?side2 A7.out).mono ?_); (case side1 => repeat (first | exact (Kd.N_reads' HO1557.out).2.2 | (with_reducible refine Kd.C_alloc ?_ _) | (with_reducible refine Kd.C_drewN ?_ _) | (with_reducible refine Kd.C_drew ?_))); (case side2 => exact (Kd.N_reads' HO1557.out).2.1); rintro e w' ⟨rfl, ⟨nd, rfl⟩⟩; (try first | exact ⟨rfl, _, World.drewN_drewN _ _ _⟩ | exact ⟨rfl, _, Eq.trans (World.drewN_drewN _ _ _) (congrArg (World.drewN _) (Nat.add_assoc _ _ _))⟩)) | (go_at_call 54; (with_reducible refine (juntoref01_Within.calls k a0 _ _ l1_1 t1559 _ ?side1 ?side2 A9.out).mono ?_); (case side1 => repeat (first | exact (Kd.C_below HR1_1.out (by repeat (first | (with_reducible first | exact HB.out | apply below_alloc | apply pw_below_drewN | apply below_drew1 | refine below_set ?_ GE1554.out) | exact HB.out))) | (with_reducible refine Kd.C_alloc ?_ _) | (with_reducible refine Kd.C_drewN ?_ _) | (with_reducible refine Kd.C_drew ?_))); (case side2 => exact HC1_1.out); rintro e w' ⟨rfl, ⟨nd, rfl⟩⟩; (try first | exact ⟨rfl, _, World.drewN_drewN _ _ _⟩ | exact ⟨rfl, _, Eq.trans (World.drewN_drewN _ _ _) (congrArg (World.drewN _) (Nat.add_assoc _ _ _))⟩)) | (go_at_call 98; (with_reducible refine (juntoref02_Twice.calls k _ _ l1_1 false _ ?side1 ?side2 A15.out).mono ?_); (case side1 => repeat (first | exact (Kd.C_below HR1_1.out (by repeat (first | (with_reducible first | exact HB.out | apply below_alloc | apply pw_below_drewN | apply below_drew1 | refine below_set ?_ GE1554.out) | exact HB.out))) | (with_reducible refine Kd.C_alloc ?_ _) | (with_reducible refine Kd.C_drewN ?_ _) | (with_reducible refine Kd.C_drew ?_))); (case side2 => exact HC1_1.out); rintro e w' ⟨rfl, ⟨nd, rfl⟩⟩; (try first | exact ⟨rfl, _, World.drewN_drewN _ _ _⟩ | exact ⟨rfl, _, Eq.trans (World.drewN_drewN _ _ _) (congrArg (World.drewN _) (Nat.add_assoc _ _ _))⟩)) | (go_at_call 60; (with_reducible refine (juntoref02_Trim.calls k _ _ l1_0 t1561 _ ?side1 ?side2 A24.out).mono ?_); (case side1 => repeat (first | exact (Kd.V_reads' HO1_0.out).2.2 | (with_reducible refine Kd.C_alloc ?_ _) | (with_reducible refine Kd.C_drewN ?_ _) | (with_reducible refine Kd.C_drew ?_))); (case side2 => exact (Kd.V_reads' HO1_0.out).2.1); rintro e w28 ⟨v1562, rfl, ho0, hb⟩; have n0_ := Aside0.mk (Kd.V_elder' (by (with_reducible repeat (first | apply Kd.V_alloc | apply Kd.V_drewN | apply Kd.V_drew)); exact HO1_0.out) (Kd.R_base ho0) hb); have n1_ := Aside0.mk (Kd.N_elder' (by (with_reducible repeat (first | apply Kd.N_alloc | apply Kd.N_drewN | apply Kd.N_drew)); exact HO1557.out) (Kd.R_base ho0) hb); have n2_ := Aside0.mk (Kd.R_lower (Kd.R_newM (M := fun k_ => (w.heap.size ≤ k_)) ho0 (below_size (by repeat (first | (with_reducible first | exact HB.out | apply below_alloc | apply pw_below_drewN | apply below_drew1 | refine below_set ?_ GE1554.out) | exact HB.out))) (fun k_ h_ => h_)) (below_size (by repeat (first | (with_reducible first | exact HB.out | apply below_alloc | apply pw_below_drewN | apply below_drew1 | refine below_set ?_ GE1554.out) | exact HB.out)))); have n3_ := Aside0.mk (blk_below (g := gb1554) (o := .cells #[.slice A1_0 l1_0.length c1_0, .slice A1_1 l1_1.length c1_1] 90 (0, 0)) (by (with_reducible repeat (first | refine blk_drewN ?_ _ | refine blk_drew ?_ | refine blk_alloc ?_ _)); exact BK1554.out) hb); have n4_ := Aside0.mk (below_step (by repeat (first | (with_reducible first | exact HB.out | apply below_alloc | apply pw_below_drewN | apply below_drew1 | refine below_set ?_ GE1554.out) | exact HB.out)) hb); clear HO1_0; clear HO1557; clear BK1554; clear HB; have HO1_0 := n0_; have HO1557 := n1_; have HO1563 := n2_; have BK1554 := n3_; have HB := n4_; clear n0_ n1_ n2_ n3_ n4_; (try clear hb); (try clear hb2); (try clear hk); (try clear hi); (try clear ho0); obtain ⟨Ao29, co29, eo29⟩ := Kd.R_slice HO1563.out; subst eo29)); try go_wp2_with (first | ((with_reducible refine gate_dst (N := 27) rfl ?_); (try (refine gate_guard (by rfl) ?_; dsimp only)); refine Kd.N_lit (Kd.slice 22 (Kd.int .u64)) _ 31 ?hg (N' := 27) ?hd (xs := ([l1_0] : List (List Int))) (inner := [.slice A1_0 l1_0.length c1_0]) (ok := (fun k_ => (P1_0_ k_ ∨ w.heap.size ≤ k_) ∧ k_ ≠ gb1554)) (okp := (fun k_ => (P1_0_ k_ ∨ w.heap.size ≤ k_) ∧ k_ ≠ gb1554)) ?hr ?hp (fun _ hk => hk) ((show ∀ k_, w5.heap.size ≤ k_ → (fun k_ => (P1_0_ k_ ∨ w.heap.size ≤ k_) ∧ k_ ≠ gb1554) k_ from fun k_ hk => ⟨(.inr (Nat.le_trans (below_size (by repeat (first | (with_reducible first | exact HB.out | apply below_alloc | apply pw_below_drewN | apply below_drew1 | refine below_set ?_ GE1554.out) | exact HB.out))) hk)), Kd.freshB (g := gb1554) (o := .cells #[.slice A1_0 l1_0.length c1_0, .slice A1_1 l1_1.length c1_1] 90 (0, 0)) (by (with_reducible repeat (first | refine blk_drewN ?_ _ | refine blk_drew ?_ | refine blk_alloc ?_ _)); exact BK1554.out) k_ hk⟩) _ (Nat.le_refl _)) (Below.refl _ _) (Nat.le_refl _) (by simp) ?_; (case hd => rfl); (case hg => rfl); (case hr => first | (go_simp; done) | (go_simp; rfl)); (case hp => exact (Reps.one (show Kd.FK (Kd.slice 22 (Kd.int .u64)) _ _ l1_0 [.slice A1_0 l1_0.length c1_0] from (Kd.FK_slice_mk (Kd.V_reads' (Kd.V_mono (ok' := (fun k_ => (P1_0_ k_ ∨ w.heap.size ≤ k_) ∧ k_ ≠ gb1554)) (HO1_0.out) (fun k_ hk => ⟨hk.1, hk.2⟩))).2.1 (Kd.V_F (by first | exact (Kd.V_mono (ok' := (fun k_ => (P1_0_ k_ ∨ w.heap.size ≤ k_) ∧ k_ ≠ gb1554)) (HO1_0.out) (fun k_ hk => ⟨hk.1, hk.2⟩)) | exact Kd.V_drewN (Kd.V_mono (ok' := (fun k_ => (P1_0_ k_ ∨ w.heap.size ≤ k_) ∧ k_ ≠ gb1554)) (HO1_0.out) (fun k_ hk => ⟨hk.1, hk.2⟩)) _)))) (Reps.none _ _))); intro v1556 w25 ho26 hb hg_ hnew_; clear hg_ hnew_; (first | rw [← Ny1555.out] at ho26 | (simp only [Int.reduceToNat] at ho26; rw [← Ny1555.out] at ho26)); have n0_ := Aside0.mk (Kd.V_elder' (by (with_reducible repeat (first | apply Kd.V_alloc | apply Kd.V_drewN | apply Kd.V_drew)); exact HO1_0.out) (Kd.N_base ho26) hb); have n1_ := Aside0.mk (Kd.N_lower ho26 (below_size (by repeat (first | (with_reducible first | exact HB.out | apply below_alloc | apply pw_below_drewN | apply below_drew1 | refine below_set ?_ GE1554.out) | exact HB.out)))); have n2_ := Aside0.mk (blk_below (g := gb1554) (o := .cells #[.slice A1_0 l1_0.length c1_0, .slice A1_1 l1_1.length c1_1] 90 (0, 0)) (by (with_reducible repeat (first | refine blk_drewN ?_ _ | refine blk_drew ?_ | refine blk_alloc ?_ _)); exact BK1554.out) hb); have n3_ := Aside0.mk (below_step (by repeat (first | (with_reducible first | exact HB.out | apply below_alloc | apply pw_below_drewN | apply below_drew1 | refine below_set ?_ GE1554.out) | exact HB.out)) hb); clear HO1_0; clear BK1554; clear HB; have HO1_0 := n0_; have HO1557 := n1_; have BK1554 := n2_; have HB := n3_; clear n0_ n1_ n2_ n3_; clear hb ho26; obtain ⟨Ao27, co27, eo27⟩ := Kd.N_slice HO1557.out; subst eo27) | (go_at_call 92; (with_reducible refine (juntoref02_Right.calls k a0 _ _ y1555 t1558 _ ?side1 ?side2 A7.out).mono ?_); (case side1 => repeat (first | exact (Kd.N_reads' HO1557.out).2.2 | (with_reducible refine Kd.C_alloc ?_ _) | (with_reducible refine Kd.C_drewN ?_ _) | (with_reducible refine Kd.C_drew ?_))); (case side2 => exact (Kd.N_reads' HO1557.out).2.1); rintro e w' ⟨rfl, ⟨nd, rfl⟩⟩; (try first | exact ⟨rfl, _, World.drewN_drewN _ _ _⟩ | exact ⟨rfl, _, Eq.trans (World.drewN_drewN _ _ _) (congrArg (World.drewN _) (Nat.add_assoc _ _ _))⟩)) | (go_at_call 54; (with_reducible refine (juntoref01_Within.calls k a0 _ _ l1_1 t1559 _ ?side1 ?side2 A9.out).mono ?_); (case side1 => repeat (first | exact (Kd.C_below HR1_1.out (by repeat (first | (with_reducible first | exact HB.out | apply below_alloc | apply pw_below_drewN | apply below_drew1 | refine below_set ?_ GE1554.out) | exact HB.out))) | (with_reducible refine Kd.C_alloc ?_ _) | (with_reducible refine Kd.C_drewN ?_ _) | (with_reducible refine Kd.C_drew ?_))); (case side2 => exact HC1_1.out); rintro e w' ⟨rfl, ⟨nd, rfl⟩⟩; (try first | exact ⟨rfl, _, World.drewN_drewN _ _ _⟩ | exact ⟨rfl, _, Eq.trans (World.drewN_drewN _ _ _) (congrArg (World.drewN _) (Nat.add_assoc _ _ _))⟩)) | (go_at_call 98; (with_reducible refine (juntoref02_Twice.calls k _ _ l1_1 false _ ?side1 ?side2 A15.out).mono ?_); (case side1 => repeat (first | exact (Kd.C_below HR1_1.out (by repeat (first | (with_reducible first | exact HB.out | apply below_alloc | apply pw_below_drewN | apply below_drew1 | refine below_set ?_ GE1554.out) | exact HB.out))) | (with_reducible refine Kd.C_alloc ?_ _) | (with_reducible refine Kd.C_drewN ?_ _) | (with_reducible refine Kd.C_drew ?_))); (case side2 => exact HC1_1.out); rintro e w' ⟨rfl, ⟨nd, rfl⟩⟩; (try first | exact ⟨rfl, _, World.drewN_drewN _ _ _⟩ | exact ⟨rfl, _, Eq.trans (World.drewN_drewN _ _ _) (congrArg (World.drewN _) (Nat.add_assoc _ _ _))⟩)) | (go_at_call 60; (with_reducible refine (juntoref02_Trim.calls k _ _ l1_0 t1561 _ ?side1 ?side2 A24.out).mono ?_); (case side1 => repeat (first | exact (Kd.V_reads' HO1_0.out).2.2 | (with_reducible refine Kd.C_alloc ?_ _) | (with_reducible refine Kd.C_drewN ?_ _) | (with_reducible refine Kd.C_drew ?_))); (case side2 => exact (Kd.V_reads' HO1_0.out).2.1); rintro e w28 ⟨v1562, rfl, ho0, hb⟩; have n0_ := Aside0.mk (Kd.V_elder' (by (with_reducible repeat (first | apply Kd.V_alloc | apply Kd.V_drewN | apply Kd.V_drew)); exact HO1_0.out) (Kd.R_base ho0) hb); have n1_ := Aside0.mk (Kd.N_elder' (by (with_reducible repeat (first | apply Kd.N_alloc | apply Kd.N_drewN | apply Kd.N_drew)); exact HO1557.out) (Kd.R_base ho0) hb); have n2_ := Aside0.mk (Kd.R_lower (Kd.R_newM (M := fun k_ => (w.heap.size ≤ k_)) ho0 (below_size (by repeat (first | (with_reducible first | exact HB.out | apply below_alloc | apply pw_below_drewN | apply below_drew1 | refine below_set ?_ GE1554.out) | exact HB.out))) (fun k_ h_ => h_)) (below_size (by repeat (first | (with_reducible first | exact HB.out | apply below_alloc | apply pw_below_drewN | apply below_drew1 | refine below_set ?_ GE1554.out) | exact HB.out)))); have n3_ := Aside0.mk (blk_below (g := gb1554) (o := .cells #[.slice A1_0 l1_0.length c1_0, .slice A1_1 l1_1.length c1_1] 90 (0, 0)) (by (with_reducible repeat (first | refine blk_drewN ?_ _ | refine blk_drew ?_ | refine blk_alloc ?_ _)); exact BK1554.out) hb); have n4_ := Aside0.mk (below_step (by repeat (first | (with_reducible first | exact HB.out | apply below_alloc | apply pw_below_drewN | apply below_drew1 | refine below_set ?_ GE1554.out) | exact HB.out)) hb); clear HO1_0; clear HO1557; clear BK1554; clear HB; have HO1_0 := n0_; have HO1557 := n1_; have HO1563 := n2_; have BK1554 := n3_; have HB := n4_; clear n0_ n1_ n2_ n3_ n4_; (try clear hb); (try clear hb2); (try clear hk); (try clear hi); (try clear ho0); obtain ⟨Ao29, co29, eo29⟩ := Kd.R_slice HO1563.out; subst eo29)))
              go_meet
              case rel => exact ⟨_, (decide ((t1561.length : Int) > (l1_1.length : Int))), (by first | rfl | (simp; done) | (simp [*]; done)), H', ⟨by first | omega | exact Nat.le_refl _⟩, ⟨by (with_reducible repeat (first | apply Kd.V_alloc | apply Kd.V_drewN | apply Kd.V_drew)); exact Kd.V_mono HO1_0.out (fun _ hk => ⟨hk.1.1.1, hk.1.1.2⟩)⟩, ⟨by (with_reducible repeat (first | apply Kd.V_alloc | apply Kd.V_drewN | apply Kd.V_drew)); exact Kd.V_mono HO1_0.out (fun _ hk => ⟨hk.1.1.1, hk.1.1.2⟩)⟩, ⟨by (with_reducible repeat (first | refine blk_drewN ?_ _ | refine blk_drew ?_ | refine blk_alloc ?_ _)); exact BK1554.out⟩, ⟨by repeat (first | (with_reducible first | exact HB.out | apply below_alloc | apply pw_below_drewN | apply below_drew1 | refine below_set ?_ GE1554.out) | exact HB.out)⟩⟩
      · rw [if_neg c10] at H
        have c10b0 : (t1559 == 0) = false := beq_eq_false_iff_ne.mpr c10
        have c10b1 : (t1559 != 0) = true := bne_iff_ne.mpr c10
        have H' := Aside0.mk H
        clear H
        go_wp2_with (first | ((with_reducible refine gate_dst (N := 27) rfl ?_); (try (refine gate_guard (by rfl) ?_; dsimp only)); refine Kd.N_lit (Kd.slice 22 (Kd.int .u64)) _ 31 ?hg (N' := 27) ?hd (xs := ([l1_0] : List (List Int))) (inner := [.slice A1_0 l1_0.length c1_0]) (ok := (fun k_ => (P1_0_ k_ ∨ w.heap.size ≤ k_) ∧ k_ ≠ gb1554)) (okp := (fun k_ => (P1_0_ k_ ∨ w.heap.size ≤ k_) ∧ k_ ≠ gb1554)) ?hr ?hp (fun _ hk => hk) ((show ∀ k_, w5.heap.size ≤ k_ → (fun k_ => (P1_0_ k_ ∨ w.heap.size ≤ k_) ∧ k_ ≠ gb1554) k_ from fun k_ hk => ⟨(.inr (Nat.le_trans (below_size (by repeat (first | (with_reducible first | exact HB.out | apply below_alloc | apply pw_below_drewN | apply below_drew1 | refine below_set ?_ GE1554.out) | exact HB.out))) hk)), Kd.freshB (g := gb1554) (o := .cells #[.slice A1_0 l1_0.length c1_0, .slice A1_1 l1_1.length c1_1] 90 (0, 0)) (by (with_reducible repeat (first | refine blk_drewN ?_ _ | refine blk_drew ?_ | refine blk_alloc ?_ _)); exact BK1554.out) k_ hk⟩) _ (Nat.le_refl _)) (Below.refl _ _) (Nat.le_refl _) (by simp) ?_; (case hd => rfl); (case hg => rfl); (case hr => first | (go_simp; done) | (go_simp; rfl)); (case hp => exact (Reps.one (show Kd.FK (Kd.slice 22 (Kd.int .u64)) _ _ l1_0 [.slice A1_0 l1_0.length c1_0] from (Kd.FK_slice_mk (Kd.V_reads' (Kd.V_mono (ok' := (fun k_ => (P1_0_ k_ ∨ w.heap.size ≤ k_) ∧ k_ ≠ gb1554)) (HO1_0.out) (fun k_ hk => ⟨hk.1, hk.2⟩))).2.1 (Kd.V_F (by first | exact (Kd.V_mono (ok' := (fun k_ => (P1_0_ k_ ∨ w.heap.size ≤ k_) ∧ k_ ≠ gb1554)) (HO1_0.out) (fun k_ hk => ⟨hk.1, hk.2⟩)) | exact Kd.V_drewN (Kd.V_mono (ok' := (fun k_ => (P1_0_ k_ ∨ w.heap.size ≤ k_) ∧ k_ ≠ gb1554)) (HO1_0.out) (fun k_ hk => ⟨hk.1, hk.2⟩)) _)))) (Reps.none _ _))); intro v1556 w30 ho31 hb hg_ hnew_; clear hg_ hnew_; (first | rw [← Ny1555.out] at ho31 | (simp only [Int.reduceToNat] at ho31; rw [← Ny1555.out] at ho31)); have n0_ := Aside0.mk (Kd.V_elder' (by (with_reducible repeat (first | apply Kd.V_alloc | apply Kd.V_drewN | apply Kd.V_drew)); exact HO1_0.out) (Kd.N_base ho31) hb); have n1_ := Aside0.mk (Kd.N_lower ho31 (below_size (by repeat (first | (with_reducible first | exact HB.out | apply below_alloc | apply pw_below_drewN | apply below_drew1 | refine below_set ?_ GE1554.out) | exact HB.out)))); have n2_ := Aside0.mk (blk_below (g := gb1554) (o := .cells #[.slice A1_0 l1_0.length c1_0, .slice A1_1 l1_1.length c1_1] 90 (0, 0)) (by (with_reducible repeat (first | refine blk_drewN ?_ _ | refine blk_drew ?_ | refine blk_alloc ?_ _)); exact BK1554.out) hb); have n3_ := Aside0.mk (below_step (by repeat (first | (with_reducible first | exact HB.out | apply below_alloc | apply pw_below_drewN | apply below_drew1 | refine below_set ?_ GE1554.out) | exact HB.out)) hb); clear HO1_0; clear BK1554; clear HB; have HO1_0 := n0_; have HO1557 := n1_; have BK1554 := n2_; have HB := n3_; clear n0_ n1_ n2_ n3_; clear hb ho31; obtain ⟨Ao32, co32, eo32⟩ := Kd.N_slice HO1557.out; subst eo32) | (go_at_call 92; (with_reducible refine (juntoref02_Right.calls k a0 _ _ y1555 t1558 _ ?side1 ?side2 A7.out).mono ?_); (case side1 => repeat (first | exact (Kd.N_reads' HO1557.out).2.2 | (with_reducible refine Kd.C_alloc ?_ _) | (with_reducible refine Kd.C_drewN ?_ _) | (with_reducible refine Kd.C_drew ?_))); (case side2 => exact (Kd.N_reads' HO1557.out).2.1); rintro e w' ⟨rfl, ⟨nd, rfl⟩⟩; (try first | exact ⟨rfl, _, World.drewN_drewN _ _ _⟩ | exact ⟨rfl, _, Eq.trans (World.drewN_drewN _ _ _) (congrArg (World.drewN _) (Nat.add_assoc _ _ _))⟩)) | (go_at_call 54; (with_reducible refine (juntoref01_Within.calls k a0 _ _ l1_1 t1559 _ ?side1 ?side2 A9.out).mono ?_); (case side1 => repeat (first | exact (Kd.C_below HR1_1.out (by repeat (first | (with_reducible first | exact HB.out | apply below_alloc | apply pw_below_drewN | apply below_drew1 | refine below_set ?_ GE1554.out) | exact HB.out))) | (with_reducible refine Kd.C_alloc ?_ _) | (with_reducible refine Kd.C_drewN ?_ _) | (with_reducible refine Kd.C_drew ?_))); (case side2 => exact HC1_1.out); rintro e w' ⟨rfl, ⟨nd, rfl⟩⟩; (try first | exact ⟨rfl, _, World.drewN_drewN _ _ _⟩ | exact ⟨rfl, _, Eq.trans (World.drewN_drewN _ _ _) (congrArg (World.drewN _) (Nat.add_assoc _ _ _))⟩)))
        repeat (go_quiet (first | ((with_reducible refine gate_dst (N := 27) rfl ?_); (try (refine gate_guard (by rfl) ?_; dsimp only)); refine Kd.N_lit (Kd.slice 22 (Kd.int .u64)) _ 31 ?hg (N' := 27) ?hd (xs := ([l1_0] : List (List Int))) (inner := [.slice A1_0 l1_0.length c1_0]) (ok := (fun k_ => (P1_0_ k_ ∨ w.heap.size ≤ k_) ∧ k_ ≠ gb1554)) (okp := (fun k_ => (P1_0_ k_ ∨ w.heap.size ≤ k_) ∧ k_ ≠ gb1554)) ?hr ?hp (fun _ hk => hk) ((show ∀ k_, w5.heap.size ≤ k_ → (fun k_ => (P1_0_ k_ ∨ w.heap.size ≤ k_) ∧ k_ ≠ gb1554) k_ from fun k_ hk => ⟨(.inr (Nat.le_trans (below_size (by repeat (first | (with_reducible first | exact HB.out | apply below_alloc | apply pw_below_drewN | apply below_drew1 | refine below_set ?_ GE1554.out) | exact HB.out))) hk)), Kd.freshB (g := gb1554) (o := .cells #[.slice A1_0 l1_0.length c1_0, .slice A1_1 l1_1.length c1_1] 90 (0, 0)) (by (with_reducible repeat (first | refine blk_drewN ?_ _ | refine blk_drew ?_ | refine blk_alloc ?_ _)); exact BK1554.out) k_ hk⟩) _ (Nat.le_refl _)) (Below.refl _ _) (Nat.le_refl _) (by simp) ?_; (case hd => rfl); (case hg => rfl); (case hr => first | (go_simp; done) | (go_simp; rfl)); (case hp => exact (Reps.one (show Kd.FK (Kd.slice 22 (Kd.int .u64)) _ _ l1_0 [.slice A1_0 l1_0.length c1_0] from (Kd.FK_slice_mk (Kd.V_reads' (Kd.V_mono (ok' := (fun k_ => (P1_0_ k_ ∨ w.heap.size ≤ k_) ∧ k_ ≠ gb1554)) (HO1_0.out) (fun k_ hk => ⟨hk.1, hk.2⟩))).2.1 (Kd.V_F (by first | exact (Kd.V_mono (ok' := (fun k_ => (P1_0_ k_ ∨ w.heap.size ≤ k_) ∧ k_ ≠ gb1554)) (HO1_0.out) (fun k_ hk => ⟨hk.1, hk.2⟩)) | exact Kd.V_drewN (Kd.V_mono (ok' := (fun k_ => (P1_0_ k_ ∨ w.heap.size ≤ k_) ∧ k_ ≠ gb1554)) (HO1_0.out) (fun k_ hk => ⟨hk.1, hk.2⟩)) _)))) (Reps.none _ _))); intro v1556 w30 ho31 hb hg_ hnew_; clear hg_ hnew_; (first | rw [← Ny1555.out] at ho31 | (simp only [Int.reduceToNat] at ho31; rw [← Ny1555.out] at ho31)); have n0_ := Aside0.mk (Kd.V_elder' (by (with_reducible repeat (first | apply Kd.V_alloc | apply Kd.V_drewN | apply Kd.V_drew)); exact HO1_0.out) (Kd.N_base ho31) hb); have n1_ := Aside0.mk (Kd.N_lower ho31 (below_size (by repeat (first | (with_reducible first | exact HB.out | apply below_alloc | apply pw_below_drewN | apply below_drew1 | refine below_set ?_ GE1554.out) | exact HB.out)))); have n2_ := Aside0.mk (blk_below (g := gb1554) (o := .cells #[.slice A1_0 l1_0.length c1_0, .slice A1_1 l1_1.length c1_1] 90 (0, 0)) (by (with_reducible repeat (first | refine blk_drewN ?_ _ | refine blk_drew ?_ | refine blk_alloc ?_ _)); exact BK1554.out) hb); have n3_ := Aside0.mk (below_step (by repeat (first | (with_reducible first | exact HB.out | apply below_alloc | apply pw_below_drewN | apply below_drew1 | refine below_set ?_ GE1554.out) | exact HB.out)) hb); clear HO1_0; clear BK1554; clear HB; have HO1_0 := n0_; have HO1557 := n1_; have BK1554 := n2_; have HB := n3_; clear n0_ n1_ n2_ n3_; clear hb ho31; obtain ⟨Ao32, co32, eo32⟩ := Kd.N_slice HO1557.out; subst eo32) | (go_at_call 92; (with_reducible refine (juntoref02_Right.calls k a0 _ _ y1555 t1558 _ ?side1 ?side2 A7.out).mono ?_); (case side1 => repeat (first | exact (Kd.N_reads' HO1557.out).2.2 | (with_reducible refine Kd.C_alloc ?_ _) | (with_reducible refine Kd.C_drewN ?_ _) | (with_reducible refine Kd.C_drew ?_))); (case side2 => exact (Kd.N_reads' HO1557.out).2.1); rintro e w' ⟨rfl, ⟨nd, rfl⟩⟩; (try first | exact ⟨rfl, _, World.drewN_drewN _ _ _⟩ | exact ⟨rfl, _, Eq.trans (World.drewN_drewN _ _ _) (congrArg (World.drewN _) (Nat.add_assoc _ _ _))⟩)) | (go_at_call 54; (with_reducible refine (juntoref01_Within.calls k a0 _ _ l1_1 t1559 _ ?side1 ?side2 A9.out).mono ?_); (case side1 => repeat (first | exact (Kd.C_below HR1_1.out (by repeat (first | (with_reducible first | exact HB.out | apply below_alloc | apply pw_below_drewN | apply below_drew1 | refine below_set ?_ GE1554.out) | exact HB.out))) | (with_reducible refine Kd.C_alloc ?_ _) | (with_reducible refine Kd.C_drewN ?_ _) | (with_reducible refine Kd.C_drew ?_))); (case side2 => exact HC1_1.out); rintro e w' ⟨rfl, ⟨nd, rfl⟩⟩; (try first | exact ⟨rfl, _, World.drewN_drewN _ _ _⟩ | exact ⟨rfl, _, Eq.trans (World.drewN_drewN _ _ _) (congrArg (World.drewN _) (Nat.add_assoc _ _ _))⟩))); try go_wp2_with (first | ((with_reducible refine gate_dst (N := 27) rfl ?_); (try (refine gate_guard (by rfl) ?_; dsimp only)); refine Kd.N_lit (Kd.slice 22 (Kd.int .u64)) _ 31 ?hg (N' := 27) ?hd (xs := ([l1_0] : List (List Int))) (inner := [.slice A1_0 l1_0.length c1_0]) (ok := (fun k_ => (P1_0_ k_ ∨ w.heap.size ≤ k_) ∧ k_ ≠ gb1554)) (okp := (fun k_ => (P1_0_ k_ ∨ w.heap.size ≤ k_) ∧ k_ ≠ gb1554)) ?hr ?hp (fun _ hk => hk) ((show ∀ k_, w5.heap.size ≤ k_ → (fun k_ => (P1_0_ k_ ∨ w.heap.size ≤ k_) ∧ k_ ≠ gb1554) k_ from fun k_ hk => ⟨(.inr (Nat.le_trans (below_size (by repeat (first | (with_reducible first | exact HB.out | apply below_alloc | apply pw_below_drewN | apply below_drew1 | refine below_set ?_ GE1554.out) | exact HB.out))) hk)), Kd.freshB (g := gb1554) (o := .cells #[.slice A1_0 l1_0.length c1_0, .slice A1_1 l1_1.length c1_1] 90 (0, 0)) (by (with_reducible repeat (first | refine blk_drewN ?_ _ | refine blk_drew ?_ | refine blk_alloc ?_ _)); exact BK1554.out) k_ hk⟩) _ (Nat.le_refl _)) (Below.refl _ _) (Nat.le_refl _) (by simp) ?_; (case hd => rfl); (case hg => rfl); (case hr => first | (go_simp; done) | (go_simp; rfl)); (case hp => exact (Reps.one (show Kd.FK (Kd.slice 22 (Kd.int .u64)) _ _ l1_0 [.slice A1_0 l1_0.length c1_0] from (Kd.FK_slice_mk (Kd.V_reads' (Kd.V_mono (ok' := (fun k_ => (P1_0_ k_ ∨ w.heap.size ≤ k_) ∧ k_ ≠ gb1554)) (HO1_0.out) (fun k_ hk => ⟨hk.1, hk.2⟩))).2.1 (Kd.V_F (by first | exact (Kd.V_mono (ok' := (fun k_ => (P1_0_ k_ ∨ w.heap.size ≤ k_) ∧ k_ ≠ gb1554)) (HO1_0.out) (fun k_ hk => ⟨hk.1, hk.2⟩)) | exact Kd.V_drewN (Kd.V_mono (ok' := (fun k_ => (P1_0_ k_ ∨ w.heap.size ≤ k_) ∧ k_ ≠ gb1554)) (HO1_0.out) (fun k_ hk => ⟨hk.1, hk.2⟩)) _)))) (Reps.none _ _))); intro v1556 w30 ho31 hb hg_ hnew_; clear hg_ hnew_; (first | rw [← Ny1555.out] at ho31 | (simp only [Int.reduceToNat] at ho31; rw [← Ny1555.out] at ho31)); have n0_ := Aside0.mk (Kd.V_elder' (by (with_reducible repeat (first | apply Kd.V_alloc | apply Kd.V_drewN | apply Kd.V_drew)); exact HO1_0.out) (Kd.N_base ho31) hb); have n1_ := Aside0.mk (Kd.N_lower ho31 (below_size (by repeat (first | (with_reducible first | exact HB.out | apply below_alloc | apply pw_below_drewN | apply below_drew1 | refine below_set ?_ GE1554.out) | exact HB.out)))); have n2_ := Aside0.mk (blk_below (g := gb1554) (o := .cells #[.slice A1_0 l1_0.length c1_0, .slice A1_1 l1_1.length c1_1] 90 (0, 0)) (by (with_reducible repeat (first | refine blk_drewN ?_ _ | refine blk_drew ?_ | refine blk_alloc ?_ _)); exact BK1554.out) hb); have n3_ := Aside0.mk (below_step (by repeat (first | (with_reducible first | exact HB.out | apply below_alloc | apply pw_below_drewN | apply below_drew1 | refine below_set ?_ GE1554.out) | exact HB.out)) hb); clear HO1_0; clear BK1554; clear HB; have HO1_0 := n0_; have HO1557 := n1_; have BK1554 := n2_; have HB := n3_; clear n0_ n1_ n2_ n3_; clear hb ho31; obtain ⟨Ao32, co32, eo32⟩ := Kd.N_slice HO1557.out; subst eo32) | (go_at_call 92; (with_reducible refine (juntoref02_Right.calls k a0 _ _ y1555 t1558 _ ?side1 ?side2 A7.out).mono ?_); (case side1 => repeat (first | exact (Kd.N_reads' HO1557.out).2.2 | (with_reducible refine Kd.C_alloc ?_ _) | (with_reducible refine Kd.C_drewN ?_ _) | (with_reducible refine Kd.C_drew ?_))); (case side2 => exact (Kd.N_reads' HO1557.out).2.1); rintro e w' ⟨rfl, ⟨nd, rfl⟩⟩; (try first | exact ⟨rfl, _, World.drewN_drewN _ _ _⟩ | exact ⟨rfl, _, Eq.trans (World.drewN_drewN _ _ _) (congrArg (World.drewN _) (Nat.add_assoc _ _ _))⟩)) | (go_at_call 54; (with_reducible refine (juntoref01_Within.calls k a0 _ _ l1_1 t1559 _ ?side1 ?side2 A9.out).mono ?_); (case side1 => repeat (first | exact (Kd.C_below HR1_1.out (by repeat (first | (with_reducible first | exact HB.out | apply below_alloc | apply pw_below_drewN | apply below_drew1 | refine below_set ?_ GE1554.out) | exact HB.out))) | (with_reducible refine Kd.C_alloc ?_ _) | (with_reducible refine Kd.C_drewN ?_ _) | (with_reducible refine Kd.C_drew ?_))); (case side2 => exact HC1_1.out); rintro e w' ⟨rfl, ⟨nd, rfl⟩⟩; (try first | exact ⟨rfl, _, World.drewN_drewN _ _ _⟩ | exact ⟨rfl, _, Eq.trans (World.drewN_drewN _ _ _) (congrArg (World.drewN _) (Nat.add_assoc _ _ _))⟩))))
        go_meet
        case rel => exact ⟨_, (true), (by first | rfl | (simp; done) | (simp [*]; done)), H', ⟨by first | omega | exact Nat.le_refl _⟩, ⟨by (with_reducible repeat (first | apply Kd.V_alloc | apply Kd.V_drewN | apply Kd.V_drew)); exact Kd.V_mono HO1_0.out (fun _ hk => ⟨hk.1.1, hk.1.2⟩)⟩, ⟨by (with_reducible repeat (first | apply Kd.V_alloc | apply Kd.V_drewN | apply Kd.V_drew)); exact Kd.V_mono HO1_0.out (fun _ hk => ⟨hk.1.1, hk.1.2⟩)⟩, ⟨by (with_reducible repeat (first | refine blk_drewN ?_ _ | refine blk_drew ?_ | refine blk_alloc ?_ _)); exact BK1554.out⟩, ⟨by repeat (first | (with_reducible first | exact HB.out | apply below_alloc | apply pw_below_drewN | apply below_drew1 | refine below_set ?_ GE1554.out) | exact HB.out)⟩⟩
    · rw [if_neg c8] at H
      have c8b0 : (t1558 == 0) = false := beq_eq_false_iff_ne.mpr c8
      have c8b1 : (t1558 != 0) = true := bne_iff_ne.mpr c8
      (first | rw [c8b0] | (simp only [i64_w, i32_w]; rw [c8b0]) | skip)
      have H' := Aside0.mk H
      clear H
      go_wp2_with (first | ((with_reducible refine gate_dst (N := 27) rfl ?_); (try (refine gate_guard (by rfl) ?_; dsimp only)); refine Kd.N_lit (Kd.slice 22 (Kd.int .u64)) _ 31 ?hg (N' := 27) ?hd (xs := ([l1_0] : List (List Int))) (inner := [.slice A1_0 l1_0.length c1_0]) (ok := (fun k_ => (P1_0_ k_ ∨ w.heap.size ≤ k_) ∧ k_ ≠ gb1554)) (okp := (fun k_ => (P1_0_ k_ ∨ w.heap.size ≤ k_) ∧ k_ ≠ gb1554)) ?hr ?hp (fun _ hk => hk) ((show ∀ k_, w5.heap.size ≤ k_ → (fun k_ => (P1_0_ k_ ∨ w.heap.size ≤ k_) ∧ k_ ≠ gb1554) k_ from fun k_ hk => ⟨(.inr (Nat.le_trans (below_size (by repeat (first | (with_reducible first | exact HB.out | apply below_alloc | apply pw_below_drewN | apply below_drew1 | refine below_set ?_ GE1554.out) | exact HB.out))) hk)), Kd.freshB (g := gb1554) (o := .cells #[.slice A1_0 l1_0.length c1_0, .slice A1_1 l1_1.length c1_1] 90 (0, 0)) (by (with_reducible repeat (first | refine blk_drewN ?_ _ | refine blk_drew ?_ | refine blk_alloc ?_ _)); exact BK1554.out) k_ hk⟩) _ (Nat.le_refl _)) (Below.refl _ _) (Nat.le_refl _) (by simp) ?_; (case hd => rfl); (case hg => rfl); (case hr => first | (go_simp; done) | (go_simp; rfl)); (case hp => exact (Reps.one (show Kd.FK (Kd.slice 22 (Kd.int .u64)) _ _ l1_0 [.slice A1_0 l1_0.length c1_0] from (Kd.FK_slice_mk (Kd.V_reads' (Kd.V_mono (ok' := (fun k_ => (P1_0_ k_ ∨ w.heap.size ≤ k_) ∧ k_ ≠ gb1554)) (HO1_0.out) (fun k_ hk => ⟨hk.1, hk.2⟩))).2.1 (Kd.V_F (by first | exact (Kd.V_mono (ok' := (fun k_ => (P1_0_ k_ ∨ w.heap.size ≤ k_) ∧ k_ ≠ gb1554)) (HO1_0.out) (fun k_ hk => ⟨hk.1, hk.2⟩)) | exact Kd.V_drewN (Kd.V_mono (ok' := (fun k_ => (P1_0_ k_ ∨ w.heap.size ≤ k_) ∧ k_ ≠ gb1554)) (HO1_0.out) (fun k_ hk => ⟨hk.1, hk.2⟩)) _)))) (Reps.none _ _))); intro v1556 w33 ho34 hb hg_ hnew_; clear hg_ hnew_; (first | rw [← Ny1555.out] at ho34 | (simp only [Int.reduceToNat] at ho34; rw [← Ny1555.out] at ho34)); have n0_ := Aside0.mk (Kd.V_elder' (by (with_reducible repeat (first | apply Kd.V_alloc | apply Kd.V_drewN | apply Kd.V_drew)); exact HO1_0.out) (Kd.N_base ho34) hb); have n1_ := Aside0.mk (Kd.N_lower ho34 (below_size (by repeat (first | (with_reducible first | exact HB.out | apply below_alloc | apply pw_below_drewN | apply below_drew1 | refine below_set ?_ GE1554.out) | exact HB.out)))); have n2_ := Aside0.mk (blk_below (g := gb1554) (o := .cells #[.slice A1_0 l1_0.length c1_0, .slice A1_1 l1_1.length c1_1] 90 (0, 0)) (by (with_reducible repeat (first | refine blk_drewN ?_ _ | refine blk_drew ?_ | refine blk_alloc ?_ _)); exact BK1554.out) hb); have n3_ := Aside0.mk (below_step (by repeat (first | (with_reducible first | exact HB.out | apply below_alloc | apply pw_below_drewN | apply below_drew1 | refine below_set ?_ GE1554.out) | exact HB.out)) hb); clear HO1_0; clear BK1554; clear HB; have HO1_0 := n0_; have HO1557 := n1_; have BK1554 := n2_; have HB := n3_; clear n0_ n1_ n2_ n3_; clear hb ho34; obtain ⟨Ao35, co35, eo35⟩ := Kd.N_slice HO1557.out; subst eo35) | (go_at_call 92; (with_reducible refine (juntoref02_Right.calls k a0 _ _ y1555 t1558 _ ?side1 ?side2 A7.out).mono ?_); (case side1 => repeat (first | exact (Kd.N_reads' HO1557.out).2.2 | (with_reducible refine Kd.C_alloc ?_ _) | (with_reducible refine Kd.C_drewN ?_ _) | (with_reducible refine Kd.C_drew ?_))); (case side2 => exact (Kd.N_reads' HO1557.out).2.1); rintro e w' ⟨rfl, ⟨nd, rfl⟩⟩; (try first | exact ⟨rfl, _, World.drewN_drewN _ _ _⟩ | exact ⟨rfl, _, Eq.trans (World.drewN_drewN _ _ _) (congrArg (World.drewN _) (Nat.add_assoc _ _ _))⟩)))
      repeat (go_quiet (first | ((with_reducible refine gate_dst (N := 27) rfl ?_); (try (refine gate_guard (by rfl) ?_; dsimp only)); refine Kd.N_lit (Kd.slice 22 (Kd.int .u64)) _ 31 ?hg (N' := 27) ?hd (xs := ([l1_0] : List (List Int))) (inner := [.slice A1_0 l1_0.length c1_0]) (ok := (fun k_ => (P1_0_ k_ ∨ w.heap.size ≤ k_) ∧ k_ ≠ gb1554)) (okp := (fun k_ => (P1_0_ k_ ∨ w.heap.size ≤ k_) ∧ k_ ≠ gb1554)) ?hr ?hp (fun _ hk => hk) ((show ∀ k_, w5.heap.size ≤ k_ → (fun k_ => (P1_0_ k_ ∨ w.heap.size ≤ k_) ∧ k_ ≠ gb1554) k_ from fun k_ hk => ⟨(.inr (Nat.le_trans (below_size (by repeat (first | (with_reducible first | exact HB.out | apply below_alloc | apply pw_below_drewN | apply below_drew1 | refine below_set ?_ GE1554.out) | exact HB.out))) hk)), Kd.freshB (g := gb1554) (o := .cells #[.slice A1_0 l1_0.length c1_0, .slice A1_1 l1_1.length c1_1] 90 (0, 0)) (by (with_reducible repeat (first | refine blk_drewN ?_ _ | refine blk_drew ?_ | refine blk_alloc ?_ _)); exact BK1554.out) k_ hk⟩) _ (Nat.le_refl _)) (Below.refl _ _) (Nat.le_refl _) (by simp) ?_; (case hd => rfl); (case hg => rfl); (case hr => first | (go_simp; done) | (go_simp; rfl)); (case hp => exact (Reps.one (show Kd.FK (Kd.slice 22 (Kd.int .u64)) _ _ l1_0 [.slice A1_0 l1_0.length c1_0] from (Kd.FK_slice_mk (Kd.V_reads' (Kd.V_mono (ok' := (fun k_ => (P1_0_ k_ ∨ w.heap.size ≤ k_) ∧ k_ ≠ gb1554)) (HO1_0.out) (fun k_ hk => ⟨hk.1, hk.2⟩))).2.1 (Kd.V_F (by first | exact (Kd.V_mono (ok' := (fun k_ => (P1_0_ k_ ∨ w.heap.size ≤ k_) ∧ k_ ≠ gb1554)) (HO1_0.out) (fun k_ hk => ⟨hk.1, hk.2⟩)) | exact Kd.V_drewN (Kd.V_mono (ok' := (fun k_ => (P1_0_ k_ ∨ w.heap.size ≤ k_) ∧ k_ ≠ gb1554)) (HO1_0.out) (fun k_ hk => ⟨hk.1, hk.2⟩)) _)))) (Reps.none _ _))); intro v1556 w33 ho34 hb hg_ hnew_; clear hg_ hnew_; (first | rw [← Ny1555.out] at ho34 | (simp only [Int.reduceToNat] at ho34; rw [← Ny1555.out] at ho34)); have n0_ := Aside0.mk (Kd.V_elder' (by (with_reducible repeat (first | apply Kd.V_alloc | apply Kd.V_drewN | apply Kd.V_drew)); exact HO1_0.out) (Kd.N_base ho34) hb); have n1_ := Aside0.mk (Kd.N_lower ho34 (below_size (by repeat (first | (with_reducible first | exact HB.out | apply below_alloc | apply pw_below_drewN | apply below_drew1 | refine below_set ?_ GE1554.out) | exact HB.out)))); have n2_ := Aside0.mk (blk_below (g := gb1554) (o := .cells #[.slice A1_0 l1_0.length c1_0, .slice A1_1 l1_1.length c1_1] 90 (0, 0)) (by (with_reducible repeat (first | refine blk_drewN ?_ _ | refine blk_drew ?_ | refine blk_alloc ?_ _)); exact BK1554.out) hb); have n3_ := Aside0.mk (below_step (by repeat (first | (with_reducible first | exact HB.out | apply below_alloc | apply pw_below_drewN | apply below_drew1 | refine below_set ?_ GE1554.out) | exact HB.out)) hb); clear HO1_0; clear BK1554; clear HB; have HO1_0 := n0_; have HO1557 := n1_; have BK1554 := n2_; have HB := n3_; clear n0_ n1_ n2_ n3_; clear hb ho34; obtain ⟨Ao35, co35, eo35⟩ := Kd.N_slice HO1557.out; subst eo35) | (go_at_call 92; (with_reducible refine (juntoref02_Right.calls k a0 _ _ y1555 t1558 _ ?side1 ?side2 A7.out).mono ?_); (case side1 => repeat (first | exact (Kd.N_reads' HO1557.out).2.2 | (with_reducible refine Kd.C_alloc ?_ _) | (with_reducible refine Kd.C_drewN ?_ _) | (with_reducible refine Kd.C_drew ?_))); (case side2 => exact (Kd.N_reads' HO1557.out).2.1); rintro e w' ⟨rfl, ⟨nd, rfl⟩⟩; (try first | exact ⟨rfl, _, World.drewN_drewN _ _ _⟩ | exact ⟨rfl, _, Eq.trans (World.drewN_drewN _ _ _) (congrArg (World.drewN _) (Nat.add_assoc _ _ _))⟩))); try go_wp2_with (first | ((with_reducible refine gate_dst (N := 27) rfl ?_); (try (refine gate_guard (by rfl) ?_; dsimp only)); refine Kd.N_lit (Kd.slice 22 (Kd.int .u64)) _ 31 ?hg (N' := 27) ?hd (xs := ([l1_0] : List (List Int))) (inner := [.slice A1_0 l1_0.length c1_0]) (ok := (fun k_ => (P1_0_ k_ ∨ w.heap.size ≤ k_) ∧ k_ ≠ gb1554)) (okp := (fun k_ => (P1_0_ k_ ∨ w.heap.size ≤ k_) ∧ k_ ≠ gb1554)) ?hr ?hp (fun _ hk => hk) ((show ∀ k_, w5.heap.size ≤ k_ → (fun k_ => (P1_0_ k_ ∨ w.heap.size ≤ k_) ∧ k_ ≠ gb1554) k_ from fun k_ hk => ⟨(.inr (Nat.le_trans (below_size (by repeat (first | (with_reducible first | exact HB.out | apply below_alloc | apply pw_below_drewN | apply below_drew1 | refine below_set ?_ GE1554.out) | exact HB.out))) hk)), Kd.freshB (g := gb1554) (o := .cells #[.slice A1_0 l1_0.length c1_0, .slice A1_1 l1_1.length c1_1] 90 (0, 0)) (by (with_reducible repeat (first | refine blk_drewN ?_ _ | refine blk_drew ?_ | refine blk_alloc ?_ _)); exact BK1554.out) k_ hk⟩) _ (Nat.le_refl _)) (Below.refl _ _) (Nat.le_refl _) (by simp) ?_; (case hd => rfl); (case hg => rfl); (case hr => first | (go_simp; done) | (go_simp; rfl)); (case hp => exact (Reps.one (show Kd.FK (Kd.slice 22 (Kd.int .u64)) _ _ l1_0 [.slice A1_0 l1_0.length c1_0] from (Kd.FK_slice_mk (Kd.V_reads' (Kd.V_mono (ok' := (fun k_ => (P1_0_ k_ ∨ w.heap.size ≤ k_) ∧ k_ ≠ gb1554)) (HO1_0.out) (fun k_ hk => ⟨hk.1, hk.2⟩))).2.1 (Kd.V_F (by first | exact (Kd.V_mono (ok' := (fun k_ => (P1_0_ k_ ∨ w.heap.size ≤ k_) ∧ k_ ≠ gb1554)) (HO1_0.out) (fun k_ hk => ⟨hk.1, hk.2⟩)) | exact Kd.V_drewN (Kd.V_mono (ok' := (fun k_ => (P1_0_ k_ ∨ w.heap.size ≤ k_) ∧ k_ ≠ gb1554)) (HO1_0.out) (fun k_ hk => ⟨hk.1, hk.2⟩)) _)))) (Reps.none _ _))); intro v1556 w33 ho34 hb hg_ hnew_; clear hg_ hnew_; (first | rw [← Ny1555.out] at ho34 | (simp only [Int.reduceToNat] at ho34; rw [← Ny1555.out] at ho34)); have n0_ := Aside0.mk (Kd.V_elder' (by (with_reducible repeat (first | apply Kd.V_alloc | apply Kd.V_drewN | apply Kd.V_drew)); exact HO1_0.out) (Kd.N_base ho34) hb); have n1_ := Aside0.mk (Kd.N_lower ho34 (below_size (by repeat (first | (with_reducible first | exact HB.out | apply below_alloc | apply pw_below_drewN | apply below_drew1 | refine below_set ?_ GE1554.out) | exact HB.out)))); have n2_ := Aside0.mk (blk_below (g := gb1554) (o := .cells #[.slice A1_0 l1_0.length c1_0, .slice A1_1 l1_1.length c1_1] 90 (0, 0)) (by (with_reducible repeat (first | refine blk_drewN ?_ _ | refine blk_drew ?_ | refine blk_alloc ?_ _)); exact BK1554.out) hb); have n3_ := Aside0.mk (below_step (by repeat (first | (with_reducible first | exact HB.out | apply below_alloc | apply pw_below_drewN | apply below_drew1 | refine below_set ?_ GE1554.out) | exact HB.out)) hb); clear HO1_0; clear BK1554; clear HB; have HO1_0 := n0_; have HO1557 := n1_; have BK1554 := n2_; have HB := n3_; clear n0_ n1_ n2_ n3_; clear hb ho34; obtain ⟨Ao35, co35, eo35⟩ := Kd.N_slice HO1557.out; subst eo35) | (go_at_call 92; (with_reducible refine (juntoref02_Right.calls k a0 _ _ y1555 t1558 _ ?side1 ?side2 A7.out).mono ?_); (case side1 => repeat (first | exact (Kd.N_reads' HO1557.out).2.2 | (with_reducible refine Kd.C_alloc ?_ _) | (with_reducible refine Kd.C_drewN ?_ _) | (with_reducible refine Kd.C_drew ?_))); (case side2 => exact (Kd.N_reads' HO1557.out).2.1); rintro e w' ⟨rfl, ⟨nd, rfl⟩⟩; (try first | exact ⟨rfl, _, World.drewN_drewN _ _ _⟩ | exact ⟨rfl, _, Eq.trans (World.drewN_drewN _ _ _) (congrArg (World.drewN _) (Nat.add_assoc _ _ _))⟩))))
      go_meet
      case rel => exact ⟨_, (true), (by first | rfl | (simp; done) | (simp [*]; done)), H', ⟨by first | omega | exact Nat.le_refl _⟩, ⟨by (with_reducible repeat (first | apply Kd.V_alloc | apply Kd.V_drewN | apply Kd.V_drew)); exact Kd.V_mono HO1_0.out (fun _ hk => ⟨hk.1.1, hk.1.2⟩)⟩, ⟨by (with_reducible repeat (first | apply Kd.V_alloc | apply Kd.V_drewN | apply Kd.V_drew)); exact Kd.V_mono HO1_0.out (fun _ hk => ⟨hk.1.1, hk.1.2⟩)⟩, ⟨by (with_reducible repeat (first | refine blk_drewN ?_ _ | refine blk_drew ?_ | refine blk_alloc ?_ _)); exact BK1554.out⟩, ⟨by repeat (first | (with_reducible first | exact HB.out | apply below_alloc | apply pw_below_drewN | apply below_drew1 | refine below_set ?_ GE1554.out) | exact HB.out)⟩⟩
  case rest =>
    clear HC4
    try clear c1
    try clear c2
    try clear p2
    try clear c8
    try clear c8b0
    try clear c8b1
    try clear c10
    try clear c10b0
    try clear c10b1
    try clear c11
    try clear c11b0
    try clear c16
    try clear c20
    try clear c20b0
    try clear c20b1
    try clear c27
    try clear hcz6_0
    try clear hcz6_1
    try clear hfz6_0
    try clear hfz6_1
    obtain ⟨kq, x57_3, rfl, HA, HJ3, HO_7, HO_1555000, BK1554, HB⟩ := hcut
    cases kq with
    | zero => exact absurd HA.out (by simp [juntolaw02_PolyBack.j0])
    | succ kj3 =>
      have H := HA.out
      clear HA
      simp only [juntolaw02_PolyBack.j0] at H
      by_cases c36 : x57_3 = true
      · subst c36
        have H1 : ((juntolaw02_alive.f kj3).bind fun t1564 => (some t1564)) = some r := by rw [if_pos rfl] at H; exact H
        clear H
        have H := H1
        clear H1
        replace H := Option.bind_eq_some_iff.mp H
        obtain ⟨t1564, A370, H⟩ := H
        replace H : (some t1564) = some r := H
        have A37 := Aside0.mk A370
        clear A370
        obtain rfl := Option.some.inj H
        go_wp2_with (first | (go_at_call 95; (with_reducible refine (juntolaw02_alive.calls kj3  t1564 _ A37.out (by first | rfl | exact HRT.out)).mono ?_); rintro e w38 ⟨rfl, hb⟩; have n0_ := Aside0.mk (Kd.V_below (by (with_reducible repeat (first | apply Kd.V_alloc | apply Kd.V_drewN | apply Kd.V_drew)); exact HO_7.out) hb); have n1_ := Aside0.mk (Kd.V_below (by (with_reducible repeat (first | apply Kd.V_alloc | apply Kd.V_drewN | apply Kd.V_drew)); exact HO_1555000.out) hb); have n2_ := Aside0.mk (blk_below (g := gb1554) (o := .cells #[.slice A1_0 l1_0.length c1_0, .slice A1_1 l1_1.length c1_1] 90 (0, 0)) (by (with_reducible repeat (first | refine blk_drewN ?_ _ | refine blk_drew ?_ | refine blk_alloc ?_ _)); exact BK1554.out) hb); have n3_ := Aside0.mk (below_step (by repeat (first | (with_reducible first | exact HB.out | apply below_alloc | apply pw_below_drewN | apply below_drew1 | refine below_set ?_ GE1554.out) | exact HB.out)) hb); clear HO_7; clear HO_1555000; clear BK1554; clear HB; have HO_7 := n0_; have HO_1555000 := n1_; have BK1554 := n2_; have HB := n3_; clear n0_ n1_ n2_ n3_; (try clear hb); (try clear hb2); (try clear hk); (try clear hi)))
        repeat (go_quiet (first | (go_at_call 95; (with_reducible refine (juntolaw02_alive.calls kj3  t1564 _ A37.out (by first | rfl | exact HRT.out)).mono ?_); rintro e w38 ⟨rfl, hb⟩; have n0_ := Aside0.mk (Kd.V_below (by (with_reducible repeat (first | apply Kd.V_alloc | apply Kd.V_drewN | apply Kd.V_drew)); exact HO_7.out) hb); have n1_ := Aside0.mk (Kd.V_below (by (with_reducible repeat (first | apply Kd.V_alloc | apply Kd.V_drewN | apply Kd.V_drew)); exact HO_1555000.out) hb); have n2_ := Aside0.mk (blk_below (g := gb1554) (o := .cells #[.slice A1_0 l1_0.length c1_0, .slice A1_1 l1_1.length c1_1] 90 (0, 0)) (by (with_reducible repeat (first | refine blk_drewN ?_ _ | refine blk_drew ?_ | refine blk_alloc ?_ _)); exact BK1554.out) hb); have n3_ := Aside0.mk (below_step (by repeat (first | (with_reducible first | exact HB.out | apply below_alloc | apply pw_below_drewN | apply below_drew1 | refine below_set ?_ GE1554.out) | exact HB.out)) hb); clear HO_7; clear HO_1555000; clear BK1554; clear HB; have HO_7 := n0_; have HO_1555000 := n1_; have BK1554 := n2_; have HB := n3_; clear n0_ n1_ n2_ n3_; (try clear hb); (try clear hb2); (try clear hk); (try clear hi))); try go_wp2_with (first | (go_at_call 95; (with_reducible refine (juntolaw02_alive.calls kj3  t1564 _ A37.out (by first | rfl | exact HRT.out)).mono ?_); rintro e w38 ⟨rfl, hb⟩; have n0_ := Aside0.mk (Kd.V_below (by (with_reducible repeat (first | apply Kd.V_alloc | apply Kd.V_drewN | apply Kd.V_drew)); exact HO_7.out) hb); have n1_ := Aside0.mk (Kd.V_below (by (with_reducible repeat (first | apply Kd.V_alloc | apply Kd.V_drewN | apply Kd.V_drew)); exact HO_1555000.out) hb); have n2_ := Aside0.mk (blk_below (g := gb1554) (o := .cells #[.slice A1_0 l1_0.length c1_0, .slice A1_1 l1_1.length c1_1] 90 (0, 0)) (by (with_reducible repeat (first | refine blk_drewN ?_ _ | refine blk_drew ?_ | refine blk_alloc ?_ _)); exact BK1554.out) hb); have n3_ := Aside0.mk (below_step (by repeat (first | (with_reducible first | exact HB.out | apply below_alloc | apply pw_below_drewN | apply below_drew1 | refine below_set ?_ GE1554.out) | exact HB.out)) hb); clear HO_7; clear HO_1555000; clear BK1554; clear HB; have HO_7 := n0_; have HO_1555000 := n1_; have BK1554 := n2_; have HB := n3_; clear n0_ n1_ n2_ n3_; (try clear hb); (try clear hb2); (try clear hk); (try clear hi))))
        go_ret
        exact ⟨by first | rfl | (simp [errW_none, errW_some] <;> rfl) | (simp [*, errW_none, errW_some] <;> rfl), by repeat (first | (with_reducible first | exact HB.out | apply below_alloc | apply pw_below_drewN | apply below_drew1 | refine below_set ?_ GE1554.out) | exact HB.out)⟩
      · replace c36 := Bool.eq_false_iff.mpr c36
        subst c36
        have H1 : (juntolaw02_PolyBack.l0 kj3 a0 a2 l1_0 l1_1 ([] : List (S86)) ([] : List Int) l1_1 (l1_1.length : Int) 0) = some r := by rw [if_neg (show ¬ (false = true) by decide)] at H; exact H
        clear H
        have H := H1
        clear H1
        have H' := Aside0.mk H
        clear H
        go_wp2
        repeat (go_quiet (fail); try go_wp2)
        go_loopg [9, 10, 61] kj3 (fun kq v9 v10 v61 w' => ∃ (x9_2 : List (S86)) (x10_2 : List Int) (x61_2 : Int), v61 = .int .i64 x61_2 ∧ Aside0 (juntolaw02_PolyBack.l0 kq a0 a2 l1_0 l1_1 x9_2 x10_2 l1_1 (l1_1.length : Int) x61_2 = some r) ∧ Aside0 (kq ≤ kj3) ∧ Aside0 (Kd.V (Kd.int .u64) 22 w' w.heap.size (fun k_ => (P1_0_ k_ ∨ w.heap.size ≤ k_) ∧ some k_ ≠ (v9 : Value).ownBlock ∧ some k_ ≠ (v10 : Value).ownBlock ∧ k_ ≠ gb1554) (.slice A1_0 l1_0.length c1_0) l1_0) ∧ Aside0 (Kd.R k86 86 w' w.heap.size (fun k_ => (w.heap.size ≤ k_)) v9 x9_2) ∧ Aside0 (Kd.R (Kd.int .u64) 22 w' w.heap.size (fun k_ => (w.heap.size ≤ k_)) v10 x10_2) ∧ Aside0 (Kd.V (Kd.int .u64) 22 w' w.heap.size (fun k_ => (P1_0_ k_ ∨ w.heap.size ≤ k_) ∧ some k_ ≠ (v9 : Value).ownBlock ∧ some k_ ≠ (v10 : Value).ownBlock ∧ k_ ≠ gb1554) (.slice A1_0 l1_0.length c1_0) l1_0) ∧ Aside0 (w'.heap[gb1554]? = some (.cells #[(.slice A1_0 l1_0.length c1_0), (.slice A1_1 l1_1.length c1_1)] 90 (0, 0))) ∧ Aside0 (Below w.heap.size w w'))
        case atStart => exact ⟨(([] : List (S86))), (([] : List Int)), (0), (by first | rfl | (simp; done) | (simp [*]; done)), H', ⟨Nat.le_refl _⟩, ⟨by (with_reducible repeat (first | apply Kd.V_alloc | apply Kd.V_drewN | apply Kd.V_drew)); exact Kd.V_mono HO_7.out (fun _ hk => ⟨hk.1, ⟨(by simp [Value.ownBlock]), ⟨(by simp [Value.ownBlock]), hk.2⟩⟩⟩)⟩, ⟨by first | exact Kd.R_nil _ _ _ _ _ | exact Kd.N_nil _ _ _ _ _ | exact Kd.V_nil _ _ _ _ _ | exact Kd.Q_nil _ _ _ _ _ | exact Kd.S_nil _ _ _ _ _⟩, ⟨by first | exact Kd.R_nil _ _ _ _ _ | exact Kd.N_nil _ _ _ _ _ | exact Kd.V_nil _ _ _ _ _ | exact Kd.Q_nil _ _ _ _ _ | exact Kd.S_nil _ _ _ _ _⟩, ⟨by (with_reducible repeat (first | apply Kd.V_alloc | apply Kd.V_drewN | apply Kd.V_drew)); exact Kd.V_mono HO_1555000.out (fun _ hk => ⟨hk.1, ⟨(by simp [Value.ownBlock]), ⟨(by simp [Value.ownBlock]), hk.2⟩⟩⟩)⟩, ⟨by (with_reducible repeat (first | refine blk_drewN ?_ _ | refine blk_drew ?_ | refine blk_alloc ?_ _)); exact BK1554.out⟩, ⟨by repeat (first | (with_reducible first | exact HB.out | apply below_alloc | apply pw_below_drewN | apply below_drew1 | refine below_set ?_ GE1554.out) | exact HB.out)⟩⟩
        case round =>
          clear H'
          try clear c1
          try clear c2
          try clear p2
          try clear c3
          try clear c8
          try clear c8b0
          try clear c8b1
          try clear c10
          try clear c10b0
          try clear c10b1
          try clear c11
          try clear c11b0
          try clear c16
          try clear c20
          try clear c20b0
          try clear c20b1
          try clear c27
          try clear c36
          try clear hcz6_0
          try clear hcz6_1
          try clear hfz6_0
          try clear hfz6_1
          try clear p2
          obtain ⟨x9_2, x10_2, x61_2, rfl, HA, HK2, HO_7, HO_9, HO_10, HO_1555000, BK1554, HB⟩ := hrel
          cases gk with
          | zero => exact absurd HA.out (by simp [juntolaw02_PolyBack.l0])
          | succ k2 =>
            have H := HA.out
            clear HA
            simp only [juntolaw02_PolyBack.l0] at H
            by_cases c39 : x61_2 < (l1_1.length : Int)
            · rw [if_pos c39] at H
              have c39b0 : decide (x61_2 < (l1_1.length : Int)) = true := decide_eq_true c39
              clear c39
              by_cases c40 : 0 ≤ x61_2
              · rw [if_pos c40] at H
                have c40b0 : decide (0 ≤ x61_2) = true := decide_eq_true c40
                clear c40
                by_cases c41 : x61_2 < (l1_1.length : Int)
                · rw [if_pos c41] at H
                  have c41b0 : decide (x61_2 < (l1_1.length : Int)) = true := decide_eq_true c41
                  clear c41
                  replace H := Option.bind_eq_some_iff.mp H
                  obtain ⟨⟨t1566, t1567⟩, A420, H⟩ := H
                  replace H : (if x9_2.length < 8796093022208 then (if x10_2.length < 17592186044416 then (juntolaw02_PolyBack.l0 k2 a0 a2 l1_0 l1_1 (x9_2 ++ [(⟨rd l1_1 x61_2, t1566⟩ : S86)]) (x10_2 ++ [t1566]) l1_1 (l1_1.length : Int) (wrap64 (x61_2 + 1))) else (none)) else (none)) = some r := H
                  have A42 := Aside0.mk A420
                  clear A420
                  by_cases c43 : x9_2.length < 8796093022208
                  · rw [if_pos c43] at H
                    have LMc43 := Aside0.mk c43
                    clear c43
                    obtain ⟨y1568, hy1568⟩ : ∃ y_ : List (S86), y_ = (x9_2 ++ [(⟨rd l1_1 x61_2, t1566⟩ : S86)]) := ⟨_, rfl⟩
                    replace H : (if x10_2.length < 17592186044416 then (juntolaw02_PolyBack.l0 k2 a0 a2 l1_0 l1_1 y1568 (x10_2 ++ [t1566]) l1_1 (l1_1.length : Int) (wrap64 (x61_2 + 1))) else (none)) = some r := by first | (rw [hy1568]; with_reducible exact H) | (have H2_ := (Option.bind_some _ _).symm.trans H; rw [hy1568]; with_reducible exact H2_) | (have H2_ := (Option.bind_some _ _).symm.trans H; with_reducible exact H2_) | with_reducible exact H | (rw [hy1568]; exact H) | exact H
                    have Ny1568 := Aside0.mk hy1568
                    clear hy1568
                    by_cases c44 : x10_2.length < 17592186044416
                    · rw [if_pos c44] at H
                      have LMc44 := Aside0.mk c44
                      clear c44
                      obtain ⟨y1571, hy1571⟩ : ∃ y_ : List Int, y_ = (x10_2 ++ [t1566]) := ⟨_, rfl⟩
                      replace H : (juntolaw02_PolyBack.l0 k2 a0 a2 l1_0 l1_1 y1568 y1571 l1_1 (l1_1.length : Int) (wrap64 (x61_2 + 1))) = some r := by first | (rw [hy1571]; with_reducible exact H) | (have H2_ := (Option.bind_some _ _).symm.trans H; rw [hy1571]; with_reducible exact H2_) | (have H2_ := (Option.bind_some _ _).symm.trans H; with_reducible exact H2_) | with_reducible exact H | (rw [hy1571]; exact H) | exact H
                      have Ny1571 := Aside0.mk hy1571
                      clear hy1571
                      have H' := Aside0.mk H
                      clear H
                      have p1565 : 0 ≤ (x61_2 : Int) := of_decide_eq_true (by first | (with_reducible assumption) | assumption)
                      have q1565 : x61_2 < (l1_1.length : Int) := of_decide_eq_true (by first | (with_reducible assumption) | assumption)
                      obtain ⟨ad1565, e1565, hx1565_0⟩ := Kd.at_int HR1_1.out x61_2 p1565 q1565
                      cases e1565
                      replace hx1565_0 := (HB.out.cell (World.block_lt_of_cell? w _ hx1565_0)).trans hx1565_0
                      replace p1565 := eq_true p1565
                      replace q1565 := eq_true q1565
                      go_wp2_with (first | (go_at_call 107; (with_reducible refine (poly_Eval.calls k2 a0 (fun k_ => ((P1_0_ k_ ∨ w.heap.size ≤ k_) ∧ (some k_ ≠ (u9 : Value).ownBlock ∧ (some k_ ≠ (u10 : Value).ownBlock ∧ k_ ≠ gb1554)))) _ _ l1_0 (rd l1_1 x61_2) t1566 t1567 _ ?side1 A42.out).mono ?_); (case side1 => exact HO_7.out); rintro e w45 ⟨rfl, hb⟩; have n0_ := Aside0.mk (Kd.V_below (by (with_reducible repeat (first | apply Kd.V_alloc | apply Kd.V_drewN | apply Kd.V_drew)); exact HO_7.out) hb); have n1_ := Aside0.mk (Kd.R_below (by (with_reducible repeat (first | apply Kd.R_alloc | apply Kd.R_drewN | apply Kd.R_drew)); exact HO_9.out) hb); have n2_ := Aside0.mk (Kd.R_below (by (with_reducible repeat (first | apply Kd.R_alloc | apply Kd.R_drewN | apply Kd.R_drew)); exact HO_10.out) hb); have n3_ := Aside0.mk (Kd.V_below (by (with_reducible repeat (first | apply Kd.V_alloc | apply Kd.V_drewN | apply Kd.V_drew)); exact HO_1555000.out) hb); have n4_ := Aside0.mk (blk_below (g := gb1554) (o := .cells #[.slice A1_0 l1_0.length c1_0, .slice (some ad1565) l1_1.length c1_1] 90 (0, 0)) (by (with_reducible repeat (first | refine blk_drewN ?_ _ | refine blk_drew ?_ | refine blk_alloc ?_ _)); exact BK1554.out) hb); have n5_ := Aside0.mk (below_step (by repeat (first | (with_reducible first | exact HB.out | apply below_alloc | apply pw_below_drewN | apply below_drew1 | refine below_set ?_ GE1554.out) | exact HB.out)) hb); clear HO_7; clear HO_9; clear HO_10; clear HO_1555000; clear BK1554; clear HB; have HO_7 := n0_; have HO_9 := n1_; have HO_10 := n2_; have HO_1555000 := n3_; have BK1554 := n4_; have HB := n5_; clear n0_ n1_ n2_ n3_ n4_ n5_; (try clear hb); (try clear hb2); (try clear hk); (try clear hi)) | ((with_reducible refine gate_builtin (b := .append) (xs := #[.tmp 72, .tmp 76]) rfl ?_); (try (refine gate_guard (by rfl) ?_; dsimp only)); at_builtin; refine Kd.R_append k86 (w0 := w) w.heap.size rfl (.tmp 72) (.tmp 76) 87 86 (.agg #[(.int .u64 0), (.int .u64 0)]) 16 rfl Try.underlying87 info86 rfl (by decide) (by omega) u9 x9_2 (⟨rd l1_1 x61_2, t1566⟩ : S86) [.int .u64 (rd l1_1 x61_2), .int .u64 t1566] (fun k_ => (w.heap.size ≤ k_)) (fun _ => False) rfl rfl ?aP (fun _ hk => hk.elim) ?aF ?aO ?aB ?aS ?aL ?_; (case aP => exact k86_mkM _ _ _ (⟨rd l1_1 x61_2, t1566⟩ : S86)); (case aB => exact (by repeat (first | (with_reducible first | exact HB.out | apply below_alloc | apply pw_below_drewN | apply below_drew1 | refine below_set ?_ GE1554.out) | exact HB.out))); (case aF => exact (fun k_ hk => (Nat.le_trans (below_size (by repeat (first | (with_reducible first | exact HB.out | apply below_alloc | apply pw_below_drewN | apply below_drew1 | refine below_set ?_ GE1554.out) | exact HB.out))) hk))); (case aO => exact (by (with_reducible repeat (first | apply Kd.R_alloc | apply Kd.R_drewN | apply Kd.R_drew)); exact HO_9.out)); (case aS => exact (below_size (by repeat (first | (with_reducible first | exact HB.out | apply below_alloc | apply pw_below_drewN | apply below_drew1 | refine below_set ?_ GE1554.out) | exact HB.out)))); (case aL => have := LMc43.out; omega); intro v1569 w46 ho hb hg hat; rw [← Ny1568.out] at ho; have n0_ := Aside0.mk (Kd.V_afterv (ok := (fun k_ => (P1_0_ k_ ∨ w.heap.size ≤ k_) ∧ some k_ ≠ (u10 : Value).ownBlock ∧ k_ ≠ gb1554)) (by (with_reducible repeat (first | apply Kd.V_alloc | apply Kd.V_drewN | apply Kd.V_drew)); exact Kd.V_mono HO_7.out (fun _ hk => ⟨⟨hk.1, ⟨hk.2.2.1, hk.2.2.2⟩⟩, hk.2.1⟩)) hg hat); have n1_ := Aside0.mk (Kd.R_over' (by (with_reducible repeat (first | apply Kd.R_alloc | apply Kd.R_drewN | apply Kd.R_drew)); exact HO_10.out) (Kd.R_typed (by (with_reducible repeat (first | apply Kd.R_alloc | apply Kd.R_drewN | apply Kd.R_drew)); exact HO_9.out)) (by decide) hg); have n2_ := Aside0.mk (Kd.V_afterv (ok := (fun k_ => (P1_0_ k_ ∨ w.heap.size ≤ k_) ∧ some k_ ≠ (u10 : Value).ownBlock ∧ k_ ≠ gb1554)) (by (with_reducible repeat (first | apply Kd.V_alloc | apply Kd.V_drewN | apply Kd.V_drew)); exact Kd.V_mono HO_1555000.out (fun _ hk => ⟨⟨hk.1, ⟨hk.2.2.1, hk.2.2.2⟩⟩, hk.2.1⟩)) hg hat); have n3_ := Aside0.mk (blk_grown (g := gb1554) (o := .cells #[.slice A1_0 l1_0.length c1_0, .slice (some ad1565) l1_1.length c1_1] 90 (0, 0)) (by (with_reducible repeat (first | refine blk_drewN ?_ _ | refine blk_drew ?_ | refine blk_alloc ?_ _)); exact BK1554.out) hg (Kd.R_ne HO_9.out BK1554.out (by decide))); have n4_ := Aside0.mk (hb); have n5_ := Aside0.mk (ho); clear HO_7; clear HO_10; clear HO_1555000; clear BK1554; clear HB; clear HO_9; have HO_7 := n0_; have HO_10 := n1_; have HO_1555000 := n2_; have BK1554 := n3_; have HB := n4_; have HO1570 := n5_; clear n0_ n1_ n2_ n3_ n4_ n5_; clear ho hb hg hat) | ((with_reducible refine gate_builtin (b := .append) (xs := #[.tmp 78, .tmp 80]) rfl ?_); (try (refine gate_guard (by rfl) ?_; dsimp only)); at_builtin; refine Kd.R_append (Kd.int .u64) (w0 := w) w.heap.size rfl (.tmp 78) (.tmp 80) 31 22 (.int .u64 0) 8 rfl Try.underlying31 info22 rfl (by decide) (by omega) u10 x10_2 t1566 [.int .u64 t1566] (fun k_ => (w.heap.size ≤ k_)) (fun _ => False) rfl rfl ?aP (fun _ hk => hk.elim) ?aF ?aO ?aB ?aS ?aL ?_; (case aP => exact rfl); (case aB => exact (by repeat (first | (with_reducible first | exact HB.out | apply below_alloc | apply pw_below_drewN | apply below_drew1 | refine below_set ?_ GE1554.out) | exact HB.out))); (case aF => exact (fun k_ hk => (Nat.le_trans (below_size (by repeat (first | (with_reducible first | exact HB.out | apply below_alloc | apply pw_below_drewN | apply below_drew1 | refine below_set ?_ GE1554.out) | exact HB.out))) hk))); (case aO => exact (by (with_reducible repeat (first | apply Kd.R_alloc | apply Kd.R_drewN | apply Kd.R_drew)); exact HO_10.out)); (case aS => exact (below_size (by repeat (first | (with_reducible first | exact HB.out | apply below_alloc | apply pw_below_drewN | apply below_drew1 | refine below_set ?_ GE1554.out) | exact HB.out)))); (case aL => have := LMc44.out; omega); intro v1572 w47 ho hb hg hat; rw [← Ny1571.out] at ho; have n0_ := Aside0.mk (Kd.V_afterv (ok := (fun k_ => (P1_0_ k_ ∨ w.heap.size ≤ k_) ∧ some k_ ≠ (v1569 : Value).ownBlock ∧ k_ ≠ gb1554)) (by (with_reducible repeat (first | apply Kd.V_alloc | apply Kd.V_drewN | apply Kd.V_drew)); exact Kd.V_mono HO_7.out (fun _ hk => ⟨⟨hk.1.1, ⟨hk.2, hk.1.2.2⟩⟩, hk.1.2.1⟩)) hg hat); have n1_ := Aside0.mk (Kd.V_afterv (ok := (fun k_ => (P1_0_ k_ ∨ w.heap.size ≤ k_) ∧ some k_ ≠ (v1569 : Value).ownBlock ∧ k_ ≠ gb1554)) (by (with_reducible repeat (first | apply Kd.V_alloc | apply Kd.V_drewN | apply Kd.V_drew)); exact Kd.V_mono HO_1555000.out (fun _ hk => ⟨⟨hk.1.1, ⟨hk.2, hk.1.2.2⟩⟩, hk.1.2.1⟩)) hg hat); have n2_ := Aside0.mk (blk_grown (g := gb1554) (o := .cells #[.slice A1_0 l1_0.length c1_0, .slice (some ad1565) l1_1.length c1_1] 90 (0, 0)) (by (with_reducible repeat (first | refine blk_drewN ?_ _ | refine blk_drew ?_ | refine blk_alloc ?_ _)); exact BK1554.out) hg (Kd.R_ne HO_10.out BK1554.out (by decide))); have n3_ := Aside0.mk (Kd.R_over' (by (with_reducible repeat (first | apply Kd.R_alloc | apply Kd.R_drewN | apply Kd.R_drew)); exact HO1570.out) (Kd.R_typed (by (with_reducible repeat (first | apply Kd.R_alloc | apply Kd.R_drewN | apply Kd.R_drew)); exact HO_10.out)) (by decide) hg); have n4_ := Aside0.mk (hb); have n5_ := Aside0.mk (ho); clear HO_7; clear HO_1555000; clear BK1554; clear HO1570; clear HB; clear HO_10; have HO_7 := n0_; have HO_1555000 := n1_; have BK1554 := n2_; have HO1570 := n3_; have HB := n4_; have HO1573 := n5_; clear n0_ n1_ n2_ n3_ n4_ n5_; clear ho hb hg hat))
                      repeat (go_quiet (first | (go_at_call 107; (with_reducible refine (poly_Eval.calls k2 a0 (fun k_ => ((P1_0_ k_ ∨ w.heap.size ≤ k_) ∧ (some k_ ≠ (u9 : Value).ownBlock ∧ (some k_ ≠ (u10 : Value).ownBlock ∧ k_ ≠ gb1554)))) _ _ l1_0 (rd l1_1 x61_2) t1566 t1567 _ ?side1 A42.out).mono ?_); (case side1 => exact HO_7.out); rintro e w45 ⟨rfl, hb⟩; have n0_ := Aside0.mk (Kd.V_below (by (with_reducible repeat (first | apply Kd.V_alloc | apply Kd.V_drewN | apply Kd.V_drew)); exact HO_7.out) hb); have n1_ := Aside0.mk (Kd.R_below (by (with_reducible repeat (first | apply Kd.R_alloc | apply Kd.R_drewN | apply Kd.R_drew)); exact HO_9.out) hb); have n2_ := Aside0.mk (Kd.R_below (by (with_reducible repeat (first | apply Kd.R_alloc | apply Kd.R_drewN | apply Kd.R_drew)); exact HO_10.out) hb); have n3_ := Aside0.mk (Kd.V_below (by (with_reducible repeat (first | apply Kd.V_alloc | apply Kd.V_drewN | apply Kd.V_drew)); exact HO_1555000.out) hb); have n4_ := Aside0.mk (blk_below (g := gb1554) (o := .cells #[.slice A1_0 l1_0.length c1_0, .slice (some ad1565) l1_1.length c1_1] 90 (0, 0)) (by (with_reducible repeat (first | refine blk_drewN ?_ _ | refine blk_drew ?_ | refine blk_alloc ?_ _)); exact BK1554.out) hb); have n5_ := Aside0.mk (below_step (by repeat (first | (with_reducible first | exact HB.out | apply below_alloc | apply pw_below_drewN | apply below_drew1 | refine below_set ?_ GE1554.out) | exact HB.out)) hb); clear HO_7; clear HO_9; clear HO_10; clear HO_1555000; clear BK1554; clear HB; have HO_7 := n0_; have HO_9 := n1_; have HO_10 := n2_; have HO_1555000 := n3_; have BK1554 := n4_; have HB := n5_; clear n0_ n1_ n2_ n3_ n4_ n5_; (try clear hb); (try clear hb2); (try clear hk); (try clear hi)) | ((with_reducible refine gate_builtin (b := .append) (xs := #[.tmp 72, .tmp 76]) rfl ?_); (try (refine gate_guard (by rfl) ?_; dsimp only)); at_builtin; refine Kd.R_append k86 (w0 := w) w.heap.size rfl (.tmp 72) (.tmp 76) 87 86 (.agg #[(.int .u64 0), (.int .u64 0)]) 16 rfl Try.underlying87 info86 rfl (by decide) (by omega) u9 x9_2 (⟨rd l1_1 x61_2, t1566⟩ : S86) [.int .u64 (rd l1_1 x61_2), .int .u64 t1566] (fun k_ => (w.heap.size ≤ k_)) (fun _ => False) rfl rfl ?aP (fun _ hk => hk.elim) ?aF ?aO ?aB ?aS ?aL ?_; (case aP => exact k86_mkM _ _ _ (⟨rd l1_1 x61_2, t1566⟩ : S86)); (case aB => exact (by repeat (first | (with_reducible first | exact HB.out | apply below_alloc | apply pw_below_drewN | apply below_drew1 | refine below_set ?_ GE1554.out) | exact HB.out))); (case aF => exact (fun k_ hk => (Nat.le_trans (below_size (by repeat (first | (with_reducible first | exact HB.out | apply below_alloc | apply pw_below_drewN | apply below_drew1 | refine below_set ?_ GE1554.out) | exact HB.out))) hk))); (case aO => exact (by (with_reducible repeat (first | apply Kd.R_alloc | apply Kd.R_drewN | apply Kd.R_drew)); exact HO_9.out)); (case aS => exact (below_size (by repeat (first | (with_reducible first | exact HB.out | apply below_alloc | apply pw_below_drewN | apply below_drew1 | refine below_set ?_ GE1554.out) | exact HB.out)))); (case aL => have := LMc43.out; omega); intro v1569 w46 ho hb hg hat; rw [← Ny1568.out] at ho; have n0_ := Aside0.mk (Kd.V_afterv (ok := (fun k_ => (P1_0_ k_ ∨ w.heap.size ≤ k_) ∧ some k_ ≠ (u10 : Value).ownBlock ∧ k_ ≠ gb1554)) (by (with_reducible repeat (first | apply Kd.V_alloc | apply Kd.V_drewN | apply Kd.V_drew)); exact Kd.V_mono HO_7.out (fun _ hk => ⟨⟨hk.1, ⟨hk.2.2.1, hk.2.2.2⟩⟩, hk.2.1⟩)) hg hat); have n1_ := Aside0.mk (Kd.R_over' (by (with_reducible repeat (first | apply Kd.R_alloc | apply Kd.R_drewN | apply Kd.R_drew)); exact HO_10.out) (Kd.R_typed (by (with_reducible repeat (first | apply Kd.R_alloc | apply Kd.R_drewN | apply Kd.R_drew)); exact HO_9.out)) (by decide) hg); have n2_ := Aside0.mk (Kd.V_afterv (ok := (fun k_ => (P1_0_ k_ ∨ w.heap.size ≤ k_) ∧ some k_ ≠ (u10 : Value).ownBlock ∧ k_ ≠ gb1554)) (by (with_reducible repeat (first | apply Kd.V_alloc | apply Kd.V_drewN | apply Kd.V_drew)); exact Kd.V_mono HO_1555000.out (fun _ hk => ⟨⟨hk.1, ⟨hk.2.2.1, hk.2.2.2⟩⟩, hk.2.1⟩)) hg hat); have n3_ := Aside0.mk (blk_grown (g := gb1554) (o := .cells #[.slice A1_0 l1_0.length c1_0, .slice (some ad1565) l1_1.length c1_1] 90 (0, 0)) (by (with_reducible repeat (first | refine blk_drewN ?_ _ | refine blk_drew ?_ | refine blk_alloc ?_ _)); exact BK1554.out) hg (Kd.R_ne HO_9.out BK1554.out (by decide))); have n4_ := Aside0.mk (hb); have n5_ := Aside0.mk (ho); clear HO_7; clear HO_10; clear HO_1555000; clear BK1554; clear HB; clear HO_9; have HO_7 := n0_; have HO_10 := n1_; have HO_1555000 := n2_; have BK1554 := n3_; have HB := n4_; have HO1570 := n5_; clear n0_ n1_ n2_ n3_ n4_ n5_; clear ho hb hg hat) | ((with_reducible refine gate_builtin (b := .append) (xs := #[.tmp 78, .tmp 80]) rfl ?_); (try (refine gate_guard (by rfl) ?_; dsimp only)); at_builtin; refine Kd.R_append (Kd.int .u64) (w0 := w) w.heap.size rfl (.tmp 78) (.tmp 80) 31 22 (.int .u64 0) 8 rfl Try.underlying31 info22 rfl (by decide) (by omega) u10 x10_2 t1566 [.int .u64 t1566] (fun k_ => (w.heap.size ≤ k_)) (fun _ => False) rfl rfl ?aP (fun _ hk => hk.elim) ?aF ?aO ?aB ?aS ?aL ?_; (case aP => exact rfl); (case aB => exact (by repeat (first | (with_reducible first | exact HB.out | apply below_alloc | apply pw_below_drewN | apply below_drew1 | refine below_set ?_ GE1554.out) | exact HB.out))); (case aF => exact (fun k_ hk => (Nat.le_trans (below_size (by repeat (first | (with_reducible first | exact HB.out | apply below_alloc | apply pw_below_drewN | apply below_drew1 | refine below_set ?_ GE1554.out) | exact HB.out))) hk))); (case aO => exact (by (with_reducible repeat (first | apply Kd.R_alloc | apply Kd.R_drewN | apply Kd.R_drew)); exact HO_10.out)); (case aS => exact (below_size (by repeat (first | (with_reducible first | exact HB.out | apply below_alloc | apply pw_below_drewN | apply below_drew1 | refine below_set ?_ GE1554.out) | exact HB.out)))); (case aL => have := LMc44.out; omega); intro v1572 w47 ho hb hg hat; rw [← Ny1571.out] at ho; have n0_ := Aside0.mk (Kd.V_afterv (ok := (fun k_ => (P1_0_ k_ ∨ w.heap.size ≤ k_) ∧ some k_ ≠ (v1569 : Value).ownBlock ∧ k_ ≠ gb1554)) (by (with_reducible repeat (first | apply Kd.V_alloc | apply Kd.V_drewN | apply Kd.V_drew)); exact Kd.V_mono HO_7.out (fun _ hk => ⟨⟨hk.1.1, ⟨hk.2, hk.1.2.2⟩⟩, hk.1.2.1⟩)) hg hat); have n1_ := Aside0.mk (Kd.V_afterv (ok := (fun k_ => (P1_0_ k_ ∨ w.heap.size ≤ k_) ∧ some k_ ≠ (v1569 : Value).ownBlock ∧ k_ ≠ gb1554)) (by (with_reducible repeat (first | apply Kd.V_alloc | apply Kd.V_drewN | apply Kd.V_drew)); exact Kd.V_mono HO_1555000.out (fun _ hk => ⟨⟨hk.1.1, ⟨hk.2, hk.1.2.2⟩⟩, hk.1.2.1⟩)) hg hat); have n2_ := Aside0.mk (blk_grown (g := gb1554) (o := .cells #[.slice A1_0 l1_0.length c1_0, .slice (some ad1565) l1_1.length c1_1] 90 (0, 0)) (by (with_reducible repeat (first | refine blk_drewN ?_ _ | refine blk_drew ?_ | refine blk_alloc ?_ _)); exact BK1554.out) hg (Kd.R_ne HO_10.out BK1554.out (by decide))); have n3_ := Aside0.mk (Kd.R_over' (by (with_reducible repeat (first | apply Kd.R_alloc | apply Kd.R_drewN | apply Kd.R_drew)); exact HO1570.out) (Kd.R_typed (by (with_reducible repeat (first | apply Kd.R_alloc | apply Kd.R_drewN | apply Kd.R_drew)); exact HO_10.out)) (by decide) hg); have n4_ := Aside0.mk (hb); have n5_ := Aside0.mk (ho); clear HO_7; clear HO_1555000; clear BK1554; clear HO1570; clear HB; clear HO_10; have HO_7 := n0_; have HO_1555000 := n1_; have BK1554 := n2_; have HO1570 := n3_; have HB := n4_; have HO1573 := n5_; clear n0_ n1_ n2_ n3_ n4_ n5_; clear ho hb hg hat)); try go_wp2_with (first | (go_at_call 107; (with_reducible refine (poly_Eval.calls k2 a0 (fun k_ => ((P1_0_ k_ ∨ w.heap.size ≤ k_) ∧ (some k_ ≠ (u9 : Value).ownBlock ∧ (some k_ ≠ (u10 : Value).ownBlock ∧ k_ ≠ gb1554)))) _ _ l1_0 (rd l1_1 x61_2) t1566 t1567 _ ?side1 A42.out).mono ?_); (case side1 => exact HO_7.out); rintro e w45 ⟨rfl, hb⟩; have n0_ := Aside0.mk (Kd.V_below (by (with_reducible repeat (first | apply Kd.V_alloc | apply Kd.V_drewN | apply Kd.V_drew)); exact HO_7.out) hb); have n1_ := Aside0.mk (Kd.R_below (by (with_reducible repeat (first | apply Kd.R_alloc | apply Kd.R_drewN | apply Kd.R_drew)); exact HO_9.out) hb); have n2_ := Aside0.mk (Kd.R_below (by (with_reducible repeat (first | apply Kd.R_alloc | apply Kd.R_drewN | apply Kd.R_drew)); exact HO_10.out) hb); have n3_ := Aside0.mk (Kd.V_below (by (with_reducible repeat (first | apply Kd.V_alloc | apply Kd.V_drewN | apply Kd.V_drew)); exact HO_1555000.out) hb); have n4_ := Aside0.mk (blk_below (g := gb1554) (o := .cells #[.slice A1_0 l1_0.length c1_0, .slice (some ad1565) l1_1.length c1_1] 90 (0, 0)) (by (with_reducible repeat (first | refine blk_drewN ?_ _ | refine blk_drew ?_ | refine blk_alloc ?_ _)); exact BK1554.out) hb); have n5_ := Aside0.mk (below_step (by repeat (first | (with_reducible first | exact HB.out | apply below_alloc | apply pw_below_drewN | apply below_drew1 | refine below_set ?_ GE1554.out) | exact HB.out)) hb); clear HO_7; clear HO_9; clear HO_10; clear HO_1555000; clear BK1554; clear HB; have HO_7 := n0_; have HO_9 := n1_; have HO_10 := n2_; have HO_1555000 := n3_; have BK1554 := n4_; have HB := n5_; clear n0_ n1_ n2_ n3_ n4_ n5_; (try clear hb); (try clear hb2); (try clear hk); (try clear hi)) | ((with_reducible refine gate_builtin (b := .append) (xs := #[.tmp 72, .tmp 76]) rfl ?_); (try (refine gate_guard (by rfl) ?_; dsimp only)); at_builtin; refine Kd.R_append k86 (w0 := w) w.heap.size rfl (.tmp 72) (.tmp 76) 87 86 (.agg #[(.int .u64 0), (.int .u64 0)]) 16 rfl Try.underlying87 info86 rfl (by decide) (by omega) u9 x9_2 (⟨rd l1_1 x61_2, t1566⟩ : S86) [.int .u64 (rd l1_1 x61_2), .int .u64 t1566] (fun k_ => (w.heap.size ≤ k_)) (fun _ => False) rfl rfl ?aP (fun _ hk => hk.elim) ?aF ?aO ?aB ?aS ?aL ?_; (case aP => exact k86_mkM _ _ _ (⟨rd l1_1 x61_2, t1566⟩ : S86)); (case aB => exact (by repeat (first | (with_reducible first | exact HB.out | apply below_alloc | apply pw_below_drewN | apply below_drew1 | refine below_set ?_ GE1554.out) | exact HB.out))); (case aF => exact (fun k_ hk => (Nat.le_trans (below_size (by repeat (first | (with_reducible first | exact HB.out | apply below_alloc | apply pw_below_drewN | apply below_drew1 | refine below_set ?_ GE1554.out) | exact HB.out))) hk))); (case aO => exact (by (with_reducible repeat (first | apply Kd.R_alloc | apply Kd.R_drewN | apply Kd.R_drew)); exact HO_9.out)); (case aS => exact (below_size (by repeat (first | (with_reducible first | exact HB.out | apply below_alloc | apply pw_below_drewN | apply below_drew1 | refine below_set ?_ GE1554.out) | exact HB.out)))); (case aL => have := LMc43.out; omega); intro v1569 w46 ho hb hg hat; rw [← Ny1568.out] at ho; have n0_ := Aside0.mk (Kd.V_afterv (ok := (fun k_ => (P1_0_ k_ ∨ w.heap.size ≤ k_) ∧ some k_ ≠ (u10 : Value).ownBlock ∧ k_ ≠ gb1554)) (by (with_reducible repeat (first | apply Kd.V_alloc | apply Kd.V_drewN | apply Kd.V_drew)); exact Kd.V_mono HO_7.out (fun _ hk => ⟨⟨hk.1, ⟨hk.2.2.1, hk.2.2.2⟩⟩, hk.2.1⟩)) hg hat); have n1_ := Aside0.mk (Kd.R_over' (by (with_reducible repeat (first | apply Kd.R_alloc | apply Kd.R_drewN | apply Kd.R_drew)); exact HO_10.out) (Kd.R_typed (by (with_reducible repeat (first | apply Kd.R_alloc | apply Kd.R_drewN | apply Kd.R_drew)); exact HO_9.out)) (by decide) hg); have n2_ := Aside0.mk (Kd.V_afterv (ok := (fun k_ => (P1_0_ k_ ∨ w.heap.size ≤ k_) ∧ some k_ ≠ (u10 : Value).ownBlock ∧ k_ ≠ gb1554)) (by (with_reducible repeat (first | apply Kd.V_alloc | apply Kd.V_drewN | apply Kd.V_drew)); exact Kd.V_mono HO_1555000.out (fun _ hk => ⟨⟨hk.1, ⟨hk.2.2.1, hk.2.2.2⟩⟩, hk.2.1⟩)) hg hat); have n3_ := Aside0.mk (blk_grown (g := gb1554) (o := .cells #[.slice A1_0 l1_0.length c1_0, .slice (some ad1565) l1_1.length c1_1] 90 (0, 0)) (by (with_reducible repeat (first | refine blk_drewN ?_ _ | refine blk_drew ?_ | refine blk_alloc ?_ _)); exact BK1554.out) hg (Kd.R_ne HO_9.out BK1554.out (by decide))); have n4_ := Aside0.mk (hb); have n5_ := Aside0.mk (ho); clear HO_7; clear HO_10; clear HO_1555000; clear BK1554; clear HB; clear HO_9; have HO_7 := n0_; have HO_10 := n1_; have HO_1555000 := n2_; have BK1554 := n3_; have HB := n4_; have HO1570 := n5_; clear n0_ n1_ n2_ n3_ n4_ n5_; clear ho hb hg hat) | ((with_reducible refine gate_builtin (b := .append) (xs := #[.tmp 78, .tmp 80]) rfl ?_); (try (refine gate_guard (by rfl) ?_; dsimp only)); at_builtin; refine Kd.R_append (Kd.int .u64) (w0 := w) w.heap.size rfl (.tmp 78) (.tmp 80) 31 22 (.int .u64 0) 8 rfl Try.underlying31 info22 rfl (by decide) (by omega) u10 x10_2 t1566 [.int .u64 t1566] (fun k_ => (w.heap.size ≤ k_)) (fun _ => False) rfl rfl ?aP (fun _ hk => hk.elim) ?aF ?aO ?aB ?aS ?aL ?_; (case aP => exact rfl); (case aB => exact (by repeat (first | (with_reducible first | exact HB.out | apply below_alloc | apply pw_below_drewN | apply below_drew1 | refine below_set ?_ GE1554.out) | exact HB.out))); (case aF => exact (fun k_ hk => (Nat.le_trans (below_size (by repeat (first | (with_reducible first | exact HB.out | apply below_alloc | apply pw_below_drewN | apply below_drew1 | refine below_set ?_ GE1554.out) | exact HB.out))) hk))); (case aO => exact (by (with_reducible repeat (first | apply Kd.R_alloc | apply Kd.R_drewN | apply Kd.R_drew)); exact HO_10.out)); (case aS => exact (below_size (by repeat (first | (with_reducible first | exact HB.out | apply below_alloc | apply pw_below_drewN | apply below_drew1 | refine below_set ?_ GE1554.out) | exact HB.out)))); (case aL => have := LMc44.out; omega); intro v1572 w47 ho hb hg hat; rw [← Ny1571.out] at ho; have n0_ := Aside0.mk (Kd.V_afterv (ok := (fun k_ => (P1_0_ k_ ∨ w.heap.size ≤ k_) ∧ some k_ ≠ (v1569 : Value).ownBlock ∧ k_ ≠ gb1554)) (by (with_reducible repeat (first | apply Kd.V_alloc | apply Kd.V_drewN | apply Kd.V_drew)); exact Kd.V_mono HO_7.out (fun _ hk => ⟨⟨hk.1.1, ⟨hk.2, hk.1.2.2⟩⟩, hk.1.2.1⟩)) hg hat); have n1_ := Aside0.mk (Kd.V_afterv (ok := (fun k_ => (P1_0_ k_ ∨ w.heap.size ≤ k_) ∧ some k_ ≠ (v1569 : Value).ownBlock ∧ k_ ≠ gb1554)) (by (with_reducible repeat (first | apply Kd.V_alloc | apply Kd.V_drewN | apply Kd.V_drew)); exact Kd.V_mono HO_1555000.out (fun _ hk => ⟨⟨hk.1.1, ⟨hk.2, hk.1.2.2⟩⟩, hk.1.2.1⟩)) hg hat); have n2_ := Aside0.mk (blk_grown (g := gb1554) (o := .cells #[.slice A1_0 l1_0.length c1_0, .slice (some ad1565) l1_1.length c1_1] 90 (0, 0)) (by (with_reducible repeat (first | refine blk_drewN ?_ _ | refine blk_drew ?_ | refine blk_alloc ?_ _)); exact BK1554.out) hg (Kd.R_ne HO_10.out BK1554.out (by decide))); have n3_ := Aside0.mk (Kd.R_over' (by (with_reducible repeat (first | apply Kd.R_alloc | apply Kd.R_drewN | apply Kd.R_drew)); exact HO1570.out) (Kd.R_typed (by (with_reducible repeat (first | apply Kd.R_alloc | apply Kd.R_drewN | apply Kd.R_drew)); exact HO_10.out)) (by decide) hg); have n4_ := Aside0.mk (hb); have n5_ := Aside0.mk (ho); clear HO_7; clear HO_1555000; clear BK1554; clear HO1570; clear HB; clear HO_10; have HO_7 := n0_; have HO_1555000 := n1_; have BK1554 := n2_; have HO1570 := n3_; have HB := n4_; have HO1573 := n5_; clear n0_ n1_ n2_ n3_ n4_ n5_; clear ho hb hg hat)))
                      go_roundg k2
                      case measure => have := HJ3.out; have := HK2.out; omega
                      case rel => exact ⟨(y1568), (y1571), (wrap64 (x61_2 + 1)), (by first | rfl | (simp; done) | (simp [*]; done)), H', ⟨by have := HJ3.out; have := HK2.out; omega⟩, ⟨by (with_reducible repeat (first | apply Kd.V_alloc | apply Kd.V_drewN | apply Kd.V_drew)); exact Kd.V_mono HO_7.out (fun _ hk => ⟨hk.1.1, ⟨hk.1.2.1, ⟨hk.2, hk.1.2.2⟩⟩⟩)⟩, ⟨by (with_reducible repeat (first | apply Kd.R_alloc | apply Kd.R_drewN | apply Kd.R_drew)); exact HO1570.out⟩, ⟨by (with_reducible repeat (first | apply Kd.R_alloc | apply Kd.R_drewN | apply Kd.R_drew)); exact HO1573.out⟩, ⟨by (with_reducible repeat (first | apply Kd.V_alloc | apply Kd.V_drewN | apply Kd.V_drew)); exact Kd.V_mono HO_1555000.out (fun _ hk => ⟨hk.1.1, ⟨hk.1.2.1, ⟨hk.2, hk.1.2.2⟩⟩⟩)⟩, ⟨by (with_reducible repeat (first | refine blk_drewN ?_ _ | refine blk_drew ?_ | refine blk_alloc ?_ _)); exact BK1554.out⟩, ⟨by repeat (first | (with_reducible first | exact HB.out | apply below_alloc | apply pw_below_drewN | apply below_drew1 | refine below_set ?_ GE1554.out) | exact HB.out)⟩⟩
                    · rw [if_neg c44] at H
                      exact absurd H (by simp)
                  · rw [if_neg c43] at H
                    exact absurd H (by simp)
                · rw [if_neg c41] at H
                  exact absurd H (by simp)
              · rw [if_neg c40] at H
                exact absurd H (by simp)
            · rw [if_neg c39] at H
              have c39b0 : decide (x61_2 < (l1_1.length : Int)) = false := decide_eq_false c39
              clear c39
              replace H := Option.bind_eq_some_iff.mp H
              obtain ⟨⟨t1574, t1575⟩, A480, H⟩ := H
              replace H : ((poly_Weights.f k2 a0 l1_1 a2).bind fun bt1578 => ((poly_Eval.f k2 a0 l1_0 a2).bind fun bt1582 => (if t1575 = 0 then ((juntoref02_Trim.f k2 l1_0).bind fun t1584 => ((juntoref01_Same.f k2 t1574 t1584).bind fun t1587 => (if t1587 = true then (if bt1578.2 = 0 then (if (bt1578.1.length : Int) = (x10_2.length : Int) then ((juntoref01_Dot.f k2 a0 bt1578.1 x10_2).bind fun t1588 => (if t1588 = bt1582.1 then ((juntolaw02_alive.f k2).bind fun t1589 => (some t1589)) else (some false))) else (some false)) else (some false)) else (some false)))) else (some false)))) = some r := H
              have A48 := Aside0.mk A480
              clear A480
              replace H := Option.bind_eq_some_iff.mp H
              obtain ⟨⟨t1578, t1581⟩, A490, H⟩ := H
              replace H : ((poly_Eval.f k2 a0 l1_0 a2).bind fun bt1582 => (if t1575 = 0 then ((juntoref02_Trim.f k2 l1_0).bind fun t1584 => ((juntoref01_Same.f k2 t1574 t1584).bind fun t1587 => (if t1587 = true then (if t1581 = 0 then (if (t1578.length : Int) = (x10_2.length : Int) then ((juntoref01_Dot.f k2 a0 t1578 x10_2).bind fun t1588 => (if t1588 = bt1582.1 then ((juntolaw02_alive.f k2).bind fun t1589 => (some t1589)) else (some false))) else (some false)) else (some false)) else (some false)))) else (some false))) = some r := H
              have A49 := Aside0.mk A490
              clear A490
              replace H := Option.bind_eq_some_iff.mp H
              obtain ⟨⟨t1582, t1583⟩, A500, H⟩ := H
              replace H : (if t1575 = 0 then ((juntoref02_Trim.f k2 l1_0).bind fun t1584 => ((juntoref01_Same.f k2 t1574 t1584).bind fun t1587 => (if t1587 = true then (if t1581 = 0 then (if (t1578.length : Int) = (x10_2.length : Int) then ((juntoref01_Dot.f k2 a0 t1578 x10_2).bind fun t1588 => (if t1588 = t1582 then ((juntolaw02_alive.f k2).bind fun t1589 => (some t1589)) else (some false))) else (some false)) else (some false)) else (some false)))) else (some false)) = some r := H
              have A50 := Aside0.mk A500
              clear A500
              by_cases c51 : t1575 = 0
              · rw [if_pos c51] at H
                have c51b0 : (t1575 == 0) = true := beq_iff_eq.mpr c51
                have c51b1 : (t1575 != 0) = false := bne_eq_false_iff_eq.mpr c51
                clear c51
                replace H := Option.bind_eq_some_iff.mp H
                obtain ⟨t1584, A520, H⟩ := H
                replace H : ((juntoref01_Same.f k2 t1574 t1584).bind fun t1587 => (if t1587 = true then (if t1581 = 0 then (if (t1578.length : Int) = (x10_2.length : Int) then ((juntoref01_Dot.f k2 a0 t1578 x10_2).bind fun t1588 => (if t1588 = t1582 then ((juntolaw02_alive.f k2).bind fun t1589 => (some t1589)) else (some false))) else (some false)) else (some false)) else (some false))) = some r := H
                have A52 := Aside0.mk A520
                clear A520
                replace H := Option.bind_eq_some_iff.mp H
                obtain ⟨t1587, A530, H⟩ := H
                replace H : (if t1587 = true then (if t1581 = 0 then (if (t1578.length : Int) = (x10_2.length : Int) then ((juntoref01_Dot.f k2 a0 t1578 x10_2).bind fun t1588 => (if t1588 = t1582 then ((juntolaw02_alive.f k2).bind fun t1589 => (some t1589)) else (some false))) else (some false)) else (some false)) else (some false)) = some r := H
                have A53 := Aside0.mk A530
                clear A530
                by_cases c54 : t1587 = true
                · subst c54
                  have H1 : (if t1581 = 0 then (if (t1578.length : Int) = (x10_2.length : Int) then ((juntoref01_Dot.f k2 a0 t1578 x10_2).bind fun t1588 => (if t1588 = t1582 then ((juntolaw02_alive.f k2).bind fun t1589 => (some t1589)) else (some false))) else (some false)) else (some false)) = some r := by rw [if_pos rfl] at H; exact H
                  clear H
                  have H := H1
                  clear H1
                  by_cases c55 : t1581 = 0
                  · rw [if_pos c55] at H
                    have c55b0 : (t1581 == 0) = true := beq_iff_eq.mpr c55
                    have c55b1 : (t1581 != 0) = false := bne_eq_false_iff_eq.mpr c55
                    clear c55
                    by_cases c56 : (t1578.length : Int) = (x10_2.length : Int)
                    · rw [if_pos c56] at H
                      have c56b0 : ((t1578.length : Int) == (x10_2.length : Int)) = true := beq_iff_eq.mpr c56
                      have c56b1 : ((t1578.length : Int) != (x10_2.length : Int)) = false := bne_eq_false_iff_eq.mpr c56
                      have c56b2 : (t1578.length == x10_2.length) = true := by first | simpa using c56 | (simp at c56 ⊢; omega)
                      clear c56
                      replace H := Option.bind_eq_some_iff.mp H
                      obtain ⟨t1588, A570, H⟩ := H
                      replace H : (if t1588 = t1582 then ((juntolaw02_alive.f k2).bind fun t1589 => (some t1589)) else (some false)) = some r := H
                      have A57 := Aside0.mk A570
                      clear A570
                      by_cases c58 : t1588 = t1582
                      · rw [if_pos c58] at H
                        have c58b0 : (t1588 == t1582) = true := beq_iff_eq.mpr c58
                        have c58b1 : (t1588 != t1582) = false := bne_eq_false_iff_eq.mpr c58
                        clear c58
                        replace H := Option.bind_eq_some_iff.mp H
                        obtain ⟨t1589, A590, H⟩ := H
                        replace H : (some t1589) = some r := H
                        have A59 := Aside0.mk A590
                        clear A590
                        obtain rfl := Option.some.inj H
                        obtain ⟨Ao60, co60, eo60⟩ := Kd.R_slice HO_9.out
                        subst eo60
                        go_wp2_with (first | (go_at_call 91; (with_reducible refine (poly_Through.calls k2 a0 _ _ x9_2 t1574 t1575 _ ?side1 ?side2 A48.out).mono ?_); (case side1 => repeat (first | exact (Kd.R_reads' HO_9.out).2.2 | (with_reducible refine Kd.C_alloc ?_ _) | (with_reducible refine Kd.C_drewN ?_ _) | (with_reducible refine Kd.C_drew ?_))); (case side2 => exact (Kd.R_reads' HO_9.out).2.1); rintro e w61 ⟨v1576, rfl, ho0, hb⟩; have n0_ := Aside0.mk (Kd.V_elder' (by (with_reducible repeat (first | apply Kd.V_alloc | apply Kd.V_drewN | apply Kd.V_drew)); exact HO_7.out) (Kd.R_base ho0) hb); have n1_ := Aside0.mk (Kd.R_below (by (with_reducible repeat (first | apply Kd.R_alloc | apply Kd.R_drewN | apply Kd.R_drew)); exact HO_9.out) hb); have n2_ := Aside0.mk (Kd.R_elder' (by (with_reducible repeat (first | apply Kd.R_alloc | apply Kd.R_drewN | apply Kd.R_drew)); exact HO_10.out) (Kd.R_base ho0) hb); have n3_ := Aside0.mk (Kd.V_elder' (by (with_reducible repeat (first | apply Kd.V_alloc | apply Kd.V_drewN | apply Kd.V_drew)); exact HO_1555000.out) (Kd.R_base ho0) hb); have n4_ := Aside0.mk (Kd.R_lower (Kd.R_new' (Kd.R_newM (M := fun k_ => (w.heap.size ≤ k_)) ho0 (below_size (by repeat (first | (with_reducible first | exact HB.out | apply below_alloc | apply pw_below_drewN | apply below_drew1 | refine below_set ?_ GE1554.out) | exact HB.out))) (fun k_ h_ => h_)) (Kd.R_lt (by (with_reducible repeat (first | apply Kd.R_alloc | apply Kd.R_drewN | apply Kd.R_drew)); exact HO_10.out))) (below_size (by repeat (first | (with_reducible first | exact HB.out | apply below_alloc | apply pw_below_drewN | apply below_drew1 | refine below_set ?_ GE1554.out) | exact HB.out)))); have n5_ := Aside0.mk (blk_below (g := gb1554) (o := .cells #[.slice A1_0 l1_0.length c1_0, .slice A1_1 l1_1.length c1_1] 90 (0, 0)) (by (with_reducible repeat (first | refine blk_drewN ?_ _ | refine blk_drew ?_ | refine blk_alloc ?_ _)); exact BK1554.out) hb); have n6_ := Aside0.mk (below_step (by repeat (first | (with_reducible first | exact HB.out | apply below_alloc | apply pw_below_drewN | apply below_drew1 | refine below_set ?_ GE1554.out) | exact HB.out)) hb); clear HO_7; clear HO_9; clear HO_10; clear HO_1555000; clear BK1554; clear HB; have HO_7 := n0_; have HO_9 := n1_; have HO_10 := n2_; have HO_1555000 := n3_; have HO1577 := n4_; have BK1554 := n5_; have HB := n6_; clear n0_ n1_ n2_ n3_ n4_ n5_ n6_; (try clear hb); (try clear hb2); (try clear hk); (try clear hi); (try clear ho0)) | (go_at_call 96; (with_reducible refine (poly_Weights.calls k2 a0 (fun k_ => k_ < w.heap.size) _ _ l1_1 a2 t1578 t1581 _ ?side1 A49.out).mono ?_); (case side1 => exact Kd.V_mk HC1_1.out (Kd.F_below (Kd.C_F (Kd.heap_int .u64) HR1_1.out) (by repeat (first | (with_reducible first | exact HB.out | apply below_alloc | apply pw_below_drewN | apply below_drew1 | refine below_set ?_ GE1554.out) | exact HB.out)))); rintro e w62 ⟨v1579, rfl, ho0, hb⟩; have n0_ := Aside0.mk (Kd.V_elder' (by (with_reducible repeat (first | apply Kd.V_alloc | apply Kd.V_drewN | apply Kd.V_drew)); exact HO_7.out) (Kd.R_base ho0) hb); have n1_ := Aside0.mk (Kd.R_below (by (with_reducible repeat (first | apply Kd.R_alloc | apply Kd.R_drewN | apply Kd.R_drew)); exact HO_9.out) hb); have n2_ := Aside0.mk (Kd.R_elder' (by (with_reducible repeat (first | apply Kd.R_alloc | apply Kd.R_drewN | apply Kd.R_drew)); exact HO_10.out) (Kd.R_base ho0) hb); have n3_ := Aside0.mk (Kd.V_elder' (by (with_reducible repeat (first | apply Kd.V_alloc | apply Kd.V_drewN | apply Kd.V_drew)); exact HO_1555000.out) (Kd.R_base ho0) hb); have n4_ := Aside0.mk (Kd.R_elder' (by (with_reducible repeat (first | apply Kd.R_alloc | apply Kd.R_drewN | apply Kd.R_drew)); exact HO1577.out) (Kd.R_base ho0) hb); have n5_ := Aside0.mk (Kd.R_lower (Kd.R_new' (Kd.R_new' (Kd.R_newM (M := fun k_ => (w.heap.size ≤ k_)) (Kd.R_mono (ok' := fun k_ => True) ho0 (fun _ hk_ => trivial)) (below_size (by repeat (first | (with_reducible first | exact HB.out | apply below_alloc | apply pw_below_drewN | apply below_drew1 | refine below_set ?_ GE1554.out) | exact HB.out))) (fun k_ h_ => h_)) (Kd.R_lt (by (with_reducible repeat (first | apply Kd.R_alloc | apply Kd.R_drewN | apply Kd.R_drew)); exact HO_10.out))) (Kd.R_lt (by (with_reducible repeat (first | apply Kd.R_alloc | apply Kd.R_drewN | apply Kd.R_drew)); exact HO1577.out))) (below_size (by repeat (first | (with_reducible first | exact HB.out | apply below_alloc | apply pw_below_drewN | apply below_drew1 | refine below_set ?_ GE1554.out) | exact HB.out)))); have n6_ := Aside0.mk (blk_below (g := gb1554) (o := .cells #[.slice A1_0 l1_0.length c1_0, .slice A1_1 l1_1.length c1_1] 90 (0, 0)) (by (with_reducible repeat (first | refine blk_drewN ?_ _ | refine blk_drew ?_ | refine blk_alloc ?_ _)); exact BK1554.out) hb); have n7_ := Aside0.mk (below_step (by repeat (first | (with_reducible first | exact HB.out | apply below_alloc | apply pw_below_drewN | apply below_drew1 | refine below_set ?_ GE1554.out) | exact HB.out)) hb); clear HO_7; clear HO_9; clear HO_10; clear HO_1555000; clear HO1577; clear BK1554; clear HB; have HO_7 := n0_; have HO_9 := n1_; have HO_10 := n2_; have HO_1555000 := n3_; have HO1577 := n4_; have HO1580 := n5_; have BK1554 := n6_; have HB := n7_; clear n0_ n1_ n2_ n3_ n4_ n5_ n6_ n7_; (try clear hb); (try clear hb2); (try clear hk); (try clear hi); (try clear ho0)) | (go_at_call 107; (with_reducible refine (poly_Eval.calls k2 a0 (fun k_ => ((((P1_0_ k_ ∨ w.heap.size ≤ k_) ∧ (some k_ ≠ (.slice Ao60 x9_2.length co60 : Value).ownBlock ∧ (some k_ ≠ (u10 : Value).ownBlock ∧ k_ ≠ gb1554))) ∧ some k_ ≠ (v1576 : Value).ownBlock) ∧ some k_ ≠ (v1579 : Value).ownBlock)) _ _ l1_0 a2 t1582 t1583 _ ?side1 A50.out).mono ?_); (case side1 => exact HO_7.out); rintro e w63 ⟨rfl, hb⟩; have n0_ := Aside0.mk (Kd.V_below (by (with_reducible repeat (first | apply Kd.V_alloc | apply Kd.V_drewN | apply Kd.V_drew)); exact HO_7.out) hb); have n1_ := Aside0.mk (Kd.R_below (by (with_reducible repeat (first | apply Kd.R_alloc | apply Kd.R_drewN | apply Kd.R_drew)); exact HO_9.out) hb); have n2_ := Aside0.mk (Kd.R_below (by (with_reducible repeat (first | apply Kd.R_alloc | apply Kd.R_drewN | apply Kd.R_drew)); exact HO_10.out) hb); have n3_ := Aside0.mk (Kd.V_below (by (with_reducible repeat (first | apply Kd.V_alloc | apply Kd.V_drewN | apply Kd.V_drew)); exact HO_1555000.out) hb); have n4_ := Aside0.mk (Kd.R_below (by (with_reducible repeat (first | apply Kd.R_alloc | apply Kd.R_drewN | apply Kd.R_drew)); exact HO1577.out) hb); have n5_ := Aside0.mk (Kd.R_below (by (with_reducible repeat (first | apply Kd.R_alloc | apply Kd.R_drewN | apply Kd.R_drew)); exact HO1580.out) hb); have n6_ := Aside0.mk (blk_below (g := gb1554) (o := .cells #[.slice A1_0 l1_0.length c1_0, .slice A1_1 l1_1.length c1_1] 90 (0, 0)) (by (with_reducible repeat (first | refine blk_drewN ?_ _ | refine blk_drew ?_ | refine blk_alloc ?_ _)); exact BK1554.out) hb); have n7_ := Aside0.mk (below_step (by repeat (first | (with_reducible first | exact HB.out | apply below_alloc | apply pw_below_drewN | apply below_drew1 | refine below_set ?_ GE1554.out) | exact HB.out)) hb); clear HO_7; clear HO_9; clear HO_10; clear HO_1555000; clear HO1577; clear HO1580; clear BK1554; clear HB; have HO_7 := n0_; have HO_9 := n1_; have HO_10 := n2_; have HO_1555000 := n3_; have HO1577 := n4_; have HO1580 := n5_; have BK1554 := n6_; have HB := n7_; clear n0_ n1_ n2_ n3_ n4_ n5_ n6_ n7_; (try clear hb); (try clear hb2); (try clear hk); (try clear hi)) | (go_at_call 60; (with_reducible refine (juntoref02_Trim.calls k2 _ _ l1_0 t1584 _ ?side1 ?side2 A52.out).mono ?_); (case side1 => repeat (first | exact (Kd.V_reads' HO_7.out).2.2 | (with_reducible refine Kd.C_alloc ?_ _) | (with_reducible refine Kd.C_drewN ?_ _) | (with_reducible refine Kd.C_drew ?_))); (case side2 => exact (Kd.V_reads' HO_7.out).2.1); rintro e w64 ⟨v1585, rfl, ho0, hb⟩; have n0_ := Aside0.mk (Kd.V_elder' (by (with_reducible repeat (first | apply Kd.V_alloc | apply Kd.V_drewN | apply Kd.V_drew)); exact HO_7.out) (Kd.R_base ho0) hb); have n1_ := Aside0.mk (Kd.R_below (by (with_reducible repeat (first | apply Kd.R_alloc | apply Kd.R_drewN | apply Kd.R_drew)); exact HO_9.out) hb); have n2_ := Aside0.mk (Kd.R_elder' (by (with_reducible repeat (first | apply Kd.R_alloc | apply Kd.R_drewN | apply Kd.R_drew)); exact HO_10.out) (Kd.R_base ho0) hb); have n3_ := Aside0.mk (Kd.V_elder' (by (with_reducible repeat (first | apply Kd.V_alloc | apply Kd.V_drewN | apply Kd.V_drew)); exact HO_1555000.out) (Kd.R_base ho0) hb); have n4_ := Aside0.mk (Kd.R_elder' (by (with_reducible repeat (first | apply Kd.R_alloc | apply Kd.R_drewN | apply Kd.R_drew)); exact HO1577.out) (Kd.R_base ho0) hb); have n5_ := Aside0.mk (Kd.R_elder' (by (with_reducible repeat (first | apply Kd.R_alloc | apply Kd.R_drewN | apply Kd.R_drew)); exact HO1580.out) (Kd.R_base ho0) hb); have n6_ := Aside0.mk (Kd.R_lower (Kd.R_new' (Kd.R_new' (Kd.R_new' (Kd.R_newM (M := fun k_ => (w.heap.size ≤ k_)) ho0 (below_size (by repeat (first | (with_reducible first | exact HB.out | apply below_alloc | apply pw_below_drewN | apply below_drew1 | refine below_set ?_ GE1554.out) | exact HB.out))) (fun k_ h_ => h_)) (Kd.R_lt (by (with_reducible repeat (first | apply Kd.R_alloc | apply Kd.R_drewN | apply Kd.R_drew)); exact HO_10.out))) (Kd.R_lt (by (with_reducible repeat (first | apply Kd.R_alloc | apply Kd.R_drewN | apply Kd.R_drew)); exact HO1577.out))) (Kd.R_lt (by (with_reducible repeat (first | apply Kd.R_alloc | apply Kd.R_drewN | apply Kd.R_drew)); exact HO1580.out))) (below_size (by repeat (first | (with_reducible first | exact HB.out | apply below_alloc | apply pw_below_drewN | apply below_drew1 | refine below_set ?_ GE1554.out) | exact HB.out)))); have n7_ := Aside0.mk (blk_below (g := gb1554) (o := .cells #[.slice A1_0 l1_0.length c1_0, .slice A1_1 l1_1.length c1_1] 90 (0, 0)) (by (with_reducible repeat (first | refine blk_drewN ?_ _ | refine blk_drew ?_ | refine blk_alloc ?_ _)); exact BK1554.out) hb); have n8_ := Aside0.mk (below_step (by repeat (first | (with_reducible first | exact HB.out | apply below_alloc | apply pw_below_drewN | apply below_drew1 | refine below_set ?_ GE1554.out) | exact HB.out)) hb); clear HO_7; clear HO_9; clear HO_10; clear HO_1555000; clear HO1577; clear HO1580; clear BK1554; clear HB; have HO_7 := n0_; have HO_9 := n1_; have HO_10 := n2_; have HO_1555000 := n3_; have HO1577 := n4_; have HO1580 := n5_; have HO1586 := n6_; have BK1554 := n7_; have HB := n8_; clear n0_ n1_ n2_ n3_ n4_ n5_ n6_ n7_ n8_; (try clear hb); (try clear hb2); (try clear hk); (try clear hi); (try clear ho0); obtain ⟨Ao65, co65, eo65⟩ := Kd.R_slice HO1577.out; subst eo65; obtain ⟨Ao66, co66, eo66⟩ := Kd.R_slice HO1586.out; subst eo66) | (go_at_call 45; (with_reducible refine (juntoref01_Same.calls k2 _ _ t1574 _ _ t1584 true _ ?side1 ?side2 ?side3 ?side4 A53.out).mono ?_); (case side1 => repeat (first | exact (Kd.R_reads' HO1577.out).2.2 | (with_reducible refine Kd.C_alloc ?_ _) | (with_reducible refine Kd.C_drewN ?_ _) | (with_reducible refine Kd.C_drew ?_))); (case side2 => exact (Kd.R_reads' HO1577.out).2.1); (case side3 => repeat (first | exact (Kd.R_reads' HO1586.out).2.2 | (with_reducible refine Kd.C_alloc ?_ _) | (with_reducible refine Kd.C_drewN ?_ _) | (with_reducible refine Kd.C_drew ?_))); (case side4 => exact (Kd.R_reads' HO1586.out).2.1); rintro e w' ⟨rfl, ⟨nd, rfl⟩⟩; (try first | exact ⟨rfl, _, World.drewN_drewN _ _ _⟩ | exact ⟨rfl, _, Eq.trans (World.drewN_drewN _ _ _) (congrArg (World.drewN _) (Nat.add_assoc _ _ _))⟩); obtain ⟨Ao67, co67, eo67⟩ := Kd.R_slice HO1580.out; subst eo67; obtain ⟨Ao68, co68, eo68⟩ := Kd.R_slice HO_10.out; subst eo68) | (go_at_call 108; (with_reducible refine (juntoref01_Dot.calls k2 a0 _ _ t1578 _ _ x10_2 t1588 _ ?side1 ?side2 ?side3 ?side4 A57.out).mono ?_); (case side1 => repeat (first | exact (Kd.R_reads' HO1580.out).2.2 | (with_reducible refine Kd.C_alloc ?_ _) | (with_reducible refine Kd.C_drewN ?_ _) | (with_reducible refine Kd.C_drew ?_))); (case side2 => exact (Kd.R_reads' HO1580.out).2.1); (case side3 => repeat (first | exact (Kd.R_reads' HO_10.out).2.2 | (with_reducible refine Kd.C_alloc ?_ _) | (with_reducible refine Kd.C_drewN ?_ _) | (with_reducible refine Kd.C_drew ?_))); (case side4 => exact (Kd.R_reads' HO_10.out).2.1); rintro e w' ⟨rfl, ⟨nd, rfl⟩⟩; (try first | exact ⟨rfl, _, World.drewN_drewN _ _ _⟩ | exact ⟨rfl, _, Eq.trans (World.drewN_drewN _ _ _) (congrArg (World.drewN _) (Nat.add_assoc _ _ _))⟩)) | (go_at_call 95; (with_reducible refine (juntolaw02_alive.calls k2  t1589 _ A59.out (by first | rfl | exact HRT.out)).mono ?_); rintro e w69 ⟨rfl, hb⟩; have n0_ := Aside0.mk (Kd.V_below (by (with_reducible repeat (first | apply Kd.V_alloc | apply Kd.V_drewN | apply Kd.V_drew)); exact HO_7.out) hb); have n1_ := Aside0.mk (Kd.R_below (by (with_reducible repeat (first | apply Kd.R_alloc | apply Kd.R_drewN | apply Kd.R_drew)); exact HO_9.out) hb); have n2_ := Aside0.mk (Kd.R_below (by (with_reducible repeat (first | apply Kd.R_alloc | apply Kd.R_drewN | apply Kd.R_drew)); exact HO_10.out) hb); have n3_ := Aside0.mk (Kd.V_below (by (with_reducible repeat (first | apply Kd.V_alloc | apply Kd.V_drewN | apply Kd.V_drew)); exact HO_1555000.out) hb); have n4_ := Aside0.mk (Kd.R_below (by (with_reducible repeat (first | apply Kd.R_alloc | apply Kd.R_drewN | apply Kd.R_drew)); exact HO1577.out) hb); have n5_ := Aside0.mk (Kd.R_below (by (with_reducible repeat (first | apply Kd.R_alloc | apply Kd.R_drewN | apply Kd.R_drew)); exact HO1580.out) hb); have n6_ := Aside0.mk (Kd.R_below (by (with_reducible repeat (first | apply Kd.R_alloc | apply Kd.R_drewN | apply Kd.R_drew)); exact HO1586.out) hb); have n7_ := Aside0.mk (blk_below (g := gb1554) (o := .cells #[.slice A1_0 l1_0.length c1_0, .slice A1_1 l1_1.length c1_1] 90 (0, 0)) (by (with_reducible repeat (first | refine blk_drewN ?_ _ | refine blk_drew ?_ | refine blk_alloc ?_ _)); exact BK1554.out) hb); have n8_ := Aside0.mk (below_step (by repeat (first | (with_reducible first | exact HB.out | apply below_alloc | apply pw_below_drewN | apply below_drew1 | refine below_set ?_ GE1554.out) | exact HB.out)) hb); clear HO_7; clear HO_9; clear HO_10; clear HO_1555000; clear HO1577; clear HO1580; clear HO1586; clear BK1554; clear HB; have HO_7 := n0_; have HO_9 := n1_; have HO_10 := n2_; have HO_1555000 := n3_; have HO1577 := n4_; have HO1580 := n5_; have HO1586 := n6_; have BK1554 := n7_; have HB := n8_; clear n0_ n1_ n2_ n3_ n4_ n5_ n6_ n7_ n8_; (try clear hb); (try clear hb2); (try clear hk); (try clear hi)))
                        repeat (go_quiet (first | (go_at_call 91; (with_reducible refine (poly_Through.calls k2 a0 _ _ x9_2 t1574 t1575 _ ?side1 ?side2 A48.out).mono ?_); (case side1 => repeat (first | exact (Kd.R_reads' HO_9.out).2.2 | (with_reducible refine Kd.C_alloc ?_ _) | (with_reducible refine Kd.C_drewN ?_ _) | (with_reducible refine Kd.C_drew ?_))); (case side2 => exact (Kd.R_reads' HO_9.out).2.1); rintro e w61 ⟨v1576, rfl, ho0, hb⟩; have n0_ := Aside0.mk (Kd.V_elder' (by (with_reducible repeat (first | apply Kd.V_alloc | apply Kd.V_drewN | apply Kd.V_drew)); exact HO_7.out) (Kd.R_base ho0) hb); have n1_ := Aside0.mk (Kd.R_below (by (with_reducible repeat (first | apply Kd.R_alloc | apply Kd.R_drewN | apply Kd.R_drew)); exact HO_9.out) hb); have n2_ := Aside0.mk (Kd.R_elder' (by (with_reducible repeat (first | apply Kd.R_alloc | apply Kd.R_drewN | apply Kd.R_drew)); exact HO_10.out) (Kd.R_base ho0) hb); have n3_ := Aside0.mk (Kd.V_elder' (by (with_reducible repeat (first | apply Kd.V_alloc | apply Kd.V_drewN | apply Kd.V_drew)); exact HO_1555000.out) (Kd.R_base ho0) hb); have n4_ := Aside0.mk (Kd.R_lower (Kd.R_new' (Kd.R_newM (M := fun k_ => (w.heap.size ≤ k_)) ho0 (below_size (by repeat (first | (with_reducible first | exact HB.out | apply below_alloc | apply pw_below_drewN | apply below_drew1 | refine below_set ?_ GE1554.out) | exact HB.out))) (fun k_ h_ => h_)) (Kd.R_lt (by (with_reducible repeat (first | apply Kd.R_alloc | apply Kd.R_drewN | apply Kd.R_drew)); exact HO_10.out))) (below_size (by repeat (first | (with_reducible first | exact HB.out | apply below_alloc | apply pw_below_drewN | apply below_drew1 | refine below_set ?_ GE1554.out) | exact HB.out)))); have n5_ := Aside0.mk (blk_below (g := gb1554) (o := .cells #[.slice A1_0 l1_0.length c1_0, .slice A1_1 l1_1.length c1_1] 90 (0, 0)) (by (with_reducible repeat (first | refine blk_drewN ?_ _ | refine blk_drew ?_ | refine blk_alloc ?_ _)); exact BK1554.out) hb); have n6_ := Aside0.mk (below_step (by repeat (first | (with_reducible first | exact HB.out | apply below_alloc | apply pw_below_drewN | apply below_drew1 | refine below_set ?_ GE1554.out) | exact HB.out)) hb); clear HO_7; clear HO_9; clear HO_10; clear HO_1555000; clear BK1554; clear HB; have HO_7 := n0_; have HO_9 := n1_; have HO_10 := n2_; have HO_1555000 := n3_; have HO1577 := n4_; have BK1554 := n5_; have HB := n6_; clear n0_ n1_ n2_ n3_ n4_ n5_ n6_; (try clear hb); (try clear hb2); (try clear hk); (try clear hi); (try clear ho0)) | (go_at_call 96; (with_reducible refine (poly_Weights.calls k2 a0 (fun k_ => k_ < w.heap.size) _ _ l1_1 a2 t1578 t1581 _ ?side1 A49.out).mono ?_); (case side1 => exact Kd.V_mk HC1_1.out (Kd.F_below (Kd.C_F (Kd.heap_int .u64) HR1_1.out) (by repeat (first | (with_reducible first | exact HB.out | apply below_alloc | apply pw_below_drewN | apply below_drew1 | refine below_set ?_ GE1554.out) | exact HB.out)))); rintro e w62 ⟨v1579, rfl, ho0, hb⟩; have n0_ := Aside0.mk (Kd.V_elder' (by (with_reducible repeat (first | apply Kd.V_alloc | apply Kd.V_drewN | apply Kd.V_drew)); exact HO_7.out) (Kd.R_base ho0) hb); have n1_ := Aside0.mk (Kd.R_below (by (with_reducible repeat (first | apply Kd.R_alloc | apply Kd.R_drewN | apply Kd.R_drew)); exact HO_9.out) hb); have n2_ := Aside0.mk (Kd.R_elder' (by (with_reducible repeat (first | apply Kd.R_alloc | apply Kd.R_drewN | apply Kd.R_drew)); exact HO_10.out) (Kd.R_base ho0) hb); have n3_ := Aside0.mk (Kd.V_elder' (by (with_reducible repeat (first | apply Kd.V_alloc | apply Kd.V_drewN | apply Kd.V_drew)); exact HO_1555000.out) (Kd.R_base ho0) hb); have n4_ := Aside0.mk (Kd.R_elder' (by (with_reducible repeat (first | apply Kd.R_alloc | apply Kd.R_drewN | apply Kd.R_drew)); exact HO1577.out) (Kd.R_base ho0) hb); have n5_ := Aside0.mk (Kd.R_lower (Kd.R_new' (Kd.R_new' (Kd.R_newM (M := fun k_ => (w.heap.size ≤ k_)) (Kd.R_mono (ok' := fun k_ => True) ho0 (fun _ hk_ => trivial)) (below_size (by repeat (first | (with_reducible first | exact HB.out | apply below_alloc | apply pw_below_drewN | apply below_drew1 | refine below_set ?_ GE1554.out) | exact HB.out))) (fun k_ h_ => h_)) (Kd.R_lt (by (with_reducible repeat (first | apply Kd.R_alloc | apply Kd.R_drewN | apply Kd.R_drew)); exact HO_10.out))) (Kd.R_lt (by (with_reducible repeat (first | apply Kd.R_alloc | apply Kd.R_drewN | apply Kd.R_drew)); exact HO1577.out))) (below_size (by repeat (first | (with_reducible first | exact HB.out | apply below_alloc | apply pw_below_drewN | apply below_drew1 | refine below_set ?_ GE1554.out) | exact HB.out)))); have n6_ := Aside0.mk (blk_below (g := gb1554) (o := .cells #[.slice A1_0 l1_0.length c1_0, .slice A1_1 l1_1.length c1_1] 90 (0, 0)) (by (with_reducible repeat (first | refine blk_drewN ?_ _ | refine blk_drew ?_ | refine blk_alloc ?_ _)); exact BK1554.out) hb); have n7_ := Aside0.mk (below_step (by repeat (first | (with_reducible first | exact HB.out | apply below_alloc | apply pw_below_drewN | apply below_drew1 | refine below_set ?_ GE1554.out) | exact HB.out)) hb); clear HO_7; clear HO_9; clear HO_10; clear HO_1555000; clear HO1577; clear BK1554; clear HB; have HO_7 := n0_; have HO_9 := n1_; have HO_10 := n2_; have HO_1555000 := n3_; have HO1577 := n4_; have HO1580 := n5_; have BK1554 := n6_; have HB := n7_; clear n0_ n1_ n2_ n3_ n4_ n5_ n6_ n7_; (try clear hb); (try clear hb2); (try clear hk); (try clear hi); (try clear ho0)) | (go_at_call 107; (with_reducible refine (poly_Eval.calls k2 a0 (fun k_ => ((((P1_0_ k_ ∨ w.heap.size ≤ k_) ∧ (some k_ ≠ (.slice Ao60 x9_2.length co60 : Value).ownBlock ∧ (some k_ ≠ (u10 : Value).ownBlock ∧ k_ ≠ gb1554))) ∧ some k_ ≠ (v1576 : Value).ownBlock) ∧ some k_ ≠ (v1579 : Value).ownBlock)) _ _ l1_0 a2 t1582 t1583 _ ?side1 A50.out).mono ?_); (case side1 => exact HO_7.out); rintro e w63 ⟨rfl, hb⟩; have n0_ := Aside0.mk (Kd.V_below (by (with_reducible repeat (first | apply Kd.V_alloc | apply Kd.V_drewN | apply Kd.V_drew)); exact HO_7.out) hb); have n1_ := Aside0.mk (Kd.R_below (by (with_reducible repeat (first | apply Kd.R_alloc | apply Kd.R_drewN | apply Kd.R_drew)); exact HO_9.out) hb); have n2_ := Aside0.mk (Kd.R_below (by (with_reducible repeat (first | apply Kd.R_alloc | apply Kd.R_drewN | apply Kd.R_drew)); exact HO_10.out) hb); have n3_ := Aside0.mk (Kd.V_below (by (with_reducible repeat (first | apply Kd.V_alloc | apply Kd.V_drewN | apply Kd.V_drew)); exact HO_1555000.out) hb); have n4_ := Aside0.mk (Kd.R_below (by (with_reducible repeat (first | apply Kd.R_alloc | apply Kd.R_drewN | apply Kd.R_drew)); exact HO1577.out) hb); have n5_ := Aside0.mk (Kd.R_below (by (with_reducible repeat (first | apply Kd.R_alloc | apply Kd.R_drewN | apply Kd.R_drew)); exact HO1580.out) hb); have n6_ := Aside0.mk (blk_below (g := gb1554) (o := .cells #[.slice A1_0 l1_0.length c1_0, .slice A1_1 l1_1.length c1_1] 90 (0, 0)) (by (with_reducible repeat (first | refine blk_drewN ?_ _ | refine blk_drew ?_ | refine blk_alloc ?_ _)); exact BK1554.out) hb); have n7_ := Aside0.mk (below_step (by repeat (first | (with_reducible first | exact HB.out | apply below_alloc | apply pw_below_drewN | apply below_drew1 | refine below_set ?_ GE1554.out) | exact HB.out)) hb); clear HO_7; clear HO_9; clear HO_10; clear HO_1555000; clear HO1577; clear HO1580; clear BK1554; clear HB; have HO_7 := n0_; have HO_9 := n1_; have HO_10 := n2_; have HO_1555000 := n3_; have HO1577 := n4_; have HO1580 := n5_; have BK1554 := n6_; have HB := n7_; clear n0_ n1_ n2_ n3_ n4_ n5_ n6_ n7_; (try clear hb); (try clear hb2); (try clear hk); (try clear hi)) | (go_at_call 60; (with_reducible refine (juntoref02_Trim.calls k2 _ _ l1_0 t1584 _ ?side1 ?side2 A52.out).mono ?_); (case side1 => repeat (first | exact (Kd.V_reads' HO_7.out).2.2 | (with_reducible refine Kd.C_alloc ?_ _) | (with_reducible refine Kd.C_drewN ?_ _) | (with_reducible refine Kd.C_drew ?_))); (case side2 => exact (Kd.V_reads' HO_7.out).2.1); rintro e w64 ⟨v1585, rfl, ho0, hb⟩; have n0_ := Aside0.mk (Kd.V_elder' (by (with_reducible repeat (first | apply Kd.V_alloc | apply Kd.V_drewN | apply Kd.V_drew)); exact HO_7.out) (Kd.R_base ho0) hb); have n1_ := Aside0.mk (Kd.R_below (by (with_reducible repeat (first | apply Kd.R_alloc | apply Kd.R_drewN | apply Kd.R_drew)); exact HO_9.out) hb); have n2_ := Aside0.mk (Kd.R_elder' (by (with_reducible repeat (first | apply Kd.R_alloc | apply Kd.R_drewN | apply Kd.R_drew)); exact HO_10.out) (Kd.R_base ho0) hb); have n3_ := Aside0.mk (Kd.V_elder' (by (with_reducible repeat (first | apply Kd.V_alloc | apply Kd.V_drewN | apply Kd.V_drew)); exact HO_1555000.out) (Kd.R_base ho0) hb); have n4_ := Aside0.mk (Kd.R_elder' (by (with_reducible repeat (first | apply Kd.R_alloc | apply Kd.R_drewN | apply Kd.R_drew)); exact HO1577.out) (Kd.R_base ho0) hb); have n5_ := Aside0.mk (Kd.R_elder' (by (with_reducible repeat (first | apply Kd.R_alloc | apply Kd.R_drewN | apply Kd.R_drew)); exact HO1580.out) (Kd.R_base ho0) hb); have n6_ := Aside0.mk (Kd.R_lower (Kd.R_new' (Kd.R_new' (Kd.R_new' (Kd.R_newM (M := fun k_ => (w.heap.size ≤ k_)) ho0 (below_size (by repeat (first | (with_reducible first | exact HB.out | apply below_alloc | apply pw_below_drewN | apply below_drew1 | refine below_set ?_ GE1554.out) | exact HB.out))) (fun k_ h_ => h_)) (Kd.R_lt (by (with_reducible repeat (first | apply Kd.R_alloc | apply Kd.R_drewN | apply Kd.R_drew)); exact HO_10.out))) (Kd.R_lt (by (with_reducible repeat (first | apply Kd.R_alloc | apply Kd.R_drewN | apply Kd.R_drew)); exact HO1577.out))) (Kd.R_lt (by (with_reducible repeat (first | apply Kd.R_alloc | apply Kd.R_drewN | apply Kd.R_drew)); exact HO1580.out))) (below_size (by repeat (first | (with_reducible first | exact HB.out | apply below_alloc | apply pw_below_drewN | apply below_drew1 | refine below_set ?_ GE1554.out) | exact HB.out)))); have n7_ := Aside0.mk (blk_below (g := gb1554) (o := .cells #[.slice A1_0 l1_0.length c1_0, .slice A1_1 l1_1.length c1_1] 90 (0, 0)) (by (with_reducible repeat (first | refine blk_drewN ?_ _ | refine blk_drew ?_ | refine blk_alloc ?_ _)); exact BK1554.out) hb); have n8_ := Aside0.mk (below_step (by repeat (first | (with_reducible first | exact HB.out | apply below_alloc | apply pw_below_drewN | apply below_drew1 | refine below_set ?_ GE1554.out) | exact HB.out)) hb); clear HO_7; clear HO_9; clear HO_10; clear HO_1555000; clear HO1577; clear HO1580; clear BK1554; clear HB; have HO_7 := n0_; have HO_9 := n1_; have HO_10 := n2_; have HO_1555000 := n3_; have HO1577 := n4_; have HO1580 := n5_; have HO1586 := n6_; have BK1554 := n7_; have HB := n8_; clear n0_ n1_ n2_ n3_ n4_ n5_ n6_ n7_ n8_; (try clear hb); (try clear hb2); (try clear hk); (try clear hi); (try clear ho0); obtain ⟨Ao65, co65, eo65⟩ := Kd.R_slice HO1577.out; subst eo65; obtain ⟨Ao66, co66, eo66⟩ := Kd.R_slice HO1586.out; subst eo66) | (go_at_call 45; (with_reducible refine (juntoref01_Same.calls k2 _ _ t1574 _ _ t1584 true _ ?side1 ?side2 ?side3 ?side4 A53.out).mono ?_); (case side1 => repeat (first | exact (Kd.R_reads' HO1577.out).2.2 | (with_reducible refine Kd.C_alloc ?_ _) | (with_reducible refine Kd.C_drewN ?_ _) | (with_reducible refine Kd.C_drew ?_))); (case side2 => exact (Kd.R_reads' HO1577.out).2.1); (case side3 => repeat (first | exact (Kd.R_reads' HO1586.out).2.2 | (with_reducible refine Kd.C_alloc ?_ _) | (with_reducible refine Kd.C_drewN ?_ _) | (with_reducible refine Kd.C_drew ?_))); (case side4 => exact (Kd.R_reads' HO1586.out).2.1); rintro e w' ⟨rfl, ⟨nd, rfl⟩⟩; (try first | exact ⟨rfl, _, World.drewN_drewN _ _ _⟩ | exact ⟨rfl, _, Eq.trans (World.drewN_drewN _ _ _) (congrArg (World.drewN _) (Nat.add_assoc _ _ _))⟩); obtain ⟨Ao67, co67, eo67⟩ := Kd.R_slice HO1580.out; subst eo67; obtain ⟨Ao68, co68, eo68⟩ := Kd.R_slice HO_10.out; subst eo68) | (go_at_call 108; (with_reducible refine (juntoref01_Dot.calls k2 a0 _ _ t1578 _ _ x10_2 t1588 _ ?side1 ?side2 ?side3 ?side4 A57.out).mono ?_); (case side1 => repeat (first | exact (Kd.R_reads' HO1580.out).2.2 | (with_reducible refine Kd.C_alloc ?_ _) | (with_reducible refine Kd.C_drewN ?_ _) | (with_reducible refine Kd.C_drew ?_))); (case side2 => exact (Kd.R_reads' HO1580.out).2.1); (case side3 => repeat (first | exact (Kd.R_reads' HO_10.out).2.2 | (with_reducible refine Kd.C_alloc ?_ _) | (with_reducible refine Kd.C_drewN ?_ _) | (with_reducible refine Kd.C_drew ?_))); (case side4 => exact (Kd.R_reads' HO_10.out).2.1); rintro e w' ⟨rfl, ⟨nd, rfl⟩⟩; (try first | exact ⟨rfl, _, World.drewN_drewN _ _ _⟩ | exact ⟨rfl, _, Eq.trans (World.drewN_drewN _ _ _) (congrArg (World.drewN _) (Nat.add_assoc _ _ _))⟩)) | (go_at_call 95; (with_reducible refine (juntolaw02_alive.calls k2  t1589 _ A59.out (by first | rfl | exact HRT.out)).mono ?_); rintro e w69 ⟨rfl, hb⟩; have n0_ := Aside0.mk (Kd.V_below (by (with_reducible repeat (first | apply Kd.V_alloc | apply Kd.V_drewN | apply Kd.V_drew)); exact HO_7.out) hb); have n1_ := Aside0.mk (Kd.R_below (by (with_reducible repeat (first | apply Kd.R_alloc | apply Kd.R_drewN | apply Kd.R_drew)); exact HO_9.out) hb); have n2_ := Aside0.mk (Kd.R_below (by (with_reducible repeat (first | apply Kd.R_alloc | apply Kd.R_drewN | apply Kd.R_drew)); exact HO_10.out) hb); have n3_ := Aside0.mk (Kd.V_below (by (with_reducible repeat (first | apply Kd.V_alloc | apply Kd.V_drewN | apply Kd.V_drew)); exact HO_1555000.out) hb); have n4_ := Aside0.mk (Kd.R_below (by (with_reducible repeat (first | apply Kd.R_alloc | apply Kd.R_drewN | apply Kd.R_drew)); exact HO1577.out) hb); have n5_ := Aside0.mk (Kd.R_below (by (with_reducible repeat (first | apply Kd.R_alloc | apply Kd.R_drewN | apply Kd.R_drew)); exact HO1580.out) hb); have n6_ := Aside0.mk (Kd.R_below (by (with_reducible repeat (first | apply Kd.R_alloc | apply Kd.R_drewN | apply Kd.R_drew)); exact HO1586.out) hb); have n7_ := Aside0.mk (blk_below (g := gb1554) (o := .cells #[.slice A1_0 l1_0.length c1_0, .slice A1_1 l1_1.length c1_1] 90 (0, 0)) (by (with_reducible repeat (first | refine blk_drewN ?_ _ | refine blk_drew ?_ | refine blk_alloc ?_ _)); exact BK1554.out) hb); have n8_ := Aside0.mk (below_step (by repeat (first | (with_reducible first | exact HB.out | apply below_alloc | apply pw_below_drewN | apply below_drew1 | refine below_set ?_ GE1554.out) | exact HB.out)) hb); clear HO_7; clear HO_9; clear HO_10; clear HO_1555000; clear HO1577; clear HO1580; clear HO1586; clear BK1554; clear HB; have HO_7 := n0_; have HO_9 := n1_; have HO_10 := n2_; have HO_1555000 := n3_; have HO1577 := n4_; have HO1580 := n5_; have HO1586 := n6_; have BK1554 := n7_; have HB := n8_; clear n0_ n1_ n2_ n3_ n4_ n5_ n6_ n7_ n8_; (try clear hb); (try clear hb2); (try clear hk); (try clear hi))); try go_wp2_with (first | (go_at_call 91; (with_reducible refine (poly_Through.calls k2 a0 _ _ x9_2 t1574 t1575 _ ?side1 ?side2 A48.out).mono ?_); (case side1 => repeat (first | exact (Kd.R_reads' HO_9.out).2.2 | (with_reducible refine Kd.C_alloc ?_ _) | (with_reducible refine Kd.C_drewN ?_ _) | (with_reducible refine Kd.C_drew ?_))); (case side2 => exact (Kd.R_reads' HO_9.out).2.1); rintro e w61 ⟨v1576, rfl, ho0, hb⟩; have n0_ := Aside0.mk (Kd.V_elder' (by (with_reducible repeat (first | apply Kd.V_alloc | apply Kd.V_drewN | apply Kd.V_drew)); exact HO_7.out) (Kd.R_base ho0) hb); have n1_ := Aside0.mk (Kd.R_below (by (with_reducible repeat (first | apply Kd.R_alloc | apply Kd.R_drewN | apply Kd.R_drew)); exact HO_9.out) hb); have n2_ := Aside0.mk (Kd.R_elder' (by (with_reducible repeat (first | apply Kd.R_alloc | apply Kd.R_drewN | apply Kd.R_drew)); exact HO_10.out) (Kd.R_base ho0) hb); have n3_ := Aside0.mk (Kd.V_elder' (by (with_reducible repeat (first | apply Kd.V_alloc | apply Kd.V_drewN | apply Kd.V_drew)); exact HO_1555000.out) (Kd.R_base ho0) hb); have n4_ := Aside0.mk (Kd.R_lower (Kd.R_new' (Kd.R_newM (M := fun k_ => (w.heap.size ≤ k_)) ho0 (below_size (by repeat (first | (with_reducible first | exact HB.out | apply below_alloc | apply pw_below_drewN | apply below_drew1 | refine below_set ?_ GE1554.out) | exact HB.out))) (fun k_ h_ => h_)) (Kd.R_lt (by (with_reducible repeat (first | apply Kd.R_alloc | apply Kd.R_drewN | apply Kd.R_drew)); exact HO_10.out))) (below_size (by repeat (first | (with_reducible first | exact HB.out | apply below_alloc | apply pw_below_drewN | apply below_drew1 | refine below_set ?_ GE1554.out) | exact HB.out)))); have n5_ := Aside0.mk (blk_below (g := gb1554) (o := .cells #[.slice A1_0 l1_0.length c1_0, .slice A1_1 l1_1.length c1_1] 90 (0, 0)) (by (with_reducible repeat (first | refine blk_drewN ?_ _ | refine blk_drew ?_ | refine blk_alloc ?_ _)); exact BK1554.out) hb); have n6_ := Aside0.mk (below_step (by repeat (first | (with_reducible first | exact HB.out | apply below_alloc | apply pw_below_drewN | apply below_drew1 | refine below_set ?_ GE1554.out) | exact HB.out)) hb); clear HO_7; clear HO_9; clear HO_10; clear HO_1555000; clear BK1554; clear HB; have HO_7 := n0_; have HO_9 := n1_; have HO_10 := n2_; have HO_1555000 := n3_; have HO1577 := n4_; have BK1554 := n5_; have HB := n6_; clear n0_ n1_ n2_ n3_ n4_ n5_ n6_; (try clear hb); (try clear hb2); (try clear hk); (try clear hi); (try clear ho0)) | (go_at_call 96; (with_reducible refine (poly_Weights.calls k2 a0 (fun k_ => k_ < w.heap.size) _ _ l1_1 a2 t1578 t1581 _ ?side1 A49.out).mono ?_); (case side1 => exact Kd.V_mk HC1_1.out (Kd.F_below (Kd.C_F (Kd.heap_int .u64) HR1_1.out) (by repeat (first | (with_reducible first | exact HB.out | apply below_alloc | apply pw_below_drewN | apply below_drew1 | refine below_set ?_ GE1554.out) | exact HB.out)))); rintro e w62 ⟨v1579, rfl, ho0, hb⟩; have n0_ := Aside0.mk (Kd.V_elder' (by (with_reducible repeat (first | apply Kd.V_alloc | apply Kd.V_drewN | apply Kd.V_drew)); exact HO_7.out) (Kd.R_base ho0) hb); have n1_ := Aside0.mk (Kd.R_below (by (with_reducible repeat (first | apply Kd.R_alloc | apply Kd.R_drewN | apply Kd.R_drew)); exact HO_9.out) hb); have n2_ := Aside0.mk (Kd.R_elder' (by (with_reducible repeat (first | apply Kd.R_alloc | apply Kd.R_drewN | apply Kd.R_drew)); exact HO_10.out) (Kd.R_base ho0) hb); have n3_ := Aside0.mk (Kd.V_elder' (by (with_reducible repeat (first | apply Kd.V_alloc | apply Kd.V_drewN | apply Kd.V_drew)); exact HO_1555000.out) (Kd.R_base ho0) hb); have n4_ := Aside0.mk (Kd.R_elder' (by (with_reducible repeat (first | apply Kd.R_alloc | apply Kd.R_drewN | apply Kd.R_drew)); exact HO1577.out) (Kd.R_base ho0) hb); have n5_ := Aside0.mk (Kd.R_lower (Kd.R_new' (Kd.R_new' (Kd.R_newM (M := fun k_ => (w.heap.size ≤ k_)) (Kd.R_mono (ok' := fun k_ => True) ho0 (fun _ hk_ => trivial)) (below_size (by repeat (first | (with_reducible first | exact HB.out | apply below_alloc | apply pw_below_drewN | apply below_drew1 | refine below_set ?_ GE1554.out) | exact HB.out))) (fun k_ h_ => h_)) (Kd.R_lt (by (with_reducible repeat (first | apply Kd.R_alloc | apply Kd.R_drewN | apply Kd.R_drew)); exact HO_10.out))) (Kd.R_lt (by (with_reducible repeat (first | apply Kd.R_alloc | apply Kd.R_drewN | apply Kd.R_drew)); exact HO1577.out))) (below_size (by repeat (first | (with_reducible first | exact HB.out | apply below_alloc | apply pw_below_drewN | apply below_drew1 | refine below_set ?_ GE1554.out) | exact HB.out)))); have n6_ := Aside0.mk (blk_below (g := gb1554) (o := .cells #[.slice A1_0 l1_0.length c1_0, .slice A1_1 l1_1.length c1_1] 90 (0, 0)) (by (with_reducible repeat (first | refine blk_drewN ?_ _ | refine blk_drew ?_ | refine blk_alloc ?_ _)); exact BK1554.out) hb); have n7_ := Aside0.mk (below_step (by repeat (first | (with_reducible first | exact HB.out | apply below_alloc | apply pw_below_drewN | apply below_drew1 | refine below_set ?_ GE1554.out) | exact HB.out)) hb); clear HO_7; clear HO_9; clear HO_10; clear HO_1555000; clear HO1577; clear BK1554; clear HB; have HO_7 := n0_; have HO_9 := n1_; have HO_10 := n2_; have HO_1555000 := n3_; have HO1577 := n4_; have HO1580 := n5_; have BK1554 := n6_; have HB := n7_; clear n0_ n1_ n2_ n3_ n4_ n5_ n6_ n7_; (try clear hb); (try clear hb2); (try clear hk); (try clear hi); (try clear ho0)) | (go_at_call 107; (with_reducible refine (poly_Eval.calls k2 a0 (fun k_ => ((((P1_0_ k_ ∨ w.heap.size ≤ k_) ∧ (some k_ ≠ (.slice Ao60 x9_2.length co60 : Value).ownBlock ∧ (some k_ ≠ (u10 : Value).ownBlock ∧ k_ ≠ gb1554))) ∧ some k_ ≠ (v1576 : Value).ownBlock) ∧ some k_ ≠ (v1579 : Value).ownBlock)) _ _ l1_0 a2 t1582 t1583 _ ?side1 A50.out).mono ?_); (case side1 => exact HO_7.out); rintro e w63 ⟨rfl, hb⟩; have n0_ := Aside0.mk (Kd.V_below (by (with_reducible repeat (first | apply Kd.V_alloc | apply Kd.V_drewN | apply Kd.V_drew)); exact HO_7.out) hb); have n1_ := Aside0.mk (Kd.R_below (by (with_reducible repeat (first | apply Kd.R_alloc | apply Kd.R_drewN | apply Kd.R_drew)); exact HO_9.out) hb); have n2_ := Aside0.mk (Kd.R_below (by (with_reducible repeat (first | apply Kd.R_alloc | apply Kd.R_drewN | apply Kd.R_drew)); exact HO_10.out) hb); have n3_ := Aside0.mk (Kd.V_below (by (with_reducible repeat (first | apply Kd.V_alloc | apply Kd.V_drewN | apply Kd.V_drew)); exact HO_1555000.out) hb); have n4_ := Aside0.mk (Kd.R_below (by (with_reducible repeat (first | apply Kd.R_alloc | apply Kd.R_drewN | apply Kd.R_drew)); exact HO1577.out) hb); have n5_ := Aside0.mk (Kd.R_below (by (with_reducible repeat (first | apply Kd.R_alloc | apply Kd.R_drewN | apply Kd.R_drew)); exact HO1580.out) hb); have n6_ := Aside0.mk (blk_below (g := gb1554) (o := .cells #[.slice A1_0 l1_0.length c1_0, .slice A1_1 l1_1.length c1_1] 90 (0, 0)) (by (with_reducible repeat (first | refine blk_drewN ?_ _ | refine blk_drew ?_ | refine blk_alloc ?_ _)); exact BK1554.out) hb); have n7_ := Aside0.mk (below_step (by repeat (first | (with_reducible first | exact HB.out | apply below_alloc | apply pw_below_drewN | apply below_drew1 | refine below_set ?_ GE1554.out) | exact HB.out)) hb); clear HO_7; clear HO_9; clear HO_10; clear HO_1555000; clear HO1577; clear HO1580; clear BK1554; clear HB; have HO_7 := n0_; have HO_9 := n1_; have HO_10 := n2_; have HO_1555000 := n3_; have HO1577 := n4_; have HO1580 := n5_; have BK1554 := n6_; have HB := n7_; clear n0_ n1_ n2_ n3_ n4_ n5_ n6_ n7_; (try clear hb); (try clear hb2); (try clear hk); (try clear hi)) | (go_at_call 60; (with_reducible refine (juntoref02_Trim.calls k2 _ _ l1_0 t1584 _ ?side1 ?side2 A52.out).mono ?_); (case side1 => repeat (first | exact (Kd.V_reads' HO_7.out).2.2 | (with_reducible refine Kd.C_alloc ?_ _) | (with_reducible refine Kd.C_drewN ?_ _) | (with_reducible refine Kd.C_drew ?_))); (case side2 => exact (Kd.V_reads' HO_7.out).2.1); rintro e w64 ⟨v1585, rfl, ho0, hb⟩; have n0_ := Aside0.mk (Kd.V_elder' (by (with_reducible repeat (first | apply Kd.V_alloc | apply Kd.V_drewN | apply Kd.V_drew)); exact HO_7.out) (Kd.R_base ho0) hb); have n1_ := Aside0.mk (Kd.R_below (by (with_reducible repeat (first | apply Kd.R_alloc | apply Kd.R_drewN | apply Kd.R_drew)); exact HO_9.out) hb); have n2_ := Aside0.mk (Kd.R_elder' (by (with_reducible repeat (first | apply Kd.R_alloc | apply Kd.R_drewN | apply Kd.R_drew)); exact HO_10.out) (Kd.R_base ho0) hb); have n3_ := Aside0.mk (Kd.V_elder' (by (with_reducible repeat (first | apply Kd.V_alloc | apply Kd.V_drewN | apply Kd.V_drew)); exact HO_1555000.out) (Kd.R_base ho0) hb); have n4_ := Aside0.mk (Kd.R_elder' (by (with_reducible repeat (first | apply Kd.R_alloc | apply Kd.R_drewN | apply Kd.R_drew)); exact HO1577.out) (Kd.R_base ho0) hb); have n5_ := Aside0.mk (Kd.R_elder' (by (with_reducible repeat (first | apply Kd.R_alloc | apply Kd.R_drewN | apply Kd.R_drew)); exact HO1580.out) (Kd.R_base ho0) hb); have n6_ := Aside0.mk (Kd.R_lower (Kd.R_new' (Kd.R_new' (Kd.R_new' (Kd.R_newM (M := fun k_ => (w.heap.size ≤ k_)) ho0 (below_size (by repeat (first | (with_reducible first | exact HB.out | apply below_alloc | apply pw_below_drewN | apply below_drew1 | refine below_set ?_ GE1554.out) | exact HB.out))) (fun k_ h_ => h_)) (Kd.R_lt (by (with_reducible repeat (first | apply Kd.R_alloc | apply Kd.R_drewN | apply Kd.R_drew)); exact HO_10.out))) (Kd.R_lt (by (with_reducible repeat (first | apply Kd.R_alloc | apply Kd.R_drewN | apply Kd.R_drew)); exact HO1577.out))) (Kd.R_lt (by (with_reducible repeat (first | apply Kd.R_alloc | apply Kd.R_drewN | apply Kd.R_drew)); exact HO1580.out))) (below_size (by repeat (first | (with_reducible first | exact HB.out | apply below_alloc | apply pw_below_drewN | apply below_drew1 | refine below_set ?_ GE1554.out) | exact HB.out)))); have n7_ := Aside0.mk (blk_below (g := gb1554) (o := .cells #[.slice A1_0 l1_0.length c1_0, .slice A1_1 l1_1.length c1_1] 90 (0, 0)) (by (with_reducible repeat (first | refine blk_drewN ?_ _ | refine blk_drew ?_ | refine blk_alloc ?_ _)); exact BK1554.out) hb); have n8_ := Aside0.mk (below_step (by repeat (first | (with_reducible first | exact HB.out | apply below_alloc | apply pw_below_drewN | apply below_drew1 | refine below_set ?_ GE1554.out) | exact HB.out)) hb); clear HO_7; clear HO_9; clear HO_10; clear HO_1555000; clear HO1577; clear HO1580; clear BK1554; clear HB; have HO_7 := n0_; have HO_9 := n1_; have HO_10 := n2_; have HO_1555000 := n3_; have HO1577 := n4_; have HO1580 := n5_; have HO1586 := n6_; have BK1554 := n7_; have HB := n8_; clear n0_ n1_ n2_ n3_ n4_ n5_ n6_ n7_ n8_; (try clear hb); (try clear hb2); (try clear hk); (try clear hi); (try clear ho0); obtain ⟨Ao65, co65, eo65⟩ := Kd.R_slice HO1577.out; subst eo65; obtain ⟨Ao66, co66, eo66⟩ := Kd.R_slice HO1586.out; subst eo66) | (go_at_call 45; (with_reducible refine (juntoref01_Same.calls k2 _ _ t1574 _ _ t1584 true _ ?side1 ?side2 ?side3 ?side4 A53.out).mono ?_); (case side1 => repeat (first | exact (Kd.R_reads' HO1577.out).2.2 | (with_reducible refine Kd.C_alloc ?_ _) | (with_reducible refine Kd.C_drewN ?_ _) | (with_reducible refine Kd.C_drew ?_))); (case side2 => exact (Kd.R_reads' HO1577.out).2.1); (case side3 => repeat (first | exact (Kd.R_reads' HO1586.out).2.2 | (with_reducible refine Kd.C_alloc ?_ _) | (with_reducible refine Kd.C_drewN ?_ _) | (with_reducible refine Kd.C_drew ?_))); (case side4 => exact (Kd.R_reads' HO1586.out).2.1); rintro e w' ⟨rfl, ⟨nd, rfl⟩⟩; (try first | exact ⟨rfl, _, World.drewN_drewN _ _ _⟩ | exact ⟨rfl, _, Eq.trans (World.drewN_drewN _ _ _) (congrArg (World.drewN _) (Nat.add_assoc _ _ _))⟩); obtain ⟨Ao67, co67, eo67⟩ := Kd.R_slice HO1580.out; subst eo67; obtain ⟨Ao68, co68, eo68⟩ := Kd.R_slice HO_10.out; subst eo68) | (go_at_call 108; (with_reducible refine (juntoref01_Dot.calls k2 a0 _ _ t1578 _ _ x10_2 t1588 _ ?side1 ?side2 ?side3 ?side4 A57.out).mono ?_); (case side1 => repeat (first | exact (Kd.R_reads' HO1580.out).2.2 | (with_reducible refine Kd.C_alloc ?_ _) | (with_reducible refine Kd.C_drewN ?_ _) | (with_reducible refine Kd.C_drew ?_))); (case side2 => exact (Kd.R_reads' HO1580.out).2.1); (case side3 => repeat (first | exact (Kd.R_reads' HO_10.out).2.2 | (with_reducible refine Kd.C_alloc ?_ _) | (with_reducible refine Kd.C_drewN ?_ _) | (with_reducible refine Kd.C_drew ?_))); (case side4 => exact (Kd.R_reads' HO_10.out).2.1); rintro e w' ⟨rfl, ⟨nd, rfl⟩⟩; (try first | exact ⟨rfl, _, World.drewN_drewN _ _ _⟩ | exact ⟨rfl, _, Eq.trans (World.drewN_drewN _ _ _) (congrArg (World.drewN _) (Nat.add_assoc _ _ _))⟩)) | (go_at_call 95; (with_reducible refine (juntolaw02_alive.calls k2  t1589 _ A59.out (by first | rfl | exact HRT.out)).mono ?_); rintro e w69 ⟨rfl, hb⟩; have n0_ := Aside0.mk (Kd.V_below (by (with_reducible repeat (first | apply Kd.V_alloc | apply Kd.V_drewN | apply Kd.V_drew)); exact HO_7.out) hb); have n1_ := Aside0.mk (Kd.R_below (by (with_reducible repeat (first | apply Kd.R_alloc | apply Kd.R_drewN | apply Kd.R_drew)); exact HO_9.out) hb); have n2_ := Aside0.mk (Kd.R_below (by (with_reducible repeat (first | apply Kd.R_alloc | apply Kd.R_drewN | apply Kd.R_drew)); exact HO_10.out) hb); have n3_ := Aside0.mk (Kd.V_below (by (with_reducible repeat (first | apply Kd.V_alloc | apply Kd.V_drewN | apply Kd.V_drew)); exact HO_1555000.out) hb); have n4_ := Aside0.mk (Kd.R_below (by (with_reducible repeat (first | apply Kd.R_alloc | apply Kd.R_drewN | apply Kd.R_drew)); exact HO1577.out) hb); have n5_ := Aside0.mk (Kd.R_below (by (with_reducible repeat (first | apply Kd.R_alloc | apply Kd.R_drewN | apply Kd.R_drew)); exact HO1580.out) hb); have n6_ := Aside0.mk (Kd.R_below (by (with_reducible repeat (first | apply Kd.R_alloc | apply Kd.R_drewN | apply Kd.R_drew)); exact HO1586.out) hb); have n7_ := Aside0.mk (blk_below (g := gb1554) (o := .cells #[.slice A1_0 l1_0.length c1_0, .slice A1_1 l1_1.length c1_1] 90 (0, 0)) (by (with_reducible repeat (first | refine blk_drewN ?_ _ | refine blk_drew ?_ | refine blk_alloc ?_ _)); exact BK1554.out) hb); have n8_ := Aside0.mk (below_step (by repeat (first | (with_reducible first | exact HB.out | apply below_alloc | apply pw_below_drewN | apply below_drew1 | refine below_set ?_ GE1554.out) | exact HB.out)) hb); clear HO_7; clear HO_9; clear HO_10; clear HO_1555000; clear HO1577; clear HO1580; clear HO1586; clear BK1554; clear HB; have HO_7 := n0_; have HO_9 := n1_; have HO_10 := n2_; have HO_1555000 := n3_; have HO1577 := n4_; have HO1580 := n5_; have HO1586 := n6_; have BK1554 := n7_; have HB := n8_; clear n0_ n1_ n2_ n3_ n4_ n5_ n6_ n7_ n8_; (try clear hb); (try clear hb2); (try clear hk); (try clear hi))))
                        go_ret
                        exact ⟨by first | rfl | (simp [errW_none, errW_some] <;> rfl) | (simp [*, errW_none, errW_some] <;> rfl), by repeat (first | (with_reducible first | exact HB.out | apply below_alloc | apply pw_below_drewN | apply below_drew1 | refine below_set ?_ GE1554.out) | exact HB.out)⟩
                      · rw [if_neg c58] at H
                        have c58b0 : (t1588 == t1582) = false := beq_eq_false_iff_ne.mpr c58
                        have c58b1 : (t1588 != t1582) = true := bne_iff_ne.mpr c58
                        exact absurd ((Option.some.inj H).trans HRT.out) (by decide)
                    · rw [if_neg c56] at H
                      have c56b0 : ((t1578.length : Int) == (x10_2.length : Int)) = false := beq_eq_false_iff_ne.mpr c56
                      have c56b1 : ((t1578.length : Int) != (x10_2.length : Int)) = true := bne_iff_ne.mpr c56
                      have c56b2 : (t1578.length == x10_2.length) = false := by first | simpa using c56 | (simp at c56 ⊢; omega)
                      exact absurd ((Option.some.inj H).trans HRT.out) (by decide)
                  · rw [if_neg c55] at H
                    have c55b0 : (t1581 == 0) = false := beq_eq_false_iff_ne.mpr c55
                    have c55b1 : (t1581 != 0) = true := bne_iff_ne.mpr c55
                    exact absurd ((Option.some.inj H).trans HRT.out) (by decide)
                · replace c54 := Bool.eq_false_iff.mpr c54
                  subst c54
                  have H1 : (some false) = some r := by rw [if_neg (show ¬ (false = true) by decide)] at H; exact H
                  clear H
                  have H := H1
                  clear H1
                  exact absurd ((Option.some.inj H).trans HRT.out) (by decide)
              · rw [if_neg c51] at H
                have c51b0 : (t1575 == 0) = false := beq_eq_false_iff_ne.mpr c51
                have c51b1 : (t1575 != 0) = true := bne_iff_ne.mpr c51
                exact absurd ((Option.some.inj H).trans HRT.out) (by decide)

end Go.Proofs.Ytjjnfobeeflnhaa.J

/- Both tests of a prime and rows of coefficients answer alike, and what they answer; the chapter's example holds. -/
namespace Go.Proofs.Ytjjnfobeeflnhaa.L
open Go.RowKit Go.Proofs.YtjjnfobeeflnhaaW.PrintWords Go.Proofs.Ytjjnfobeeflnhaa.J
set_option linter.unusedVariables false
set_option linter.unusedSimpArgs false

theorem alive02 : Ev (fun k => juntolaw02_alive.f k) true := Ev.of juntolaw02_alive.mono (k := 60) (by decide +kernel)

/-- What both tests answer: 0, 2 or 3. -/
def okV (p : Int) (l : List (List Int)) : Int := if isP p = true then isV p l else 2
theorem poly_ok (p : Int) (l : List (List Int)) (hn : l.length ≤ 1000000) (hl : ∀ f ∈ l, f.length ≤ maxLen) : Ev (fun k => poly_Is.f k p l) (okV p l) := by
  unfold okV
  by_cases hp : isP p = true
  · rw [if_pos hp]
    exact poly_is p l hn hl hp
  · rw [if_neg hp]
    unfold poly_Is.f
    refine Ev.bind (field_is p) ?_
    simp only [hp, if_false]
    exact Ev.now _
theorem right_loop (p : Int) (l : List (List Int)) (hn : l.length ≤ 1000000) (hl : ∀ f ∈ l, f.length ≤ maxLen) (m : Nat) : ∀ i : Nat, i + m = l.length → Ev (fun k => juntoref02_Right.l0 k p l (l.length : Int) (i : Int)) (isV p (l.drop i)) := by
  induction m with
  | zero =>
    intro i hi
    rw [List.drop_of_length_le (by omega), isV]
    refine Ev.step (f := fun k => some 0) (fun k => ?_) (Ev.now _)
    simp only [juntoref02_Right.l0]
    rw [if_neg (by omega)]
  | succ m ih =>
    intro i hi
    have hlt : i < l.length := by omega
    have hr : rd_L3 l (i : Int) = l[i] := by simp [rd_L3, List.getD_eq_getElem?_getD, hlt]
    have hw : wrap64 ((i : Int) + 1) = ((i + 1 : Nat) : Int) := by rw [w64_small (by omega) (by omega)]; omega
    rw [List.drop_eq_getElem_cons hlt, isV]
    refine Ev.step (f := fun k => (juntoref02_Within.f k p l[i]).bind fun t => if t = 0 then juntoref02_Right.l0 k p l (l.length : Int) ((i + 1 : Nat) : Int) else some t) (fun k => ?_) (Ev.bind (ref_rowok p _ (hl _ (List.getElem_mem hlt))) ?_)
    · conv => lhs; simp only [juntoref02_Right.l0]
      rw [if_pos (by omega), if_pos (by omega), if_pos (by omega), hr, hw]
    · by_cases h0 : withinV p l[i] = 0
      · simp only [h0, if_true]
        exact ih (i + 1) (by omega)
      · simp only [h0, if_false]
        exact Ev.now _
theorem ref_right (p : Int) (l : List (List Int)) (hn : l.length ≤ 1000000) (hl : ∀ f ∈ l, f.length ≤ maxLen) : Ev (fun k => juntoref02_Right.f k p l) (okV p l) := by
  unfold juntoref02_Right.f okV
  refine Ev.bind (ref_is p) ?_
  by_cases hp : isP p = true
  · simp only [hp, if_true]
    have h := right_loop p l hn hl l.length 0 (by omega)
    rw [List.drop_zero] at h
    exact h
  · simp only [hp, if_false]
    exact Ev.now _
theorem okV_one {p : Int} {f : List Int} (h : okV p [f] = 0) : isP p = true ∧ withinV p f = 0 := by
  unfold okV at h
  split at h
  · rw [isV_one] at h
    exact ⟨by assumption, h⟩
  · cases h
theorem okV_len (f : List Int) (hf : f.length ≤ maxLen) : ∀ g ∈ [f], g.length ≤ maxLen := fun g hg => by rw [List.mem_singleton.1 hg]; exact hf
/-- A prime and a row of its residues. -/
theorem row_of {p : Int} {f : List Int} (h : okV p [f] = 0) (hu : ∀ c ∈ f, 0 ≤ c) : ∃ (q : Nat) (_ : NeZero q) (g : List (Fin q)), p = (q : Int) ∧ f = oI g ∧ 2 < q ∧ q ≤ 65537 ∧ Fld.Pr q ∧ g.length ≤ 201 := by
  obtain ⟨hp, hw⟩ := okV_one h
  have h2 := (isP_iff p).1 hp
  obtain ⟨q, rfl⟩ : ∃ q : Nat, p = (q : Int) := ⟨p.toNat, by omega⟩
  have hz : NeZero q := ⟨by omega⟩
  obtain ⟨g, hg, hl⟩ := rows_of hw hu
  exact ⟨q, hz, g, rfl, hg.symm, by omega, by omega, pr_of_isP hp, hl⟩

end Go.Proofs.Ytjjnfobeeflnhaa.L

/- Whether no two numbers of a row are alike: the program's sort and compaction, and the reference's search, tell the same. -/
namespace Go.Proofs.Ytjjnfobeeflnhaa.L
open Go.RowKit Go.Proofs.YtjjnfobeeflnhaaW.PrintWords Go.Proofs.Ytjjnfobeeflnhaa.J
set_option linter.unusedVariables false
set_option linter.unusedSimpArgs false

theorem unlike_at (l : List Int) (hl : l.length < 17592186044416) : Ev (fun k => poly_unlike.f k l) (decide l.Nodup) := by
  refine Ev.congr (fun k => ?_) (Ev.now _)
  unfold poly_unlike.f
  rw [if_pos hl]

/-- An elder place, from j on, holds what place i holds. -/
def tIn (l : List Int) (i j : Nat) : Bool := (List.range i).any fun b => decide (j ≤ b) && decide (l.getD i 0 = l.getD b 0)
/-- From place i on some place has an elder one alike. -/
def tAll (l : List Int) (i : Nat) : Bool := (List.range l.length).any fun a => decide (i ≤ a) && tIn l a 0
theorem tIn_iff (l : List Int) (i j : Nat) : tIn l i j = true ↔ ∃ b, b < i ∧ j ≤ b ∧ l.getD i 0 = l.getD b 0 := by
  unfold tIn
  simp only [List.any_eq_true, List.mem_range, Bool.and_eq_true, decide_eq_true_eq]
theorem tAll_iff (l : List Int) (i : Nat) : tAll l i = true ↔ ∃ a, a < l.length ∧ i ≤ a ∧ tIn l a 0 = true := by
  unfold tAll
  simp only [List.any_eq_true, List.mem_range, Bool.and_eq_true, decide_eq_true_eq]
theorem tIn_step (l : List Int) (i j : Nat) (h : j < i) : tIn l i j = (decide (l.getD i 0 = l.getD j 0) || tIn l i (j + 1)) := by
  rw [Bool.eq_iff_iff, Bool.or_eq_true, tIn_iff, tIn_iff, decide_eq_true_eq]
  constructor
  · rintro ⟨b, h1, h2, h3⟩
    by_cases e : b = j
    · subst e; exact .inl h3
    · exact .inr ⟨b, h1, by omega, h3⟩
  · rintro (h3 | ⟨b, h1, h2, h3⟩)
    · exact ⟨j, h, Nat.le_refl _, h3⟩
    · exact ⟨b, h1, by omega, h3⟩
theorem tIn_end (l : List Int) (i j : Nat) (h : i ≤ j) : tIn l i j = false := by
  rw [Bool.eq_false_iff]
  intro e
  obtain ⟨b, h1, h2, _⟩ := (tIn_iff l i j).1 e
  omega
theorem tAll_step (l : List Int) (i : Nat) (h : i < l.length) : tAll l i = (tIn l i 0 || tAll l (i + 1)) := by
  rw [Bool.eq_iff_iff, Bool.or_eq_true, tAll_iff, tAll_iff]
  constructor
  · rintro ⟨a, h1, h2, h3⟩
    by_cases e : a = i
    · subst e; exact .inl h3
    · exact .inr ⟨a, h1, by omega, h3⟩
  · rintro (h3 | ⟨a, h1, h2, h3⟩)
    · exact ⟨i, h, Nat.le_refl _, h3⟩
    · exact ⟨a, h1, by omega, h3⟩
theorem tAll_end (l : List Int) (i : Nat) (h : l.length ≤ i) : tAll l i = false := by
  rw [Bool.eq_false_iff]
  intro e
  obtain ⟨a, h1, h2, _⟩ := (tAll_iff l i).1 e
  omega
theorem tAll_zero (l : List Int) : tAll l 0 = !decide l.Nodup := by
  rw [Bool.eq_iff_iff, tAll_iff, Bool.not_eq_true', decide_eq_false_iff_not]
  constructor
  · rintro ⟨a, h1, _, h3⟩ hn
    obtain ⟨b, h4, _, h5⟩ := (tIn_iff l a 0).1 h3
    have := List.pairwise_iff_getElem.1 hn b a (by omega) h1 h4
    simp only [List.getD_eq_getElem?_getD, List.getElem?_eq_getElem h1, List.getElem?_eq_getElem (show b < l.length by omega), Option.getD_some] at h5
    exact this h5.symm
  · intro hn
    apply Classical.byContradiction
    intro hc
    refine hn (List.pairwise_iff_getElem.2 fun i j hi hj hij e => hc ⟨j, hj, Nat.zero_le _, (tIn_iff l j 0).2 ⟨i, hij, Nat.zero_le _, ?_⟩⟩)
    simp only [List.getD_eq_getElem?_getD, List.getElem?_eq_getElem hj, List.getElem?_eq_getElem hi, Option.getD_some]
    exact e.symm
theorem twice_inner (l : List Int) (hl : l.length ≤ 17592186044416) (i : Nat) (hi : i < l.length) (next : Ev (fun k => juntoref02_Twice.l0 k l (l.length : Int) ((i + 1 : Nat) : Int)) (tAll l (i + 1))) (m : Nat) : ∀ j : Nat, j + m = i →
    Ev (fun k => juntoref02_Twice.l1 k l (i : Int) (j : Int) (l.length : Int) (i : Int)) (tIn l i j || tAll l (i + 1)) := by
  induction m with
  | zero =>
    intro j hj
    have hw : wrap64 ((i : Int) + 1) = ((i + 1 : Nat) : Int) := by rw [w64_small (by omega) (by omega)]; omega
    rw [tIn_end l i j (by omega), Bool.false_or]
    refine Ev.step (f := fun k => juntoref02_Twice.l0 k l (l.length : Int) ((i + 1 : Nat) : Int)) (fun k => ?_) next
    simp only [juntoref02_Twice.l1]
    rw [if_neg (by omega), hw]
  | succ m ih =>
    intro j hj
    have hw : wrap64 ((j : Int) + 1) = ((j + 1 : Nat) : Int) := by rw [w64_small (by omega) (by omega)]; omega
    rw [tIn_step l i j (by omega)]
    by_cases e : l.getD i 0 = l.getD j 0
    · rw [decide_eq_true e, Bool.true_or, Bool.true_or]
      refine Ev.step (f := fun k => some true) (fun k => ?_) (Ev.now _)
      conv => lhs; simp only [juntoref02_Twice.l1]
      rw [if_pos (by omega), if_pos (by omega), if_pos (by omega), if_pos (by omega), if_pos (by omega), rd_getD, rd_getD, if_pos e]
    · rw [decide_eq_false e, Bool.false_or]
      refine Ev.step (f := fun k => juntoref02_Twice.l1 k l (i : Int) ((j + 1 : Nat) : Int) (l.length : Int) (i : Int)) (fun k => ?_) (ih (j + 1) (by omega))
      conv => lhs; simp only [juntoref02_Twice.l1]
      rw [if_pos (by omega), if_pos (by omega), if_pos (by omega), if_pos (by omega), if_pos (by omega), rd_getD, rd_getD, if_neg e, hw]
theorem twice_outer (l : List Int) (hl : l.length ≤ 17592186044416) (m : Nat) : ∀ i : Nat, i + m = l.length → Ev (fun k => juntoref02_Twice.l0 k l (l.length : Int) (i : Int)) (tAll l i) := by
  induction m with
  | zero =>
    intro i hi
    rw [tAll_end l i (by omega)]
    refine Ev.step (f := fun k => some false) (fun k => ?_) (Ev.now _)
    simp only [juntoref02_Twice.l0]
    rw [if_neg (by omega)]
  | succ m ih =>
    intro i hi
    rw [tAll_step l i (by omega)]
    refine Ev.step (f := fun k => juntoref02_Twice.l1 k l (i : Int) ((0 : Nat) : Int) (l.length : Int) (i : Int)) (fun k => ?_) (twice_inner l hl i (by omega) (ih (i + 1) (by omega)) i 0 (by omega))
    conv => lhs; simp only [juntoref02_Twice.l0]
    rw [if_pos (by omega)]
    rfl
theorem twice_at (l : List Int) (hl : l.length ≤ 17592186044416) : Ev (fun k => juntoref02_Twice.f k l) (!decide l.Nodup) := by
  have h := twice_outer l hl l.length 0 (by omega)
  rw [tAll_zero] at h
  exact h

end Go.Proofs.Ytjjnfobeeflnhaa.L

/- The polynomial through points: what the program's call answers, and the reference's test of points. -/
namespace Go.Proofs.Ytjjnfobeeflnhaa.L
open Go.RowKit Go.Proofs.YtjjnfobeeflnhaaW.PrintWords Go.Proofs.Ytjjnfobeeflnhaa.J
set_option linter.unusedVariables false
set_option linter.unusedSimpArgs false

/-- What is wrong with points. -/
def pointsV (p : Int) (l : List S86) : Int := if ∀ x ∈ l, x.f0 < p ∧ x.f1 < p then (if (l.map (·.f0)).Nodup then 0 else 6) else 2
theorem rd_T86_at (l : List S86) (i : Nat) (h : i < l.length) : rd_T86 l (i : Int) = l[i] := by
  simp [rd_T86, List.getD_eq_getElem?_getD, h]
theorem belowV_pair (p a b : Int) : belowV p [a, b] = if a < p ∧ b < p then 0 else 2 := by
  unfold belowV
  simp
theorem pts_bad {p : Int} {l : List S86} {i : Nat} (hi : i < l.length) (h : ¬ (l[i].f0 < p ∧ l[i].f1 < p)) : pointsV p l = 2 := by
  unfold pointsV
  rw [if_neg fun hc => h (hc _ (List.getElem_mem hi))]
theorem thr_loop (p : Int) (l : List S86) (hl : l.length ≤ 1000) (G : List Int) (hG : pointsV p l = 0 → Ev (fun k => poly_Fit.f k p l) G) (m : Nat) : ∀ i : Nat, i + m = l.length → (∀ x ∈ l.take i, x.f0 < p ∧ x.f1 < p) →
    Ev (fun k => poly_Through.l0 k p l ((l.take i).map (·.f0)) l (l.length : Int) (i : Int)) (if pointsV p l = 0 then G else [], pointsV p l) := by
  induction m with
  | zero =>
    intro i hi h
    rw [List.take_of_length_le (by omega)] at h ⊢
    refine Ev.step (f := fun k => (poly_unlike.f k (l.map (·.f0))).bind fun t => if t = true then (poly_Fit.f k p l).bind fun u => some (u, 0) else some ([], 6)) (fun k => ?_) (Ev.bind (unlike_at _ (by rw [List.length_map]; omega)) ?_)
    · simp only [poly_Through.l0]
      rw [if_neg (by omega)]
    unfold pointsV at hG ⊢
    rw [if_pos h] at hG ⊢
    by_cases hn : (l.map (·.f0)).Nodup
    · rw [if_pos hn] at hG ⊢
      simp only [hn, decide_true, if_true]
      exact Ev.bind (hG rfl) (Ev.now _)
    · rw [if_neg hn]
      simp only [hn, decide_false, Bool.false_eq_true, if_false, show ¬ ((6 : Int) = 0) by decide]
      exact Ev.now _
  | succ m ih =>
    intro i hi h
    have hw : wrap64 ((i : Int) + 1) = ((i + 1 : Nat) : Int) := by rw [w64_small (by omega) (by omega)]; omega
    have hlt : i < l.length := by omega
    have hlen : ((l.take i).map (·.f0)).length = i := by rw [List.length_map, List.length_take]; omega
    have hb := field_below p [l[i].f0, l[i].f1] (by simp [maxLen])
    rw [belowV_pair] at hb
    refine Ev.step (f := fun k => (field_Below.f k p [l[i].f0, l[i].f1]).bind fun t => if t = 0 then poly_Through.l0 k p l ((l.take i).map (·.f0) ++ [l[i].f0]) l (l.length : Int) ((i + 1 : Nat) : Int) else some ([], t)) (fun k => ?_) (Ev.bind hb ?_)
    · conv => lhs; simp only [poly_Through.l0]
      rw [if_pos (by omega), if_pos (by omega), if_pos (by omega), rd_T86_at l i hlt, hw]
      simp only [show ((l.take i).map (·.f0)).length < 17592186044416 by omega, if_true]
    · by_cases hok : l[i].f0 < p ∧ l[i].f1 < p
      · simp only [hok, and_self, if_true]
        have e : (l.take i).map (·.f0) ++ [l[i].f0] = (l.take (i + 1)).map (·.f0) := by
          rw [List.take_succ_eq_append_getElem hlt, List.map_append]; rfl
        rw [e]
        refine ih (i + 1) (by omega) fun x hx => ?_
        rw [List.take_succ_eq_append_getElem hlt] at hx
        rcases List.mem_append.1 hx with hx | hx
        · exact h x hx
        · rw [List.mem_singleton.1 hx]; exact hok
      · rw [pts_bad hlt hok]
        simp only [hok, if_false, show ¬ ((2 : Int) = 0) by decide]
        exact Ev.now _
/-- What the program's call says is wrong. -/
def throughV (p : Int) (l : List S86) : Int := if isP p = true then (if (l.length : Int) > 201 then 3 else pointsV p l) else 2
theorem thr_prog (p : Int) (l : List S86) (G : List Int) (hG : throughV p l = 0 → Ev (fun k => poly_Fit.f k p l) G) : Ev (fun k => poly_Through.f k p l) (if throughV p l = 0 then G else [], throughV p l) := by
  unfold throughV at hG ⊢
  unfold poly_Through.f
  refine Ev.bind (field_is p) ?_
  by_cases hp : isP p = true
  · simp only [hp, if_true] at hG ⊢
    by_cases hb : (l.length : Int) > 201
    · simp only [hb, if_true, show ¬ ((3 : Int) = 0) by decide, if_false]
      exact Ev.now _
    · simp only [hb, if_false] at hG ⊢
      exact thr_loop p l (by omega) G hG l.length 0 (by omega) (fun x hx => by simp at hx)
  · simp only [hp, if_false, Bool.false_eq_true, show ¬ ((2 : Int) = 0) by decide]
    exact Ev.now _

end Go.Proofs.Ytjjnfobeeflnhaa.L

/- The statement PolyValues as plain Lean. -/
namespace Go.Proofs.Ytjjnfobeeflnhaa.L
open Go.RowKit Go.Proofs.YtjjnfobeeflnhaaW.PrintWords Go.Proofs.Ytjjnfobeeflnhaa.J
set_option linter.unusedVariables false
set_option linter.unusedSimpArgs false

theorem okV_two (p : Int) (f : List Int) (x : Int) : okV p [f, [x]] = if okV p [f] = 0 then (if x < p then 0 else 2) else okV p [f] := by
  unfold okV
  by_cases hp : isP p = true
  · simp only [hp, if_true, isV_one]
    rw [isV, isV_one, withinV_ne p [x] (by simp)]
    unfold belowV
    simp
  · simp only [hp, if_false]
    simp
theorem one_len (f : List Int) (x : Int) (hf : f.length ≤ maxLen) : ∀ g ∈ [f, [x]], g.length ≤ maxLen := fun g hg => by
  rcases List.mem_cons.1 hg with rfl | hg
  · exact hf
  · rw [List.mem_singleton.1 hg]; simp [maxLen]

end Go.Proofs.Ytjjnfobeeflnhaa.L

/- Both ways to weigh places tell the same weights. -/
namespace Go.Proofs.Ytjjnfobeeflnhaa.L
open Go.RowKit Go.Proofs.YtjjnfobeeflnhaaW.PrintWords Go.Proofs.Ytjjnfobeeflnhaa.J
set_option linter.unusedVariables false
set_option linter.unusedSimpArgs false

section
variable {q : Nat} [NeZero q]
theorem pow_mul (a b : Fin q) (n : Nat) : (a * b) ^ n = a ^ n * b ^ n := by
  induction n with
  | zero => grind
  | succ n ih => grind
theorem inv_mul2 (a b : Fin q) : Fld.inv (a * b) = Fld.inv a * Fld.inv b := pow_mul a b _
theorem inv_one : Fld.inv (1 : Fin q) = 1 := by
  unfold Fld.inv
  generalize q - 2 = n
  induction n with
  | zero => grind
  | succ n ih => grind
/-- The product of z minus the first m places but i. -/
def ab (x : Nat → Fin q) (i : Nat) (z : Fin q) : Nat → Fin q
  | 0 => 1
  | m + 1 => if m = i then ab x i z m else ab x i z m * (z - x m)
/-- What a place weighs. -/
def wt (x : Nat → Fin q) (z : Fin q) (n i : Nat) : Fin q := ab x i z n * Fld.inv (ab x i (x i) n)
theorem ev_un_ab (x : Nat → Fin q) (i m : Nat) (z : Fin q) : Fld.ev (Fld.un x i m) z = ab x i z m * Fld.inv (ab x i (x i) m) := by
  induction m with
  | zero => rw [Fld.un, Fld.ev_one, ab, ab, inv_one]; grind
  | succ m ih =>
    rw [Fld.ev_un, ab, ab]
    by_cases h : m = i
    · rw [if_pos h, if_pos h, if_pos h, ih]
    · rw [if_neg h, if_neg h, if_neg h, ih, inv_mul2]; grind
theorem mk_self (f : List (Fin q)) : Fld.mk f.length (Fld.co f) = f := by
  apply List.ext_getElem (by simp [Fld.mk])
  intro i h1 h2
  simp only [Fld.mk, List.getElem_map, List.getElem_range]
  exact Fld.co_lt h2
theorem share_inner (h1 : 2 < q) (hq : q ≤ 65537) (xs : List (Fin q)) (hx : xs.length ≤ 1000) (z : Fin q) (i : Nat) (hi : i < xs.length) (out : List (Fin q)) (ho : out.length = xs.length) {r : List Int}
    (next : Ev (fun k => poly_Share.l0 k (q : Int) (oI xs) (nI z) (oI (out.set i (wt (Fld.co xs) z xs.length i))) (oI xs) (xs.length : Int) ((i + 1 : Nat) : Int)) r) (m : Nat) : ∀ j : Nat, j + m = xs.length →
    Ev (fun k => poly_Share.l1 k (q : Int) (oI xs) (nI z) (oI out) (i : Int) (nI (Fld.co xs i)) (nI (ab (Fld.co xs) i z j)) (nI (ab (Fld.co xs) i (Fld.co xs i) j)) (oI xs) (xs.length : Int) (i : Int) (oI xs) (xs.length : Int) (j : Int)) r := by
  induction m with
  | zero =>
    intro j hj
    obtain rfl : j = xs.length := by omega
    have hw : wrap64 ((i : Int) + 1) = ((i + 1 : Nat) : Int) := by rw [w64_small (by omega) (by omega)]; omega
    refine Ev.step (f := fun k => (field_Over.f k (q : Int) (nI (ab (Fld.co xs) i (Fld.co xs i) xs.length))).bind fun t => (field_Times.f (q : Int) (nI (ab (Fld.co xs) i z xs.length)) t).bind fun u => poly_Share.l0 k (q : Int) (oI xs) (nI z) ((oI out).set i u) (oI xs) (xs.length : Int) ((i + 1 : Nat) : Int)) (fun k => ?_) (Ev.bind (over_fp h1 hq _) ?_)
    · conv => lhs; simp only [poly_Share.l1]
      rw [if_neg (by omega), hw]
      simp only [show (0 : Int) ≤ (i : Int) by omega, show ((i : Int) < ((oI out).length : Int)) by rw [oI_length]; omega, if_true, Int.toNat_natCast]
    · rw [times_fp hq]
      refine Ev.bind (Ev.now _) ?_
      rw [oI_set]
      exact next
  | succ m ih =>
    intro j hj
    have hw : wrap64 ((j : Int) + 1) = ((j + 1 : Nat) : Int) := by rw [w64_small (by omega) (by omega)]; omega
    have h := ih (j + 1) (by omega)
    rw [ab, ab] at h
    by_cases e : j = i
    · rw [if_pos e, if_pos e] at h
      refine Ev.step (f := fun k => poly_Share.l1 k (q : Int) (oI xs) (nI z) (oI out) (i : Int) (nI (Fld.co xs i)) (nI (ab (Fld.co xs) i z j)) (nI (ab (Fld.co xs) i (Fld.co xs i) j)) (oI xs) (xs.length : Int) (i : Int) (oI xs) (xs.length : Int) ((j + 1 : Nat) : Int)) (fun k => ?_) h
      conv => lhs; simp only [poly_Share.l1]
      rw [if_pos (by omega), if_pos (by omega), if_pos (by rw [oI_length]; omega), if_pos (by omega), hw]
    · rw [if_neg e, if_neg e] at h
      refine Ev.step (f := fun k => poly_Share.l1 k (q : Int) (oI xs) (nI z) (oI out) (i : Int) (nI (Fld.co xs i)) (nI (ab (Fld.co xs) i z j * (z - Fld.co xs j))) (nI (ab (Fld.co xs) i (Fld.co xs i) j * (Fld.co xs i - Fld.co xs j))) (oI xs) (xs.length : Int) (i : Int) (oI xs) (xs.length : Int) ((j + 1 : Nat) : Int)) (fun k => ?_) h
      conv => lhs; simp only [poly_Share.l1]
      rw [if_pos (by omega), if_pos (by omega), if_pos (by rw [oI_length]; omega), if_neg (by omega), rd_oI, minus_fp hq, Option.bind_some, times_fp hq, Option.bind_some, minus_fp hq, Option.bind_some, times_fp hq, Option.bind_some, hw]
theorem share_outer (h1 : 2 < q) (hq : q ≤ 65537) (xs : List (Fin q)) (hx : xs.length ≤ 1000) (z : Fin q) (m : Nat) : ∀ i : Nat, i + m = xs.length →
    Ev (fun k => poly_Share.l0 k (q : Int) (oI xs) (nI z) (oI (fill xs.length i (wt (Fld.co xs) z xs.length))) (oI xs) (xs.length : Int) (i : Int)) (oI (Fld.mk xs.length (wt (Fld.co xs) z xs.length))) := by
  induction m with
  | zero =>
    intro i hi
    obtain rfl : i = xs.length := by omega
    refine Ev.step (f := fun k => some (oI (Fld.mk xs.length (wt (Fld.co xs) z xs.length)))) (fun k => ?_) (Ev.now _)
    conv => lhs; simp only [poly_Share.l0]
    rw [if_neg (by omega), fill_all]
  | succ m ih =>
    intro i hi
    have h := ih (i + 1) (by omega)
    rw [← fill_set] at h
    have hin := share_inner h1 hq xs hx z i (by omega) (fill xs.length i (wt (Fld.co xs) z xs.length)) (fill_length _ _ _) h xs.length 0 (by omega)
    refine Ev.step (f := fun k => poly_Share.l1 k (q : Int) (oI xs) (nI z) (oI (fill xs.length i (wt (Fld.co xs) z xs.length))) (i : Int) (nI (Fld.co xs i)) (nI (ab (Fld.co xs) i z 0)) (nI (ab (Fld.co xs) i (Fld.co xs i) 0)) (oI xs) (xs.length : Int) (i : Int) (oI xs) (xs.length : Int) ((0 : Nat) : Int)) (fun k => ?_) hin
    conv => lhs; simp only [poly_Share.l0]
    rw [if_pos (by omega), if_pos (by omega), if_pos (by rw [oI_length]; omega), rd_oI, oI_length, ab, ab, nI_one (by omega)]
    rfl
theorem share_rows (h1 : 2 < q) (hq : q ≤ 65537) (xs : List (Fin q)) (hx : xs.length ≤ 1000) (z : Fin q) : Ev (fun k => poly_Share.f k (q : Int) (oI xs) (nI z)) (oI (Fld.mk xs.length (wt (Fld.co xs) z xs.length))) := by
  have h := share_outer h1 hq xs hx z xs.length 0 (by omega)
  rw [fill_zero, ← oI_zeros] at h
  refine Ev.congr (fun k => ?_) h
  unfold poly_Share.f
  rw [oI_length, if_pos (by omega), Int.toNat_natCast, if_pos (by omega)]
  rfl
end

end Go.Proofs.Ytjjnfobeeflnhaa.L

/- What works on two rows of coefficients tells: tests, products, divisions, greatest common divisors. -/
namespace Go.Proofs.Ytjjnfobeeflnhaa.L
open Go.RowKit Go.Proofs.YtjjnfobeeflnhaaW.PrintWords Go.Proofs.Ytjjnfobeeflnhaa.J
set_option linter.unusedVariables false
set_option linter.unusedSimpArgs false

section
variable {q : Nat}
theorem within_oI (f : List (Fin q)) (h : f.length ≤ 201) : withinV (q : Int) (oI f) = 0 := by
  rw [withinV_ne _ _ (by rw [oI_length]; exact h)]
  unfold belowV
  rw [if_pos (fun x hx => (oI_range f x hx).2)]
theorem oI_max (f : List (Fin q)) (h : f.length ≤ 1000) : (oI f).length ≤ maxLen := by rw [oI_length]; simp only [maxLen]; omega
end
section
variable {q : Nat} [NeZero q]
/-! the greatest common divisor -/
/-- d divides f. -/
def Dvd (d f : List (Fin q)) : Prop := ∃ c, Fld.Eqv f (Fld.mul c d)
theorem Dvd.nil (d : List (Fin q)) : Dvd d [] := ⟨[], Fld.Eqv.refl _⟩
end
end Go.Proofs.Ytjjnfobeeflnhaa.L

/- The statement PolyValued as plain Lean. -/
namespace Go.Proofs.Ytjjnfobeeflnhaa.L
open Go.RowKit Go.Proofs.YtjjnfobeeflnhaaW.PrintWords Go.Proofs.Ytjjnfobeeflnhaa.J
set_option linter.unusedVariables false
set_option linter.unusedSimpArgs false

section
variable {q : Nat}
theorem okV_x (f : List (Fin q)) (x : Fin q) (h : okV (q : Int) [oI f] = 0) : okV (q : Int) [oI f, [nI x]] = 0 := by
  have := nI_range x
  rw [okV_two, if_pos h, if_pos (by omega)]
end
section
variable {q : Nat} [NeZero q]
theorem eval_ok (hq : q ≤ 65537) (f : List (Fin q)) (x : Fin q) (hf : f.length ≤ 1000) (h : okV (q : Int) [oI f] = 0) : Ev (fun k => poly_Eval.f k (q : Int) (oI f) (nI x)) (nI (Fld.ev f x), 0) := by
  unfold poly_Eval.f
  refine Ev.bind (poly_ok _ _ (by simp) (one_len _ _ (oI_max f hf))) ?_
  simp only [okV_x f x h, if_true]
  rw [at_rows hq]
  exact Ev.bind (Ev.now _) (Ev.now _)
end
section
variable {q : Nat}
theorem okV_row (h : isP (q : Int) = true) (f : List (Fin q)) (hf : f.length ≤ 201) : okV (q : Int) [oI f] = 0 := by
  unfold okV
  rw [if_pos h, isV_one, within_oI f hf]
end

end Go.Proofs.Ytjjnfobeeflnhaa.L

/- The statement PolyBack as plain Lean. -/
namespace Go.Proofs.Ytjjnfobeeflnhaa.L
open Go.RowKit Go.Proofs.YtjjnfobeeflnhaaW.PrintWords Go.Proofs.Ytjjnfobeeflnhaa.J
set_option linter.unusedVariables false
set_option linter.unusedSimpArgs false

section
variable {q : Nat} [NeZero q]
theorem dot_loop (hq : q ≤ 65537) (a b : List (Fin q)) (hl : a.length = b.length) (hs : a.length ≤ 1000) (m : Nat) : ∀ i : Nat, i + m = a.length →
    Ev (fun k => juntoref01_Dot.l0 k (q : Int) (oI a) (oI b) (nI (Fld.sm i fun j => Fld.co a j * Fld.co b j)) (a.length : Int) (i : Int)) (nI (Fld.sm a.length fun j => Fld.co a j * Fld.co b j)) := by
  induction m with
  | zero =>
    intro i hi
    obtain rfl : i = a.length := by omega
    refine Ev.step (f := fun k => some (nI (Fld.sm a.length fun j => Fld.co a j * Fld.co b j))) (fun k => ?_) (Ev.now _)
    conv => lhs; simp only [juntoref01_Dot.l0]
    rw [if_neg (by omega)]
  | succ m ih =>
    intro i hi
    have hw : wrap64 ((i : Int) + 1) = ((i + 1 : Nat) : Int) := by rw [w64_small (by omega) (by omega)]; omega
    have h := ih (i + 1) (by omega)
    rw [Fld.sm_succ] at h
    refine Ev.step (f := fun k => juntoref01_Dot.l0 k (q : Int) (oI a) (oI b) (nI ((Fld.sm i fun j => Fld.co a j * Fld.co b j) + Fld.co a i * Fld.co b i)) (a.length : Int) ((i + 1 : Nat) : Int)) (fun k => ?_) h
    conv => lhs; simp only [juntoref01_Dot.l0]
    rw [if_pos (by omega), if_pos (by omega), if_pos (by rw [oI_length]; omega), if_pos (by rw [oI_length]; omega), rd_oI, rd_oI, mul_fp hq, Option.bind_some, add_fp hq, Option.bind_some, hw]
theorem dot_rows (hq : q ≤ 65537) (a b : List (Fin q)) (hl : a.length = b.length) (hs : a.length ≤ 1000) : Ev (fun k => juntoref01_Dot.f k (q : Int) (oI a) (oI b)) (nI (Fld.sm a.length fun j => Fld.co a j * Fld.co b j)) := by
  have h := dot_loop hq a b hl hs a.length 0 (by omega)
  refine Ev.congr (fun k => ?_) h
  unfold juntoref01_Dot.f
  rw [oI_length, Fld.sm, nI_zero]
  rfl
/-- The weighted sum is the value. -/
theorem weigh_sum (X Y : Nat → Fin q) (z : Fin q) (n m : Nat) : (Fld.sm m fun j => wt X z n j * Y j) = Fld.ev (Fld.lg X Y n m) z := by
  induction m with
  | zero => rw [Fld.sm, Fld.lg, Fld.ev_nil]
  | succ m ih =>
    rw [Fld.sm_succ, Fld.ev_lg, ih, ev_un_ab]
    unfold wt
    grind
end
section
variable {q : Nat}
theorem oI_nodup {xs : List (Fin q)} : (oI xs).Nodup ↔ xs.Nodup := by
  unfold oI List.Nodup
  rw [List.pairwise_map]
  constructor
  · intro h
    exact h.imp fun hne e => hne (by rw [e])
  · intro h
    exact h.imp fun hne e => hne (nI_inj e)
end
section
variable {q : Nat} [NeZero q]
theorem co_inj {xs : List (Fin q)} (hn : xs.Nodup) (i j : Nat) (hi : i < xs.length) (hj : j < xs.length) (e : Fld.co xs i = Fld.co xs j) : i = j := by
  rw [Fld.co_lt hi, Fld.co_lt hj] at e
  apply Classical.byContradiction
  intro hne
  rcases Nat.lt_or_gt_of_ne hne with h | h
  · exact List.pairwise_iff_getElem.1 hn i j hi hj h e
  · exact List.pairwise_iff_getElem.1 hn j i hj hi h e.symm
theorem pointsV_ptsF (xs : List (Fin q)) (Y : Nat → Fin q) (hn : xs.Nodup) : pointsV (q : Int) (ptsF xs.length (Fld.co xs) Y) = 0 := by
  unfold pointsV
  rw [if_pos, if_pos]
  · have e : (ptsF xs.length (Fld.co xs) Y).map (·.f0) = oI xs := by
      unfold ptsF
      rw [List.map_map]
      conv => rhs; rw [← mk_self xs]
      unfold oI Fld.mk
      rw [List.map_map]
      rfl
    rw [e]
    exact oI_nodup.2 hn
  · intro x hx
    unfold ptsF at hx
    obtain ⟨i, _, rfl⟩ := List.mem_map.1 hx
    exact ⟨(nI_range _).2, (nI_range _).2⟩
end

theorem back_out (p x : Int) (f g : List Int) : Ev (fun k => juntolaw02_PolyBack.j0 k p x f g true) true :=
  Ev.step (f := fun k => (juntolaw02_alive.f k).bind fun t => some t) (fun k => by simp only [juntolaw02_PolyBack.j0, if_true]) (Ev.bind alive02 (Ev.now _))
section
variable {q : Nat} [NeZero q]
theorem back_end (hp : Fld.Pr q) (h2 : 2 < q) (hq : q ≤ 65537) (hisP : isP (q : Int) = true) (f xs : List (Fin q)) (z : Fin q) (hf : f.length ≤ 201) (hx : xs.length ≤ 201) (hn : xs.Nodup) (ht : (Fld.trim f).length ≤ xs.length) :
    Ev (fun k => juntolaw02_PolyBack.l0 k (q : Int) (nI z) (oI f) (oI xs) (ptsF xs.length (Fld.co xs) fun i => Fld.ev f (Fld.co xs i)) (oI (Fld.mk xs.length fun i => Fld.ev f (Fld.co xs i))) (oI xs) (xs.length : Int) (xs.length : Int)) true := by
  obtain ⟨Y, hY⟩ : ∃ Y : Nat → Fin q, Y = fun i => Fld.ev f (Fld.co xs i) := ⟨_, rfl⟩
  rw [← hY]
  have hin := co_inj hn
  have okf := okV_row hisP f hf
  have okx := okV_row hisP xs hx
  -- through the points
  have fit := fit_rows h2 hq xs.length (by omega) (Fld.co xs) Y
  rw [Fld.hn_lg hp (Fld.co xs) Y xs.length hin] at fit
  have hV : throughV (q : Int) (ptsF xs.length (Fld.co xs) Y) = 0 := by
    unfold throughV
    rw [if_pos hisP, ptsF_length, if_neg (by omega)]
    exact pointsV_ptsF xs Y hn
  have thr := thr_prog (q : Int) (ptsF xs.length (Fld.co xs) Y) _ (fun _ => fit)
  rw [if_pos hV, hV] at thr
  have hlg : Fld.lg (Fld.co xs) Y xs.length xs.length = Fld.trim f := by
    have hl := Fld.lg_length (Fld.co xs) Y xs.length xs.length (Nat.le_refl _)
    rw [← Fld.lg_tr]
    refine Fld.trim_congr (Fld.unique hp (xs := xs) hn ?_ ht ?_)
    · rw [Fld.lg_tr]; exact hl
    · intro x hm
      obtain ⟨k, hk, rfl⟩ := List.mem_iff_getElem.1 hm
      have := Fld.lg_at hp (Fld.co xs) Y xs.length hin k hk xs.length (Nat.le_refl _)
      rw [if_pos hk, Fld.co_lt hk] at this
      rw [this, hY]
      show Fld.ev f (Fld.co xs k) = _
      rw [Fld.co_lt hk]
  rw [hlg] at thr
  -- the weights
  have wts : Ev (fun k => poly_Weights.f k (q : Int) (oI xs) (nI z)) (oI (Fld.mk xs.length (wt (Fld.co xs) z xs.length)), 0) := by
    unfold poly_Weights.f
    refine Ev.bind (poly_ok _ _ (by simp) (one_len _ _ (oI_max xs (by omega)))) ?_
    simp only [okV_x xs z okx, if_true]
    refine Ev.bind (unlike_at _ (by rw [oI_length]; omega)) ?_
    simp only [oI_nodup.2 hn, decide_true, if_true]
    exact Ev.bind (share_rows h2 hq xs (by omega) z) (Ev.now _)
  have val := eval_ok hq f z (by omega) okf
  have dot := dot_rows hq (Fld.mk xs.length (wt (Fld.co xs) z xs.length)) (Fld.mk xs.length Y) (by rw [Fld.mk_length, Fld.mk_length]) (by rw [Fld.mk_length]; omega)
  rw [Fld.mk_length] at dot
  have hs : (Fld.sm xs.length fun j => Fld.co (Fld.mk xs.length (wt (Fld.co xs) z xs.length)) j * Fld.co (Fld.mk xs.length Y) j) = Fld.ev f z := by
    rw [Fld.sm_congr (h := fun j => wt (Fld.co xs) z xs.length j * Y j) (fun i hi => by rw [mk_co _ _ _ hi, mk_co _ _ _ hi]), weigh_sum, hlg, (Fld.trim_co f).ev]
  rw [hs] at dot
  have lt := Fld.trim_length_le f
  refine Ev.step (f := fun k => (poly_Through.f k (q : Int) (ptsF xs.length (Fld.co xs) Y)).bind fun bt1535 => ((poly_Weights.f k (q : Int) (oI xs) (nI z)).bind fun bt1539 => ((poly_Eval.f k (q : Int) (oI f) (nI z)).bind fun bt1543 => (if bt1535.2 = 0 then ((juntoref02_Trim.f k (oI f)).bind fun t1545 => ((juntoref01_Same.f k bt1535.1 t1545).bind fun t1548 => (if t1548 = true then (if bt1539.2 = 0 then (if (bt1539.1.length : Int) = ((oI (Fld.mk xs.length Y)).length : Int) then ((juntoref01_Dot.f k (q : Int) bt1539.1 (oI (Fld.mk xs.length Y))).bind fun t1549 => (if t1549 = bt1543.1 then ((juntolaw02_alive.f k).bind fun t1550 => (some t1550)) else (some false))) else (some false)) else (some false)) else (some false)))) else (some false))))) (fun k => ?_) ?_
  · conv => lhs; simp only [juntolaw02_PolyBack.l0]
    rw [if_neg (by omega)]
  refine Ev.bind thr (Ev.bind wts (Ev.bind val ?_))
  simp only [if_true]
  refine Ev.bind (trim_fp f (by omega)) (Ev.bind (same_self _ (oI_max _ (by omega))) ?_)
  simp only [if_true, oI_length, Fld.mk_length]
  refine Ev.bind dot ?_
  simp only [if_true]
  exact Ev.bind alive02 (Ev.now _)
theorem back_loop (hq : q ≤ 65537) (hisP : isP (q : Int) = true) (f xs : List (Fin q)) (z : Fin q) (hf : f.length ≤ 201) (hx : xs.length ≤ 201)
    (fin : Ev (fun k => juntolaw02_PolyBack.l0 k (q : Int) (nI z) (oI f) (oI xs) (ptsF xs.length (Fld.co xs) fun i => Fld.ev f (Fld.co xs i)) (oI (Fld.mk xs.length fun i => Fld.ev f (Fld.co xs i))) (oI xs) (xs.length : Int) (xs.length : Int)) true) (m : Nat) : ∀ i : Nat, i + m = xs.length →
    Ev (fun k => juntolaw02_PolyBack.l0 k (q : Int) (nI z) (oI f) (oI xs) (ptsF i (Fld.co xs) fun i => Fld.ev f (Fld.co xs i)) (oI (Fld.mk i fun i => Fld.ev f (Fld.co xs i))) (oI xs) (xs.length : Int) (i : Int)) true := by
  induction m with
  | zero =>
    intro i hi
    obtain rfl : i = xs.length := by omega
    exact fin
  | succ m ih =>
    intro i hi
    have hw : wrap64 ((i : Int) + 1) = ((i + 1 : Nat) : Int) := by rw [w64_small (by omega) (by omega)]; omega
    have h := ih (i + 1) (by omega)
    rw [mk_succ, oI_append] at h
    have e : (ptsF (i + 1) (Fld.co xs) fun i => Fld.ev f (Fld.co xs i)) = (ptsF i (Fld.co xs) fun i => Fld.ev f (Fld.co xs i)) ++ [(⟨nI (Fld.co xs i), nI (Fld.ev f (Fld.co xs i))⟩ : S86)] := by
      unfold ptsF; rw [List.range_succ]; simp
    rw [e] at h
    have val := eval_ok hq f (Fld.co xs i) (by omega) (okV_row hisP f hf)
    refine Ev.step (f := fun k => (poly_Eval.f k (q : Int) (oI f) (nI (Fld.co xs i))).bind fun bt1527 => juntolaw02_PolyBack.l0 k (q : Int) (nI z) (oI f) (oI xs) ((ptsF i (Fld.co xs) fun i => Fld.ev f (Fld.co xs i)) ++ [(⟨nI (Fld.co xs i), bt1527.1⟩ : S86)]) ((oI (Fld.mk i fun i => Fld.ev f (Fld.co xs i))) ++ [bt1527.1]) (oI xs) (xs.length : Int) ((i + 1 : Nat) : Int)) (fun k => ?_) (Ev.bind val h)
    conv => lhs; simp only [juntolaw02_PolyBack.l0]
    rw [if_pos (by omega), if_pos (by omega), if_pos (by rw [oI_length]; omega), rd_oI, hw]
    simp only [show ((ptsF i (Fld.co xs) fun i => Fld.ev f (Fld.co xs i)).length < 8796093022208) by rw [ptsF_length]; omega, show ((oI (Fld.mk i fun i => Fld.ev f (Fld.co xs i))).length < 17592186044416) by rw [oI_length, Fld.mk_length]; omega, if_true]
end

theorem polyBack (x0 : Int) (x1_0 : List Int) (x1_1 : List Int) (x2 : Int) (w0 : (Lit.int .u64 x0).wf = true) (w1_0 : x1_0.length ≤ maxLen ∧ x1_0.length * 8 ≤ 140737488351232 ∧ ∀ x1_0' ∈ x1_0, (Lit.int .u64 x1_0').wf = true) (w1_1 : x1_1.length ≤ maxLen ∧ x1_1.length * 8 ≤ 140737488351232 ∧ ∀ x1_1' ∈ x1_1, (Lit.int .u64 x1_1').wf = true) (w2 : (Lit.int .u64 x2).wf = true) : ∃ k, juntolaw02_PolyBack.f k x0 x1_0 x1_1 x2 = some true := by
  suffices h : Ev (fun k => juntolaw02_PolyBack.f k x0 x1_0 x1_1 x2) true from h.rounds
  have hu : ∀ c ∈ x1_0, 0 ≤ c := fun c hc => (u64_wf (w1_0.2.2 c hc)).1
  have hv : ∀ c ∈ x1_1, 0 ≤ c := fun c hc => (u64_wf (w1_1.2.2 c hc)).1
  have hx := (u64_wf w2).1
  have hlen := w1_1.2.1
  unfold juntolaw02_PolyBack.f
  refine Ev.bind (ref_right _ _ (by simp) (okV_len _ w1_0.1)) ?_
  by_cases h0 : okV x0 [x1_0] = 0
  · simp only [h0, if_true]
    refine Ev.bind (ref_within x0 x1_1 w1_1.1) ?_
    by_cases hb : belowV x0 x1_1 = 0
    · simp only [hb, if_true]
      by_cases hge : x2 ≥ x0
      · simp only [hge, if_true]
        exact back_out _ _ _ _
      · simp only [hge, if_false]
        refine Ev.bind (twice_at _ (by omega)) ?_
        by_cases hn : x1_1.Nodup
        · simp only [hn, decide_true, Bool.not_true, Bool.false_eq_true, if_false]
          by_cases hl : (x1_1.length : Int) > 201
          · simp only [hl, if_true]
            exact back_out _ _ _ _
          · simp only [hl, if_false]
            obtain ⟨q, hz, f, rfl, rfl, h2, hq, hp, hf⟩ := row_of h0 hu
            obtain ⟨xs, rfl, hxs⟩ := rows_of (q := q) (l := x1_1) (by rw [withinV_ne _ _ (by omega)]; exact hb) hv
            obtain ⟨z, rfl⟩ := nI_of (q := q) hx (by omega)
            refine Ev.bind (trim_fp f (by omega)) ?_
            by_cases ht : (((oI (Fld.trim f)).length : Int) > ((oI xs).length : Int))
            · simp only [ht, decide_true]
              exact back_out _ _ _ _
            · simp only [ht, decide_false]
              rw [oI_length, oI_length] at ht
              have hisP := (okV_one h0).1
              have h := back_loop hq hisP f xs z hf hxs (back_end hp h2 hq hisP f xs z hf hxs (oI_nodup.1 hn) (by omega)) xs.length 0 (by omega)
              refine Ev.step (f := fun k => juntolaw02_PolyBack.l0 k (q : Int) (nI z) (oI f) (oI xs) (ptsF 0 (Fld.co xs) fun i => Fld.ev f (Fld.co xs i)) (oI (Fld.mk 0 fun i => Fld.ev f (Fld.co xs i))) (oI xs) (xs.length : Int) ((0 : Nat) : Int)) (fun k => ?_) h
              simp only [juntolaw02_PolyBack.j0, Bool.false_eq_true, if_false]
              rw [oI_length]
              rfl
        · simp only [hn, decide_false, Bool.not_false, if_true]
          exact back_out _ _ _ _
    · simp only [hb, if_false]
      exact back_out _ _ _ _
  · simp only [h0, if_false]
    exact back_out _ _ _ _

end Go.Proofs.Ytjjnfobeeflnhaa.L

/- The row of PolyBack: for every input the call returns true and changes nothing; no conditions. Out of the contract of the function and the plain law. -/
namespace Go.Proofs.Ytjjnfobeeflnhaa.polyBack
open Go.ChangeShapes Go.WideShapes Go.ChangeAt Go.RowKit Go.Proofs.YtjjnfobeeflnhaaW.PrintWords Go.Proofs.Ytjjnfobeeflnhaa.J Go.Proofs.Ytjjnfobeeflnhaa.Op
set_option linter.unusedVariables false
theorem own : ownKnob Try.prog.godebug = none := by kernel_rfl
theorem laidOut : laidOutB Try.prog = true := by kernel_rfl
set_option maxRecDepth 100000 in
theorem op0 : Opens Try.prog (Kd.int .u64) 22 (fun n => (Lit.int .u64 n).wf = true) := (op_int Try.underlying22)
set_option maxRecDepth 100000 in
theorem op1 : Opens Try.prog (Kd.pair (Kd.slice 22 (Kd.int .u64)) (Kd.slice 22 (Kd.int .u64))) 90 (fun x => (fun l => l.length ≤ maxLen ∧ l.length * 8 ≤ 140737488351232 ∧ ∀ a ∈ l, (fun n => (Lit.int .u64 n).wf = true) a) x.1 ∧ (fun l => l.length ≤ maxLen ∧ l.length * 8 ≤ 140737488351232 ∧ ∀ a ∈ l, (fun n => (Lit.int .u64 n).wf = true) a) x.2) := (op_array2 Try.underlying90 (by kernel_rfl) (op_slice Try.underlying31 (by kernel_rfl) (by kernel_rfl) (op_int Try.underlying22)))
set_option maxRecDepth 100000 in
theorem op2 : Opens Try.prog (Kd.int .u64) 22 (fun n => (Lit.int .u64 n).wf = true) := (op_int Try.underlying22)
set_option maxRecDepth 100000 in
theorem lifted (os : Os) (started : os.Started) (H : Type) (enc : TypeId × Value → H) :
    ReturnsInHanded {} Try.checked os 27 .any (Rows.polyBackSpec.pre6 enc Try.prog Try.f27 Rows.polyBackRow.domain false) (Rows.polyBackSpec.post enc Try.prog Try.f27 false true false false) := by
  refine returnsInHanded_of_change_sized (C := Try.checked) own started (by kernel_rfl) Try.func27
    (ChangeSpec.witness6 (enc := enc) (C := Try.checked) false ⟨#[], #[.int .u64 0, .agg #[.slice none 0 0, .slice none 0 0], .int .u64 0], []⟩ 8 (by kernel_rfl) (by kernel_rfl) (by kernel_rfl) (by kernel_rfl)) ?_
  intro W base args ds gs before hval0 hW hcnd hsz0 _
  have hsz : (DataW.weightsEach Try.prog (Try.f27.params.toList ++ Rows.polyBackSpec.plain.varTypes Try.prog) (ds ++ gs)).all (· ≤ reachBytes) = true := hsz0
  have hval : ∀ (j : Nat) t v, Try.f27.params[j]? = some t → args[j]? = some v → Value.okWide Try.prog W .any base t v := hval0
  have hW' := hW
  obtain ⟨p, q, hA0, hV, rfl, hfz, hnd⟩ := hW
  have hA : DataW.TrodAll enc Try.prog W 0 (fun _ => true) true Try.f27.params.toList args.toList ds p := hA0
  rw [Try.params27] at hA hval hsz
  obtain ⟨v0, vs0, d0, ds0, p0, q0, hargs, rfl, rfl, h0, r0⟩ := trodAll_cons hA
  obtain ⟨v1, vs1, d1, ds1, p1, q1, rfl, rfl, rfl, h1, r1⟩ := trodAll_cons r0
  obtain ⟨v2, vs2, d2, ds2, p2, q2, rfl, rfl, rfl, h2, r2⟩ := trodAll_cons r1
  obtain ⟨rfl, rfl, rfl⟩ := trodAll_nil r2
  obtain rfl : args = #[v0, v1, v2] := by cases args; simp_all
  obtain ⟨rfl, rfl⟩ := trodVars_none hV
  have k0 := h0
  have lt0 : ∀ x ∈ p0, x.block < W.heap.size := by obtain ⟨m, hm⟩ := k0; exact DataW.trod_lt m _ _ _ hm
  obtain ⟨x0, rfl⟩ := okWide_int Try.underlying22 (hval 0 22 v0 rfl rfl)
  obtain ⟨y0, e0, w0⟩ := arg op0 rfl h0 hsz (j := 0) rfl rfl
  have e0' : [Value.int .u64 x0] = [Value.int .u64 y0] := e0
  obtain rfl : x0 = y0 := by simpa using e0'
  have k1 := h1
  have lt1 : ∀ x ∈ p1, x.block < W.heap.size := by obtain ⟨m, hm⟩ := k1; exact DataW.trod_lt m _ _ _ hm
  obtain ⟨cs1, rfl, hn1⟩ := okWide_arr Try.underlying90 (hval 1 90 v1 rfl rfl)
  obtain ⟨⟨x1_0, x1_1⟩, K1, ⟨w1_0, w1_1⟩⟩ := arg op1 (by show cs1.toList.length = _; rw [Array.length_toList, hn1]; kernel_rfl) h1 hsz (j := 1) rfl rfl
  obtain ⟨g1_0, rg1_0, qg1_0, l1_0, M1_0⟩ := K1
  obtain ⟨A1_0, c1_0, l1_0', hc1_0, hr1_0⟩ := l1_0
  obtain ⟨A1_1, c1_1, M1_0', hc1_1, hr1_1⟩ := M1_0
  obtain rfl : cs1 = #[.slice A1_0 x1_0.length c1_0, .slice A1_1 x1_1.length c1_1] := by
    apply Array.toList_inj.1
    have z1 : cs1.toList = _ := qg1_0
    rw [z1, l1_0', M1_0']
    rfl
  have k2 := h2
  have lt2 : ∀ x ∈ p2, x.block < W.heap.size := by obtain ⟨m, hm⟩ := k2; exact DataW.trod_lt m _ _ _ hm
  obtain ⟨x2, rfl⟩ := okWide_int Try.underlying22 (hval 2 22 v2 rfl rfl)
  obtain ⟨y2, e2, w2⟩ := arg op2 rfl h2 hsz (j := 2) rfl rfl
  have e2' : [Value.int .u64 x2] = [Value.int .u64 y2] := e2
  obtain rfl : x2 = y2 := by simpa using e2'
  clear hA0 hval0 hsz0 hsz
  obtain ⟨k, h⟩ := L.polyBack x0 x1_0 x1_1 x2 w0 w1_0 w1_1 w2
  refine (juntolaw02_PolyBack.calls k x0 (fun k => k < W.heap.size) _ _ x1_0 _ _ x1_1 x2 true W (Kd.V_mk hc1_0 (Kd.C_F (Kd.heap_int _) hr1_0)) hr1_1 hc1_1 h).mono fun e W' ⟨he, bel⟩ => ?_
  subst he
  exact ⟨_, rfl, _, _, _, [], _, [], hW', trodAll_mk1 (shut_bool Try.underlying4 _), (trodAll_cons_mk (Below.trod laidOut (by kernel_rfl) (of_decide_eq_true (by kernel_rfl)) k0 bel lt0) (trodAll_cons_mk (Below.trod laidOut (by kernel_rfl) (of_decide_eq_true (by kernel_rfl)) k1 bel lt1) (trodAll_cons_mk (Below.trod laidOut (by kernel_rfl) (of_decide_eq_true (by kernel_rfl)) k2 bel lt2) trodAll_mk0))), rfl, bel.frame _, fun h => by cases h⟩
set_option maxRecDepth 100000 in
theorem closed : joinedFacts Try.pinned.checked.prog 27 Try.f27 Rows.polyBackSpec Rows.polyBackRow = true := by
  unfold joinedFacts
  repeat' with_reducible refine Bool.and_eq_true_iff.2 ⟨?_, ?_⟩
  all_goals first
    | with_reducible exact Facts.enters
    | (rw [Facts.final]; kernel_rfl)
    | (rw [Facts.made]; kernel_rfl)
    | kernel_rfl
theorem over : Rows.polyBackRow.holds Try.pinned (OpenSpec.ofChange Rows.polyBackSpec) :=
  OpenClaim.holds_of_wide 27 Try.f27 rfl rfl rfl rfl rfl rfl rfl ⟨rfl, rfl, rfl, rfl, rfl⟩ rfl rfl rfl rfl rfl (by kernel_rfl) Try.func27 closed
    (of_decide_eq_true (by kernel_rfl)) (by unfold Func.isWrapper; first | (rw [if_pos (by decide +kernel)]; kernel_rfl) | (rw [if_neg (by decide +kernel)]; exact ⟨rfl, rfl⟩))
    (fun os started H enc _ => lifted os started H enc)
theorem proved : Rows.PolyBackSaid := over
#print axioms proved
end Go.Proofs.Ytjjnfobeeflnhaa.polyBack
namespace Go.Proofs.Ytjjnfobeeflnhaa
/-- The row, under a short name, for the claim. -/
theorem polyBack_holds : Rows.PolyBackSaid := polyBack.proved
end Go.Proofs.Ytjjnfobeeflnhaa
